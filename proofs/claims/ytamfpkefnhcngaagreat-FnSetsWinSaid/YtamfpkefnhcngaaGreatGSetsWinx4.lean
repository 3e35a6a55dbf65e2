/- Printed functions, their contracts and plain facts on them: QImplSetOf; QImplVotesSets; QImplVotesLeast; QImplVotesIdle; QImplDummiesOf; QSpecVoList; QSpecVoBefore; QSpecVoSorted; QSpecVoLeast; QSpecVoAll; QSpecVoWins; Q. Conditions: as each theorem states. -/
import Derived.Test.YtamfpkefnhcngaaGreatGSetsWinx1
import Derived.Test.YtamfpkefnhcngaaGreatGSetsWinx3
import Derived.Test.YtamfpkefnhcngaaGreatGSetsWinx2
set_option maxHeartbeats 8000000
set_option maxRecDepth 100000
namespace Go.Proofs.YtamfpkefnhcngaaGreat.Q
open Go.RowKit Go.Proofs.YtamfpkefnhcngaaGreatX Go.Proofs.YtamfpkefnhcngaaGreatY Go.Proofs.YtamfpkefnhcngaaGreatX Go.Proofs.YtamfpkefnhcngaaGreatW.PrintWords Go.Proofs.YtamfpkefnhcngaaGreatW.PrintLast Go.Proofs.YtamfpkefnhcngaaGreatW.PrintMore
attribute [local go_sem] max2_int min2_int max_two min_two max_three min_three max_four min_four   -- for this text's walks alone
set_option linter.unusedVariables false
set_option linter.unusedSimpArgs false
def impl_setOf.l0 : Nat → Int → List Int → Int → Option (List Int)
 | 0, _, _, _ => none
 | k + 1, x0, x3, x4 => if 0 ≤ x4 then (if (shr .i64 x0 x4) > 0 then (if (Go.bits .and .i64 (shr .i64 x0 x4) 1) = 1 then (if x3.length < 17592186044416 then (impl_setOf.l0 k x0 (x3 ++ [x4]) (wrap64 (x4 + 1))) else (none)) else (impl_setOf.l0 k x0 x3 (wrap64 (x4 + 1)))) else (some x3)) else (none)
def impl_setOf.f (k : Nat) (a0 : Int) : Option (List Int) := impl_setOf.l0 k a0 (([] : List Int)) 0
theorem impl_setOf.calls (k : Nat) (a0 : Int) (r : List Int) (w : World) (h : impl_setOf.f k a0 = some r) :
  Calls Tryz.prog 209 #[.int .i64 a0] w fun e w' => ∃ v0_ : Value, e = .returned (v0_) ∧ Kd.R (Kd.int .i64) 3 w' w.heap.size (fun _ => True) v0_ r ∧ Below w.heap.size w w' := by
 have HB := Aside0.mk (Below.refl w.heap.size w)
 have H : (impl_setOf.l0 k a0 (([] : List Int)) 0) = some r := h
 clear h
 obtain ⟨y101, hy101⟩ : ∃ y_ : List Int, y_ = (([] : List Int)) := ⟨_, rfl⟩
 replace H : (impl_setOf.l0 k a0 y101 0) = some r := by first | (rw [hy101]; with_reducible exact H) | (have H2_ := (Option.bind_some _ _).symm.trans H; rw [hy101]; with_reducible exact H2_) | (have H2_ := (Option.bind_some _ _).symm.trans H; with_reducible exact H2_) | with_reducible exact H | (rw [hy101]; exact H) | exact H
 have Ny101 := Aside0.mk hy101
 clear hy101
 have H' := Aside0.mk H
 clear H
 go_enter Tryz.func209, Tryz.ntmps209
 go_wp2_with (first | ((with_reducible refine gate_dst (N := 5) rfl ?_); refine Kd.R_lit (Kd.int .i64) _ 3 ?hg (N := 5) ?hd (xs := ([] : List Int)) (inner := []) (ok := fun _ => True) (okp := fun _ => True) ?hr ?hp (fun _ hk => hk) trivial (Below.refl _ _) (Nat.le_refl _) (by simp) ?_; (case hd => rfl); (case hg => rfl); (case hr => first | (go_simp; done) | (go_simp; rfl)); (case hp => exact (Reps.none _ _)); intro v102 w2 ho3 hb hg_ hnew_; clear hg_ hnew_; (first | rw [← Ny101.out] at ho3 | (simp only [Int.reduceToNat] at ho3; rw [← Ny101.out] at ho3)); have HO103 := Aside0.mk (Kd.R_lower ho3 (below_size HB.out)); replace HB := sB HB hb; clear hb ho3))
 go_loopg [3, 4] k (fun kq v3 v4 w' => ∃ (x3_1 : List Int) (x4_1 : Int), v4 = .int .i64 x4_1 ∧ Aside0 (impl_setOf.l0 kq a0 x3_1 x4_1 = some r) ∧ Aside0 (kq ≤ k) ∧ Aside0 (Kd.R (Kd.int .i64) 3 w' w.heap.size (fun _ => True) v3 x3_1) ∧ Aside0 (Below w.heap.size w w'))
 case atStart => exact ⟨(y101), (0), (by first | rfl | (simp; done) | (simp [*]; done)), H', ⟨Nat.le_refl _⟩, ⟨by exact HO103.out⟩, ⟨by repeat (first | (with_reducible first | exact HB.out | apply ba | apply bd | apply be) | exact HB.out)⟩⟩
 case round =>
  clear H'
  (try clear c2); (try clear p2)
  obtain ⟨x3_1, x4_1, rfl, HA, HK1, HO_3, HB⟩ := hrel
  cases gk with
  | zero => exact absurd HA.out (by simp [impl_setOf.l0])
  | succ k1 =>
   have H := HA.out
   clear HA
   simp only [impl_setOf.l0] at H
   by_cases c4 : 0 ≤ x4_1
   ·rw [if_pos c4] at H
    have c4b0 := eq_true c4
    have c4b1 : decide (0 ≤ x4_1) = true := decide_eq_true c4
    clear c4
    obtain ⟨ji5, hji5⟩ : ∃ j_ : Int, (shr .i64 a0 x4_1) = j_ := ⟨_, rfl⟩
    replace H : (if (ji5) > 0 then (if (Go.bits .and .i64 (ji5) 1) = 1 then (if x3_1.length < 17592186044416 then (impl_setOf.l0 k1 a0 (x3_1 ++ [x4_1]) (wrap64 (x4_1 + 1))) else (none)) else (impl_setOf.l0 k1 a0 x3_1 (wrap64 (x4_1 + 1)))) else (some x3_1)) = some r := by first | (rw [hji5] at H; exact H) | (simp only [hji5] at H ⊢; exact H)
    have hji5_ : (a0 / 2 ^ min x4_1.toNat 64) = ji5 := hji5
    have hji5z : x4_1 ≤ 64 → (a0 / 2 ^ x4_1.toNat) = ji5 := shr_small hji5
    by_cases c6 : (ji5) > 0
    ·rw [if_pos c6] at H
     have c6b0 : decide (0 < (ji5)) = true := decide_eq_true c6
     clear c6
     have c7b0 := eq_true (oD : 0 ≤ x4_1)
     by_cases c9 : (Go.bits .and .i64 (ji5) 1) = 1
     ·rw [if_pos c9] at H
      have c9b0 : ((Go.bits .and .i64 (ji5) 1) == 1) = true := beq_iff_eq.mpr c9
      have c9b1 : ((Go.bits .and .i64 (ji5) 1) != 1) = false := bne_eq_false_iff_eq.mpr c9
      clear c9
      by_cases c10 : x3_1.length < 17592186044416
      ·rw [if_pos c10] at H
       have LMc10 := Aside0.mk c10
       clear c10
       obtain ⟨y104, hy104⟩ : ∃ y_ : List Int, y_ = (x3_1 ++ [x4_1]) := ⟨_, rfl⟩
       replace H : (impl_setOf.l0 k1 a0 y104 (wrap64 (x4_1 + 1))) = some r := by first | (rw [hy104]; with_reducible exact H) | (have H2_ := (Option.bind_some _ _).symm.trans H; rw [hy104]; with_reducible exact H2_) | (have H2_ := (Option.bind_some _ _).symm.trans H; with_reducible exact H2_) | with_reducible exact H | (rw [hy104]; exact H) | exact H
       have Ny104 := Aside0.mk hy104
       clear hy104
       have H' := Aside0.mk H
       clear H
       go_wp2_with (first | ((with_reducible refine gate_builtin (b := .append) (xs := #[.tmp 17, .tmp 19]) rfl ?_); at_builtin; refine Kd.R_append (Kd.int .i64) (w0 := w) w.heap.size rfl (.tmp 17) (.tmp 19) 24 3 (.int .i64 0) 8 rfl Tryz.underlying24 info3 rfl (by decide) (by omega) u3 x3_1 x4_1 [.int .i64 x4_1] (fun _ => True) (fun _ => False) rfl rfl ?aP (fun _ hk => hk.elim) ?aF ?aO ?aB ?aS ?aL ?_; (case aP => exact rfl); (case aB => exact HB.out); (case aF => exact (fun _ _ => trivial)); (case aO => exact HO_3.out); (case aS => exact (below_size HB.out)); (case aL => have := LMc10.out; omega); intro v105 w11 ho hb hg hat; rw [← Ny104.out] at ho; have HO106 := Aside0.mk (ho); replace HB := Aside0.mk (hb); clear ho hb hg hat))
       go_roundg k1
       case measure => have := HK1.out; omega
       case rel => exact ⟨(y104), (wrap64 (x4_1 + 1)), (by first | rfl | (simp; done) | (simp [*]; done)), H', ⟨by have := HK1.out; omega⟩, ⟨by exact HO106.out⟩, ⟨by repeat (first | (with_reducible first | exact HB.out | apply ba | apply bd | apply be) | exact HB.out)⟩⟩
      ·rw [if_neg c10] at H
       exact absurd H (by simp)
     ·rw [if_neg c9] at H
      have c9b0 : ((Go.bits .and .i64 (ji5) 1) == 1) = false := beq_eq_false_iff_ne.mpr c9
      have c9b1 : ((Go.bits .and .i64 (ji5) 1) != 1) = true := bne_iff_ne.mpr c9
      have H' := Aside0.mk H
      clear H
      go_wp2
      go_roundg k1
      case measure => have := HK1.out; omega
      case rel => exact ⟨(x3_1), (wrap64 (x4_1 + 1)), (by first | rfl | (simp; done) | (simp [*]; done)), H', ⟨by have := HK1.out; omega⟩, ⟨by exact HO_3.out⟩, ⟨by repeat (first | (with_reducible first | exact HB.out | apply ba | apply bd | apply be) | exact HB.out)⟩⟩
    ·rw [if_neg c6] at H
     have c6b0 : decide (0 < (ji5)) = false := decide_eq_false c6
     clear c6
     obtain rfl := Option.some.inj H
     go_wp2
     go_ret
     exact ⟨_, by first | rfl | (simp <;> rfl) | (simp only [← hji5]; first | rfl | (simp <;> rfl)) | (simp [*] <;> rfl), by exact HO_3.out, by repeat (first | (with_reducible first | exact HB.out | apply ba | apply bd | apply be) | exact HB.out)⟩
   ·rw [if_neg c4] at H
    exact absurd H (by simp)
open Go.Proofs.YtamfpkefnhcngaaGreatM in
theorem impl_votes_sets.cmp_v (a b : Int) : cmp_Compare_int.f a b = some (if a < b then -1 else if b < a then 1 else 0) := by
 have h : ∀ x : Int, cmp_isNaN_int.f x = some false := fun x => by simp [cmp_isNaN_int.f]
 simp only [cmp_Compare_int.f, h, Option.bind_some, Bool.false_eq_true, if_false]
 by_cases h1 : a < b
 ·rw [if_pos h1, if_pos h1]
 ·by_cases h2 : b < a
  ·rw [if_neg h1, if_pos h2, if_neg h1, if_pos h2]
  ·rw [if_neg h1, if_neg h2, if_neg h1, if_neg h2]
open Go.Proofs.YtamfpkefnhcngaaGreatM in
theorem impl_votes_sets.cmp_ev_l (a b : List Int) (ha : a.length ≤ 9223372036854775807) : ∀ (d i : Nat), i + d = a.length → i ≤ b.length → a.take i = b.take i → Ev (fun k => slices_Compare_int_int.l0 k a b a (a.length : Int) (i : Int)) (Go.Proofs.YtamfpkefnhcngaaGreatM.cmpL (a.drop i) (b.drop i)) := by
 intro d
 induction d with
 | zero =>
  intro i h hb _
  refine ev_step ?_
  simp only [slices_Compare_int_int.l0]
  rw [ev_neg (by omega), List.drop_of_length_le (by omega)]
  by_cases hc : (a.length : Int) < (b.length : Int)
  ·rw [ev_pos hc, ev_now, List.drop_eq_getElem_cons (by omega)]
   rfl
  ·rw [ev_neg hc, ev_now, List.drop_of_length_le (by omega)]
   rfl
 | succ d ih =>
  intro i h hb ht
  refine ev_step ?_
  simp only [slices_Compare_int_int.l0]
  have hi : i < a.length := by omega
  rw [ev_pos (by omega), ev_pos (by omega), ev_pos (by omega)]
  by_cases hc : (i : Int) ≥ (b.length : Int)
  ·rw [ev_pos hc, ev_now, List.drop_eq_getElem_cons hi, List.drop_of_length_le (by omega : b.length ≤ i)]
   rfl
  ·have hib : i < b.length := by omega
   rw [ev_neg hc, ev_pos (by omega), rd_lt a i hi, rd_lt b i hib, ev_bind (ev_of (impl_votes_sets.cmp_v _ _)), w64i (n := a.length) (by omega) (by omega) ha, List.drop_eq_getElem_cons hi, List.drop_eq_getElem_cons hib]
   simp only [Go.Proofs.YtamfpkefnhcngaaGreatM.cmpL]
   by_cases h1 : a[i] < b[i]
   ·rw [if_pos h1, ev_neg (by decide), ev_now, if_pos h1]
   ·by_cases h2 : b[i] < a[i]
    ·rw [if_neg h1, if_pos h2, ev_neg (by decide), ev_now, if_neg h1, if_pos h2]
    ·rw [if_neg h1, if_neg h2, ev_pos rfl, if_neg h1, if_neg h2]
     refine ih (i + 1) (by omega) (by omega) ?_
     rw [List.take_succ_eq_append_getElem hi, List.take_succ_eq_append_getElem hib, ht, show a[i] = b[i] by omega]
open Go.Proofs.YtamfpkefnhcngaaGreatM in
theorem impl_votes_sets.cmp_ev (a b : List Int) (ha : a.length ≤ 9223372036854775807) : Ev (fun k => slices_Compare_int_int.f k a b) (Go.Proofs.YtamfpkefnhcngaaGreatM.cmpL a b) := impl_votes_sets.cmp_ev_l a b ha a.length 0 (by omega) (by omega) (by simp)
def impl_votes_sets.l0 : Nat → (Int → Option Bool) → List Bool → List (List Int) → Int → Option (List (List Int))
 | 0, _, _, _, _ => none
 | k + 1, p, ws, out, x => if x < (ws.length : Int) then ((p x).bind fun b => if b = true then ((impl_setOf.f k x).bind fun s => if out.length < 5000000000000 then impl_votes_sets.l0 k p ws (out ++ [s]) (wrap64 (x + 1)) else none) else impl_votes_sets.l0 k p ws out (wrap64 (x + 1))) else some out
def impl_votes_sets.g (k : Nat) (ws : List Bool) (p : Int → Option Bool) : Option (List (List Int)) := (impl_votes_sets.l0 k p ws [] 0).bind fun out => if out.length < 5000000000000 then some (Go.Proofs.YtamfpkefnhcngaaGreatS.sortL out) else none
theorem impl_votes_sets.hof (k : Nat) (a0 : Int) (A1 : Option Addr) (c1 : Nat) (ws : List Bool) (p : Int → Option Bool) (g : Nat) (fb lb : Array Value) (r : List (List Int)) (w : World) (hr1 : Kd.C Kd.bool w A1 ws.length ws) (eg : ∀ args w, (callFunc g args).run Tryz.prog w = .ok (.enter g args) w)
  (hp : ∀ (W : World) (x : Int) (b : Bool), Below w.heap.size w W → 0 ≤ x → x < (ws.length : Int) → p x = some b → Calls Tryz.prog g (fb ++ #[.int .i64 x] ++ lb) W fun e W' => e = .returned (.bool b) ∧ Below W.heap.size W W') (h : impl_votes_sets.g k ws p = some r) :
  Calls Tryz.prog 144 #[.agg #[.int .i64 a0, .slice A1 ws.length c1], .func (.func g) fb lb] w fun e w' => ∃ v0_ : Value, e = .returned (v0_) ∧ Kd.S (Kd.slice 3 (Kd.int .i64)) 24 w' w.heap.size (fun _ => True) v0_ r ∧ Below w.heap.size w w' := by
 have egC : ∀ args w, (callFunc 211 args).run Tryz.prog w = .ok (.enter 211 args) w := enters_of Tryz.func211 (by kernel_rfl) rfl
 have huV := Tryz.underlying87
 obtain ⟨OUT, hout, hr⟩ := oB h
 by_cases hlo : OUT.length < 5000000000000
 case neg => rw [if_neg hlo] at hr; cases hr
 rw [if_pos hlo] at hr
 obtain rfl := Option.some.inj hr
 have HLO := Aside0.mk hlo
 have HN := Aside0.mk (Kd.C_max hr1)
 have HR := Aside0.mk hr1
 have HP := Aside0.mk hp
 have H' := Aside0.mk hout
 have HB := Aside0.mk (Below.refl w.heap.size w)
 clear hr1 h hout hr hlo hp
 go_enter Tryz.func144, Tryz.ntmps144
 go_wp2_with (first | ((with_reducible refine gate_dst (N := 2) rfl ?_); refine box_event ?hg (N := 2) ?hd (cs := #[.int .i64 a0, .slice A1 ws.length c1]) (t := 87) ?hr ?_; (case hd => rfl); (case hg => rfl); (case hr => first | (go_simp; done) | (go_simp; rfl)); intro gb hg w7 hbox hb; have BK := Aside0.mk (hbox); replace HB := sB HB hb; clear hb hg) | ((with_reducible refine gate_dst (N := 7) rfl ?_); refine Kd.S_lit (Kd.slice 3 (Kd.int .i64)) _ 24 ?hg (N := 7) ?hd (xs := ([] : List (List Int))) (inner := []) (ok := fun _ => True) (okp := fun _ => True) ?hr ?hp (fun _ hk => hk) trivial (Below.refl _ _) (Nat.le_refl _) (by simp) ?_; (case hd => rfl); (case hg => rfl); (case hr => first | (go_simp; done) | (go_simp; rfl)); (case hp => exact (Reps.none _ _)); intro v102 w8 ho hb hg_ hnew_; clear hg_ hnew_; have n0_ := Aside0.mk (Kd.S_lower ho (below_size HB.out)); have n1_ := bB BK hb; have n2_ := sB HB hb; clear HB BK; have HO := n0_; have BK := n1_; have HB := n2_; clear n0_ n1_ n2_; clear hb ho; obtain ⟨Ao9, co9, eo9⟩ := Kd.S_slice HO.out; subst eo9; have hcz1 := cZ BK 1))
 go_loopg [5, 11] k (fun kq v5 v11 w' => ∃ (out : List (List Int)) (x : Int), v11 = .int .i64 x ∧ Aside0 (impl_votes_sets.l0 kq p ws out x = some OUT) ∧ Aside0 (kq ≤ k) ∧ Aside0 (0 ≤ x) ∧ Aside0 (Kd.S (Kd.slice 3 (Kd.int .i64)) 24 w' w.heap.size (fun _ => True) v5 out) ∧ Aside0 (w'.heap[gb]? = some (.cells #[.int .i64 a0, .slice A1 ws.length c1] 87 (0, 0))) ∧ Aside0 (Below w.heap.size w w'))
 case atStart => exact ⟨[], 0, (by first | rfl | (simp; done) | (simp [*]; done)), H', ⟨Nat.le_refl _⟩, ⟨Int.le_refl _⟩, ⟨by exact HO.out⟩, ⟨by exact BK.out⟩, ⟨HB.out⟩⟩
 case round =>
  clear H' HB BK HO
  (try clear hcz1)
  obtain ⟨out, x, rfl, HA, HK1, HX0, HO, BK, HB⟩ := hrel
  cases gk with
  | zero => exact absurd HA.out (by simp [impl_votes_sets.l0])
  | succ k1 =>
   have H := HA.out
   clear HA
   simp only [impl_votes_sets.l0] at H
   by_cases c1 : x < (ws.length : Int)
   ·rw [if_pos c1] at H
    obtain ⟨b, A5, H⟩ := oB H
    have hcall := HP.out wr x b HB.out HX0.out c1 A5
    have HXW : Aside0 (0 ≤ wrap64 (x + 1)) := ⟨by have h1_ := HX0.out; have h2_ := HN.out; unfold wrap64; omega⟩
    have c1b0 : decide (x < (ws.length : Int)) = true := decide_eq_true c1
    clear c1
    cases b with
    | true =>
     rw [if_pos rfl] at H
     obtain ⟨s, A6, H⟩ := oB H
     have A6 := Aside0.mk A6
     by_cases c3 : out.length < 5000000000000
     ·rw [if_pos c3] at H
      obtain ⟨y, hy⟩ : ∃ y_ : List (List Int), y_ = (out ++ [s]) := ⟨_, rfl⟩
      rw [← hy] at H
      have NY := Aside0.mk hy
      have LM := Aside0.mk c3
      have H' := Aside0.mk H
      clear hy c3 H
      go_wp2_with fail
      refine hcall.mono ?_
      rintro e w' ⟨rfl, hb⟩
      have n0_ := Aside0.mk (Kd.S_below HO.out hb)
      have n1_ := bB BK hb
      have n2_ := Aside0.mk (HB.out.trans (hb.mono HB.out.size))
      clear HO BK HB hb hcall
      have HO := n0_
      have BK := n1_
      have HB := n2_
      clear n0_ n1_ n2_
      go_wp2_with (first | ((with_reducible refine gate_callee (f := 209) rfl ?_); refine gL 19 Tryz.func209 #[.int .i64 x] ?_; (with_reducible refine (impl_setOf.calls k1 x s _ A6.out).mono ?_); rintro e w22 ⟨v111, rfl, ho0, hb⟩; refine ⟨_, rfl, ?_⟩; have n0_ := Aside0.mk (Kd.S_elder' HO.out (Kd.R_base ho0) hb); have n1_ := Aside0.mk (Kd.R_lower ho0 (below_size HB.out)); have n2_ := sB HB hb; have n3_ := bB BK hb; clear HO HB BK; have HO := n0_; have HOs := n1_; have HB := n2_; have BK := n3_; clear n0_ n1_ n2_ n3_ hb ho0; obtain ⟨Ao24, co24, eo24⟩ := Kd.R_slice HOs.out; subst eo24) | ((with_reducible refine gate_builtin (b := .append) (xs := #[.tmp 17, .tmp 20]) rfl ?_); at_builtin; refine Kd.S_append (Kd.slice 3 (Kd.int .i64)) (w0 := w) w.heap.size rfl (.tmp 17) (.tmp 20) 45 24 (.slice none 0 0) 24 rfl Tryz.underlying45 info24 rfl (by decide) (by omega) u5 out s [.slice Ao24 s.length co24] (fun _ => True) (fun k_ => some k_ = (.slice Ao24 s.length co24 : Value).ownBlock) rfl rfl ?aP (fun k_ hk_ => (Kd.R_mono (ok' := fun k_ => True ∧ some k_ ≠ (u5 : Value).ownBlock) (Kd.R_apart' HOs.out (Kd.S_typed HO.out) (by decide)) (fun k_ hk => ⟨trivial, hk.2⟩)).1 k_ hk_.symm) ?aF ?aO ?aB ?aS ?aL ?_; (case aP => exact Kd.M_row (Kd.R_mono (Kd.R_tight rfl (Kd.R_mono (ok' := fun k_ => True ∧ some k_ ≠ (u5 : Value).ownBlock) (Kd.R_apart' HOs.out (Kd.S_typed HO.out) (by decide)) (fun k_ hk => ⟨trivial, hk.2⟩))) (fun _ h_ => h_))); (case aB => exact HB.out); (case aF => exact (fun _ _ => trivial)); (case aO => exact (by exact Kd.S_mono HO.out (fun k_ hk => ⟨trivial, fun e_ => hk.2 e_⟩))); (case aS => exact (below_size HB.out)); (case aL => have := LM.out; omega); intro v114 w23 ho hb hg hat; rw [← NY.out] at ho; have n0_ := Aside0.mk (blk_grown BK.out hg (Kd.S_ne HO.out BK.out (by decide))); have n1_ := Aside0.mk hb; have n2_ := Aside0.mk ho; clear BK HB HO HOs; have BK := n0_; have HB := n1_; have HO := n2_; clear n0_ n1_ n2_ ho hb hg hat))
      go_roundg k1
      case measure => have := HK1.out; omega
      case rel => exact ⟨y, (wrap64 (x + 1)), (by first | rfl | (simp; done) | (simp [*]; done)), H', ⟨by have := HK1.out; omega⟩, HXW, ⟨by exact HO.out⟩, ⟨by exact BK.out⟩, ⟨HB.out⟩⟩
     ·rw [if_neg c3] at H
      exact absurd H (by simp)
    | false =>
     rw [if_neg (by decide)] at H
     have H' := Aside0.mk H
     clear H
     go_wp2_with fail
     refine hcall.mono ?_
     rintro e w' ⟨rfl, hb⟩
     have n0_ := Aside0.mk (Kd.S_below HO.out hb)
     have n1_ := bB BK hb
     have n2_ := Aside0.mk (HB.out.trans (hb.mono HB.out.size))
     clear HO BK HB hb hcall
     have HO := n0_
     have BK := n1_
     have HB := n2_
     clear n0_ n1_ n2_
     go_wp2
     go_roundg k1
     case measure => have := HK1.out; omega
     case rel => exact ⟨out, (wrap64 (x + 1)), (by first | rfl | (simp; done) | (simp [*]; done)), H', ⟨by have := HK1.out; omega⟩, HXW, ⟨by exact HO.out⟩, ⟨by exact BK.out⟩, ⟨HB.out⟩⟩
   ·rw [if_neg c1] at H
    obtain rfl := Option.some.inj H
    have c1b0 : decide (x < (ws.length : Int)) = false := decide_eq_false c1
    clear c1 H
    obtain ⟨Ao, co, eo⟩ := Kd.S_slice HO.out
    subst eo
    go_wp2_with fail
    have hs := Go.Proofs.YtamfpkefnhcngaaGreatS.sort_rows Go.Proofs.YtamfpkefnhcngaaGreatL.sortLL (Kd.slice 3 (Kd.int .i64)) rfl Go.Proofs.YtamfpkefnhcngaaGreatM.cmpL Go.Proofs.YtamfpkefnhcngaaGreatS.swoL 211 egC HO.out (by have := HLO.out; omega) (fun W a b u v _ _ ha hb => by
     obtain ⟨A1_, c1_, e1_, hl1, hC1⟩ := ha
     obtain ⟨A2_, c2_, e2_, hl2, hC2⟩ := hb
     obtain rfl := (List.cons.inj e1_).1
     obtain rfl := (List.cons.inj e2_).1
     obtain ⟨K, hK⟩ := impl_votes_sets.cmp_ev a b (Kd.C_max hC1)
     refine (slices_Compare_int_int.calls K A1_ c1_ a A2_ c2_ b _ W hC1 hl1 hC2 hl2 (hK K (Nat.le_refl _))).mono ?_
     rintro e W' ⟨rfl, ⟨q, rfl⟩⟩
     exact ⟨rfl, q, rfl⟩)
    change Calls Tryz.prog 210 _ _ _ at hs
    refine hs.mono ?_
    rintro e w' ⟨rfl, ys, hperm, hsd, hS, hg⟩
    obtain rfl := Go.Proofs.YtamfpkefnhcngaaGreatS.sortL_of hperm hsd
    have HS := Aside0.mk hS
    have HBN := Aside0.mk (HB.out.grown hg HB.out.size (fun k_ hk_ => Kd.S_base HO.out k_ hk_))
    clear hS hg hs HO HB
    go_wp2
    go_ret
    exact ⟨_, rfl, by exact HS.out, HBN.out⟩
def impl_votes_least.f (k : Nat) (a0_0 : Int) (l0_1 : List Bool) : Option (List (List Int)) := impl_votes_sets.g k l0_1 (fun x => impl_votes_isLeast.f k a0_0 l0_1 x)
theorem impl_votes_least.calls (k : Nat) (a0_0 : Int) (A0_1 : Option Addr) (c0_1 : Nat) (l0_1 : List Bool) (r : List (List Int)) (w : World) (hr0_1 : Kd.C Kd.bool w A0_1 l0_1.length l0_1) (hc0_1 : l0_1.length ≤ c0_1) (h : impl_votes_least.f k a0_0 l0_1 = some r) :
  Calls Tryz.prog 143 #[.agg #[.int .i64 a0_0, .slice A0_1 l0_1.length c0_1]] w fun e w' => ∃ v0_ : Value, e = .returned (v0_) ∧ Kd.S (Kd.slice 3 (Kd.int .i64)) 24 w' w.heap.size (fun _ => True) v0_ r ∧ Below w.heap.size w w' := by
 have eg : ∀ args w, (callFunc 208 args).run Tryz.prog w = .ok (.enter 208 args) w := enters_of Tryz.func208 (by kernel_rfl) rfl
 have hmf : ∀ (fn : Fn) (first cap : Array Value) (w : World), (Instr.makeFunc fn first cap).run Tryz.prog w = .ok (.func fn first cap) w := fun _ _ _ _ => rfl
 have huV := Tryz.underlying87
 have HR := Aside0.mk hr0_1
 have HC := Aside0.mk hc0_1
 have H := Aside0.mk h
 clear hr0_1 hc0_1 h
 go_enter Tryz.func143, Tryz.ntmps143
 go_wp2_with fail
 have hB1 : Below w.heap.size w (w.alloc (.cells #[.int .i64 a0_0, .slice A0_1 l0_1.length c0_1] 87)) := (Below.refl _ _).alloc (Nat.le_refl _) _
 refine (impl_votes_sets.hof k a0_0 A0_1 c0_1 l0_1 (fun x => impl_votes_isLeast.f k a0_0 l0_1 x) 208 #[.agg #[.int .i64 a0_0, .slice A0_1 l0_1.length c0_1]] #[] r _ (Kd.C_below HR.out hB1) eg ?_ H.out).mono ?_
 ·intro W x b hb _ _ hx
  exact impl_votes_isLeast.calls k a0_0 A0_1 c0_1 l0_1 x b W (Kd.C_below HR.out (hB1.trans (hb.mono hB1.size))) HC.out hx
 ·rintro e w' ⟨v1, rfl, hS, hb⟩
  have HS := Aside0.mk (Kd.S_lower hS hB1.size)
  have HBN := Aside0.mk (hB1.trans (hb.mono hB1.size))
  clear hS hb hB1
  go_wp2
  go_ret
  exact ⟨_, rfl, HS.out, HBN.out⟩
open Go.Proofs.YtamfpkefnhcngaaGreatM in
theorem impl_votes_idle.index_ev (l : List Int) (x : Int) (hl : l.length ≤ 9223372036854775807) : ∀ (d i : Nat), i + d = l.length → ∃ r : Int, Ev (fun k => slices_Index_int_int.l0 k l x (l.length : Int) (i : Int)) r ∧ decide (r ≥ 0) = (l.drop i).contains x := by
 intro d
 induction d with
 | zero =>
  intro i h
  refine ⟨-1, ev_step ?_, ?_⟩
  ·simp only [slices_Index_int_int.l0]
   rw [ev_neg (by omega), ev_now]
  ·rw [List.drop_of_length_le (by omega)]
   rfl
 | succ d ih =>
  intro i h
  have hi : i < l.length := by omega
  by_cases e : x = l[i]
  ·refine ⟨(i : Int), ev_step ?_, ?_⟩
   ·simp only [slices_Index_int_int.l0]
    rw [ev_pos (by omega), ev_pos (by omega), ev_pos (by omega), rd_lt l i hi, ev_pos e, ev_now]
   ·rw [List.drop_eq_getElem_cons hi, decide_eq_true (by omega), List.contains_cons, beq_iff_eq.2 e, Bool.true_or]
  ·obtain ⟨r, hr1, hr2⟩ := ih (i + 1) (by omega)
   refine ⟨r, ev_step ?_, ?_⟩
   ·simp only [slices_Index_int_int.l0]
    rw [ev_pos (by omega), ev_pos (by omega), ev_pos (by omega), rd_lt l i hi, ev_neg e, w64i (n := l.length) (by omega) (by omega) hl]
    exact hr1
   ·rw [hr2, List.drop_eq_getElem_cons hi, List.contains_cons]
    have : (x == l[i]) = false := beq_eq_false_iff_ne.2 e
    rw [this, Bool.false_or]
open Go.Proofs.YtamfpkefnhcngaaGreatM in
theorem impl_votes_idle.contains_ev (l : List Int) (x : Int) (hl : l.length ≤ 9223372036854775807) : Ev (fun k => slices_Contains_int_int.f k l x) (l.contains x) := by
 obtain ⟨r, h1, h2⟩ := impl_votes_idle.index_ev l x hl l.length 0 (by omega)
 simp only [slices_Contains_int_int.f]
 rw [ev_bind (show Ev (fun k => slices_Index_int_int.f k l x) r from h1), ev_now, h2, List.drop_zero]
def impl_votes_idle.p (L : List (List Int)) (x : Int) : Bool := !(L.any fun s => s.contains x)
def impl_votes_idle.f (k : Nat) (a0_0 : Int) (l0_1 : List Bool) : Option (List Int) := if a0_0 ≤ 9223372036854775807 then (impl_votes_least.f k a0_0 l0_1).bind fun L => impl_members.g k a0_0 (fun x => some (impl_votes_idle.p L x)) else none
theorem impl_isIn_1.clo (x : Int) (A : Option Addr) (c : Nat) (s : List Int) (B : Nat) (W : World) (h0 : W.cell? ⟨B, 0, none⟩ = some (.int .i64 x)) (hr : Kd.C (Kd.int .i64) W A s.length s) (hc : s.length ≤ c) :
  Calls Tryz.prog 225 #[.slice A s.length c, .pointer (some ⟨B, 0, none⟩)] W fun e W' => e = .returned (.bool (s.contains x)) ∧ Below W.heap.size W W' := by
 obtain ⟨K, hK⟩ := impl_votes_idle.contains_ev s x (Kd.C_max hr)
 have HC := Aside0.mk (fun W1 (h1 : Kd.C (Kd.int .i64) W1 A s.length s) => slices_Contains_int_int.calls K A c s x _ W1 h1 hc (hK K (Nat.le_refl _)))
 have HR := Aside0.mk hr
 clear hK hr hc
 generalize s.contains x = b at *
 go_enter Tryz.func225, Tryz.ntmps225
 go_wp2_with fail
 refine (HC.out _ HR.out).mono ?_
 rintro e w' ⟨rfl, hd⟩
 have HD := Aside0.mk hd.below
 clear hd
 go_wp2
 go_ret
 exact ⟨rfl, HD.out⟩
theorem impl_isIn.mk (x : Int) (W : World) : Calls Tryz.prog 207 #[.int .i64 x] W fun e W' => e = .returned (.func (.func 225) #[] #[.pointer (some ⟨W.heap.size, 0, none⟩)]) ∧ W' = W.alloc (.cells #[.int .i64 x] 3) := by
 have hmf : ∀ (fn : Fn) (first cap : Array Value) (w : World), (Instr.makeFunc fn first cap).run Tryz.prog w = .ok (.func fn first cap) w := fun _ _ _ _ => rfl
 go_enter Tryz.func207, Tryz.ntmps207
 go_wp2
 go_ret
 exact ⟨rfl, rfl⟩
theorem impl_votes_idle_1.clo (x : Int) (L : List (List Int)) (A : Option Addr) (c : Nat) (B : Nat) (W : World) (h0 : W.cell? ⟨B, 0, none⟩ = some (.slice A L.length c)) (hr : Kd.C (Kd.slice 3 (Kd.int .i64)) W A L.length L) :
  Calls Tryz.prog 205 #[.int .i64 x, .pointer (some ⟨B, 0, none⟩)] W fun e W' => e = .returned (.bool (impl_votes_idle.p L x)) ∧ Below W.heap.size W W' := by
 have eg : ∀ args w, (callFunc 225 args).run Tryz.prog w = .ok (.enter 225 args) w := enters_of Tryz.func225 (by kernel_rfl) rfl
 have hlt : B < W.heap.size := World.block_lt_of_cell? W _ h0
 have hd0 : W.drew.cell? ⟨B, 0, none⟩ = some (.slice A L.length c) := h0
 have HD0 := Aside0.mk hd0
 have HLT := Aside0.mk (show B < W.drew.heap.size from hlt)
 have HR := Aside0.mk (Kd.C_drew hr)
 have HF := Aside0.mk (fun (W0 : World) (hW : Kd.C (Kd.slice 3 (Kd.int .i64)) W0 A L.length L) => slices_ContainsFunc_intS.hof A c L 225 #[.pointer (some ⟨W0.heap.size, 0, none⟩)] (fun s => s.contains x) (W0.alloc (.cells #[.int .i64 x] 3)) (Kd.C_alloc hW _) eg (fun W1 A1 c1 s _ hb hC hc => impl_isIn_1.clo x A1 c1 s W0.heap.size W1 (by rw [hb.cell (p := ⟨W0.heap.size, 0, none⟩) (by simp)]; simp [go_sem]) hC hc))
 have HBD := Aside0.mk (show Below W.heap.size W W.drew from below_drew1 (Below.refl _ _))
 unfold impl_votes_idle.p
 generalize (L.any fun s => s.contains x) = b at *
 clear hr hlt hd0
 go_enter Tryz.func205, Tryz.ntmps205
 go_wp2
 go_region_held3 (fun w' => w'.cell? ⟨B, 0, none⟩ = some (.slice A L.length c)) (first | exact k0 | go_keep)
  (first | (go_at_call 207; refine (impl_isIn.mk x _).mono ?_; rintro e w' ⟨rfl, rfl⟩; have k0 := ((below_alloc (Below.refl W.drew.heap.size W.drew) (.cells #[.int .i64 x] 3)).cell (p := ⟨B, 0, none⟩) HLT.out).trans HD0.out) | (go_at_call 206; refine (HF.out _ HR.out).mono ?_; rintro e w' ⟨rfl, hb⟩; have k0 := (hb.cell (p := ⟨B, 0, none⟩) (by simp; exact Nat.lt_succ_of_lt HLT.out)).trans (((below_alloc (Below.refl W.drew.heap.size W.drew) (.cells #[.int .i64 x] 3)).cell (p := ⟨B, 0, none⟩) HLT.out).trans HD0.out); have HBN := Aside0.mk (HBD.out.trans ((below_alloc (Below.refl W.drew.heap.size W.drew) (.cells #[.int .i64 x] 3)).trans (hb.mono (by simp)))); clear hb))
 go_wp2
 go_ret
 exact ⟨rfl, HBN.out⟩
theorem impl_votes_idle.calls (k : Nat) (a0_0 : Int) (A0_1 : Option Addr) (c0_1 : Nat) (l0_1 : List Bool) (r : List Int) (w : World) (hr0_1 : Kd.C Kd.bool w A0_1 l0_1.length l0_1) (hc0_1 : l0_1.length ≤ c0_1) (h : impl_votes_idle.f k a0_0 l0_1 = some r) :
  Calls Tryz.prog 139 #[.agg #[.int .i64 a0_0, .slice A0_1 l0_1.length c0_1]] w fun e w' => ∃ v0_ : Value, e = .returned (v0_) ∧ Kd.R (Kd.int .i64) 3 w' w.heap.size (fun _ => True) v0_ r ∧ Below w.heap.size w w' := by
 have eg : ∀ args w, (callFunc 205 args).run Tryz.prog w = .ok (.enter 205 args) w := enters_of Tryz.func205 (by kernel_rfl) rfl
 have hmf : ∀ (fn : Fn) (first cap : Array Value) (w : World), (Instr.makeFunc fn first cap).run Tryz.prog w = .ok (.func fn first cap) w := fun _ _ _ _ => rfl
 have huV := Tryz.underlying87
 by_cases hn : a0_0 ≤ 9223372036854775807
 case neg => simp only [impl_votes_idle.f] at h; rw [if_neg hn] at h; cases h
 simp only [impl_votes_idle.f] at h
 rw [if_pos hn] at h
 obtain ⟨L, hL, hg⟩ := oB h
 have HR := Aside0.mk hr0_1
 have HC := Aside0.mk hc0_1
 have HL := Aside0.mk hL
 have HG := Aside0.mk hg
 have HN := Aside0.mk hn
 have HB1 := Aside0.mk (show Below w.heap.size w (w.alloc (.cells #[.int .i64 a0_0, .slice A0_1 l0_1.length c0_1] 87)) from (Below.refl _ _).alloc (Nat.le_refl _) _)
 clear hr0_1 hc0_1 h hL hg hn
 go_enter Tryz.func139, Tryz.ntmps139
 go_wp2_with fail
 refine (impl_votes_least.calls k a0_0 A0_1 c0_1 l0_1 L _ (Kd.C_below HR.out HB1.out) HC.out HL.out).mono ?_
 rintro e w1 ⟨v1, rfl, hS, hb⟩
 obtain ⟨A1, c1, rfl, hl1, hC1⟩ := Kd.S_reads hS
 have hw1 := blk_new w (.cells #[.int .i64 a0_0, .slice A0_1 l0_1.length c0_1] 87)
 have BK := Aside0.mk (blk_below hw1 hb)
 have HB2 := Aside0.mk (HB1.out.trans (hb.mono HB1.out.size))
 have HC1 := Aside0.mk hC1
 clear hS hl1 hC1 hw1 hb
 have hc0 : (w1.alloc (.cells #[.slice A1 L.length c1] 45)).cell? ⟨w.heap.size, 0, none⟩ = some (.int .i64 a0_0) := (blk_cell (blk_alloc BK.out _) 0).trans rfl
 have HB3 := Aside0.mk (HB2.out.trans ((below_alloc (Below.refl w1.heap.size w1) (.cells #[.slice A1 L.length c1] 45)).mono HB2.out.size))
 have HX := Aside0.mk (fun (k0 : Nat) => impl_members.hof k a0_0 (fun x => some (impl_votes_idle.p L x)) 205 #[] #[.pointer (some ⟨w1.heap.size, 0, none⟩)] r (w1.alloc (.cells #[.slice A1 L.length c1] 45)) HN.out eg (fun W x b hb _ _ hx => by
  obtain rfl := Option.some.inj hx
  refine impl_votes_idle_1.clo x L A1 c1 w1.heap.size W ?_ (Kd.C_below (Kd.C_alloc HC1.out _) hb)
  rw [hb.cell (p := ⟨w1.heap.size, 0, none⟩) (by simp)]
  simp [go_sem]) HG.out)
 go_wp2_with fail
 refine (HX.out 0).mono ?_
 rintro e w' ⟨v2, rfl, hO, hb⟩
 have HO := Aside0.mk (Kd.R_lower hO HB3.out.size)
 have HB4 := Aside0.mk (HB3.out.trans (hb.mono HB3.out.size))
 clear hO hb
 go_wp2
 go_ret
 exact ⟨_, rfl, HO.out, HB4.out⟩
def impl_DummiesOf.f (k : Nat) (a0_0 : Int) (l0_1 : List Int) : Option (List Int × Bool) := (impl_IsCommittee.f k a0_0 l0_1).bind fun t102 => (if t102 = true then ((impl_Committee_votes.f k a0_0 l0_1).bind fun bt103 => ((impl_votes_idle.f k bt103.1 bt103.2).bind fun t107 => (some (t107, true)))) else (some (([] : List Int), false)))
theorem impl_DummiesOf.calls (k : Nat) (a0_0 : Int) (A0_1 : Option Addr) (c0_1 : Nat) (l0_1 : List Int) (r1 : List Int) (r2 : Bool) (w : World) (hr0_1 : Kd.C (Kd.int .i64) w A0_1 l0_1.length l0_1) (hc0_1 : l0_1.length ≤ c0_1) (h : impl_DummiesOf.f k a0_0 l0_1 = some (r1, r2)) :
  Calls Tryz.prog 30 #[.agg #[.int .i64 a0_0, .slice A0_1 l0_1.length c0_1]] w fun e w' => ∃ v0_ : Value, e = .returned (.tuple #[v0_, .bool r2]) ∧ Kd.R (Kd.int .i64) 3 w' w.heap.size (fun _ => True) v0_ r1 ∧ Below w.heap.size w w' := by
 have hu26 := Tryz.underlying26
 have HR0_1 := Aside0.mk hr0_1
 have HC0_1 := Aside0.mk hc0_1
 clear hr0_1 hc0_1
 have HB := Aside0.mk (Below.refl w.heap.size w)
 have H : ((impl_IsCommittee.f k a0_0 l0_1).bind fun t102 => (if t102 = true then ((impl_Committee_votes.f k a0_0 l0_1).bind fun bt103 => ((impl_votes_idle.f k bt103.1 bt103.2).bind fun t107 => (some (t107, true)))) else (some (([] : List Int), false)))) = some (r1, r2) := h
 clear h
 replace H := oA H
 obtain ⟨t102, A2, H⟩ := H
 (try dsimp only at H)
 by_cases c3 : t102 = true
 ·subst c3
  replace H := iT H
  replace H := oB H
  obtain ⟨⟨t103, t104⟩, A40, H⟩ := H
  (try dsimp only at H)
  have A4 := Aside0.mk A40
  clear A40
  replace H := oA H
  obtain ⟨t107, A5, H⟩ := H
  (try dsimp only at H)
  simp only [Option.some.injEq, Prod.mk.injEq] at H
  obtain ⟨rfl, rfl⟩ := H
  go_enter Tryz.func30, Tryz.ntmps30
  go_wp2_with (first | ((with_reducible refine gate_dst (N := 1) rfl ?_); refine box_event ?hg (N := 1) ?hd (cs := #[.int .i64 a0_0, .slice A0_1 l0_1.length c0_1]) (t := 26) ?hr ?_; (case hd => rfl); (case hg => rfl); (case hr => first | (go_simp; done) | (go_simp; rfl)); intro gb101 hg w6 hbox hb; have BK101 := Aside0.mk (hbox); have GW101 := gS hg HB; have GE101 := gS hg HB; replace HB := sB HB hb; clear hb hg; have hcz7_0 := cZ BK101 0; have hcz7_1 := cZ BK101 1; have hfz7_0 := fZ BK101 0; have hfz7_1 := fZ BK101 1) | ((with_reducible refine gate_callee (f := 20) rfl ?_); refine gL 5 Tryz.func20 #[.agg #[.int .i64 a0_0, .slice A0_1 l0_1.length c0_1]] ?_; (with_reducible refine (impl_IsCommittee.calls k a0_0 _ _ l0_1 true _ (Kd.C_below HR0_1.out HB.out) HC0_1.out A2.out).mono ?_); rintro e w8 ⟨rfl, hb⟩; refine ⟨_, rfl, ?_⟩; replace BK101 := bB BK101 hb; replace HB := sB HB hb; (try clear hb); (try clear hcz7_0 hcz7_1 hfz7_0 hfz7_1); have hcz9_0 := cZ BK101 0; have hcz9_1 := cZ BK101 1; have hfz9_0 := fZ BK101 0; have hfz9_1 := fZ BK101 1) | ((with_reducible refine gate_callee (f := 135) rfl ?_); refine gL 8 Tryz.func135 #[.agg #[.int .i64 a0_0, .slice A0_1 l0_1.length c0_1]] ?_; (with_reducible refine (impl_Committee_votes.calls k a0_0 _ _ l0_1 t103 t104 _ (Kd.C_below HR0_1.out HB.out) HC0_1.out A4.out).mono ?_); rintro e w10 ⟨v105, rfl, ho0, hb⟩; refine ⟨_, rfl, ?_⟩; have HO106 := Aside0.mk (Kd.R_lower ho0 (below_size HB.out)); replace BK101 := bB BK101 hb; replace HB := sB HB hb; (try clear hb); (try clear ho0); obtain ⟨Ao11, co11, eo11⟩ := Kd.R_slice HO106.out; subst eo11) | ((with_reducible refine gate_callee (f := 139) rfl ?_); refine gL 9 Tryz.func139 #[.agg #[.int .i64 t103, .slice Ao11 t104.length co11]] ?_; (with_reducible refine (impl_votes_idle.calls k t103 _ _ t104 t107 _ ?side1 ?side2 A5.out).mono ?_); (case side1 => repeat (first | exact (Kd.R_reads' HO106.out).2.2 | (with_reducible refine Kd.C_alloc ?_ _) | (with_reducible refine Kd.C_drewN ?_ _) | (with_reducible refine Kd.C_drew ?_))); (case side2 => exact (Kd.R_reads' HO106.out).2.1); rintro e w12 ⟨v108, rfl, ho0, hb⟩; refine ⟨_, rfl, ?_⟩; have HO109 := Aside0.mk (Kd.R_lower ho0 (below_size HB.out)); replace HO106 := Aside0.mk (Kd.R_below HO106.out hb); replace BK101 := bB BK101 hb; replace HB := sB HB hb; (try clear hb); (try clear ho0)))
  go_ret2
  exact ⟨_, by first | rfl | (simp <;> rfl) | (simp [*] <;> rfl), by exact HO109.out, by repeat (first | (with_reducible first | exact HB.out | apply ba | apply bd | apply be | refine bs ?_ GE101.out) | exact HB.out)⟩
 ·replace c3 := Bool.eq_false_iff.mpr c3
  subst c3
  replace H := iF H
  simp only [Option.some.injEq, Prod.mk.injEq] at H
  obtain ⟨rfl, rfl⟩ := H
  go_enter Tryz.func30, Tryz.ntmps30
  go_wp2_with (first | ((with_reducible refine gate_dst (N := 1) rfl ?_); refine box_event ?hg (N := 1) ?hd (cs := #[.int .i64 a0_0, .slice A0_1 l0_1.length c0_1]) (t := 26) ?hr ?_; (case hd => rfl); (case hg => rfl); (case hr => first | (go_simp; done) | (go_simp; rfl)); intro gb101 hg w13 hbox hb; have BK101 := Aside0.mk (hbox); have GW101 := gS hg HB; have GE101 := gS hg HB; replace HB := sB HB hb; clear hb hg; (try clear hcz9_0 hcz9_1 hfz9_0 hfz9_1); have hcz14_0 := cZ BK101 0; have hcz14_1 := cZ BK101 1; have hfz14_0 := fZ BK101 0; have hfz14_1 := fZ BK101 1) | ((with_reducible refine gate_callee (f := 20) rfl ?_); refine gL 5 Tryz.func20 #[.agg #[.int .i64 a0_0, .slice A0_1 l0_1.length c0_1]] ?_; (with_reducible refine (impl_IsCommittee.calls k a0_0 _ _ l0_1 false _ (Kd.C_below HR0_1.out HB.out) HC0_1.out A2.out).mono ?_); rintro e w15 ⟨rfl, hb⟩; refine ⟨_, rfl, ?_⟩; replace BK101 := bB BK101 hb; replace HB := sB HB hb; (try clear hb)))
  go_ret2
  exact ⟨_, by first | rfl | (simp <;> rfl) | (simp [*] <;> rfl), by first | exact Kd.R_nil _ _ _ _ _ | exact Kd.N_nil _ _ _ _ _ | exact Kd.V_nil _ _ _ _ _ | exact Kd.Q_nil _ _ _ _ _ | exact Kd.S_nil _ _ _ _ _, by repeat (first | (with_reducible first | exact HB.out | apply ba | apply bd | apply be | refine bs ?_ GE101.out) | exact HB.out)⟩
def spec_voList.l0 : Nat → Int → List Int → Int → Option (List Int)
 | 0, _, _, _ => none
 | k + 1, x0, x3, x4 => if 0 ≤ x4 then (if (shr .i64 x0 x4) > 0 then (if (Int.tmod (shr .i64 x0 x4) 2) = 1 then (if x3.length < 17592186044416 then (spec_voList.l0 k x0 (x3 ++ [x4]) (wrap64 (x4 + 1))) else (none)) else (spec_voList.l0 k x0 x3 (wrap64 (x4 + 1)))) else (some x3)) else (none)
def spec_voList.f (k : Nat) (a0 : Int) : Option (List Int) := spec_voList.l0 k a0 ([] : List Int) 0
theorem spec_voList.calls (k : Nat) (a0 : Int) (r : List Int) (w : World) (h : spec_voList.f k a0 = some r) :
  Calls Tryz.prog 146 #[.int .i64 a0] w fun e w' => ∃ v0_ : Value, e = .returned (v0_) ∧ Kd.R (Kd.int .i64) 3 w' w.heap.size (fun _ => True) v0_ r ∧ Below w.heap.size w w' := by
 have HB := Aside0.mk (Below.refl w.heap.size w)
 have H : (spec_voList.l0 k a0 ([] : List Int) 0) = some r := h
 clear h
 have H' := Aside0.mk H
 clear H
 go_enter Tryz.func146, Tryz.ntmps146
 go_wp2
 go_loopg [3, 4] k (fun kq v3 v4 w' => ∃ (x3_1 : List Int) (x4_1 : Int), v4 = .int .i64 x4_1 ∧ Aside0 (spec_voList.l0 kq a0 x3_1 x4_1 = some r) ∧ Aside0 (kq ≤ k) ∧ Aside0 (Kd.R (Kd.int .i64) 3 w' w.heap.size (fun _ => True) v3 x3_1) ∧ Aside0 (Below w.heap.size w w'))
 case atStart => exact ⟨(([] : List Int)), (0), (by first | rfl | (simp; done) | (simp [*]; done)), H', ⟨Nat.le_refl _⟩, ⟨by first | exact Kd.R_nil _ _ _ _ _ | exact Kd.N_nil _ _ _ _ _ | exact Kd.V_nil _ _ _ _ _ | exact Kd.Q_nil _ _ _ _ _ | exact Kd.S_nil _ _ _ _ _⟩, ⟨by repeat (first | (with_reducible first | exact HB.out | apply ba | apply bd | apply be) | exact HB.out)⟩⟩
 case round =>
  clear H'
  (try clear c1)
  obtain ⟨x3_1, x4_1, rfl, HA, HK1, HO_3, HB⟩ := hrel
  cases gk with
  | zero => exact absurd HA.out (by simp [spec_voList.l0])
  | succ k1 =>
   have H := HA.out
   clear HA
   simp only [spec_voList.l0] at H
   by_cases c2 : 0 ≤ x4_1
   ·rw [if_pos c2] at H
    have c2b0 := eq_true c2
    have c2b1 : decide (0 ≤ x4_1) = true := decide_eq_true c2
    clear c2
    obtain ⟨ji3, hji3⟩ : ∃ j_ : Int, (shr .i64 a0 x4_1) = j_ := ⟨_, rfl⟩
    replace H : (if (ji3) > 0 then (if (Int.tmod (ji3) 2) = 1 then (if x3_1.length < 17592186044416 then (spec_voList.l0 k1 a0 (x3_1 ++ [x4_1]) (wrap64 (x4_1 + 1))) else (none)) else (spec_voList.l0 k1 a0 x3_1 (wrap64 (x4_1 + 1)))) else (some x3_1)) = some r := by first | (rw [hji3] at H; exact H) | (simp only [hji3] at H ⊢; exact H)
    have hji3_ : (a0 / 2 ^ min x4_1.toNat 64) = ji3 := hji3
    have hji3z : x4_1 ≤ 64 → (a0 / 2 ^ x4_1.toNat) = ji3 := shr_small hji3
    by_cases c4 : (ji3) > 0
    ·rw [if_pos c4] at H
     have c4b0 : decide (0 < (ji3)) = true := decide_eq_true c4
     clear c4
     have c5b0 := eq_true (oD : 0 ≤ x4_1)
     by_cases c7 : (Int.tmod (ji3) 2) = 1
     ·rw [if_pos c7] at H
      have c7b0 : ((Int.tmod (ji3) 2) == 1) = true := beq_iff_eq.mpr c7
      have c7b1 : ((Int.tmod (ji3) 2) != 1) = false := bne_eq_false_iff_eq.mpr c7
      clear c7
      by_cases c8 : x3_1.length < 17592186044416
      ·rw [if_pos c8] at H
       have LMc8 := Aside0.mk c8
       clear c8
       obtain ⟨y101, hy101⟩ : ∃ y_ : List Int, y_ = (x3_1 ++ [x4_1]) := ⟨_, rfl⟩
       replace H : (spec_voList.l0 k1 a0 y101 (wrap64 (x4_1 + 1))) = some r := by first | (rw [hy101]; with_reducible exact H) | (have H2_ := (Option.bind_some _ _).symm.trans H; rw [hy101]; with_reducible exact H2_) | (have H2_ := (Option.bind_some _ _).symm.trans H; with_reducible exact H2_) | with_reducible exact H | (rw [hy101]; exact H) | exact H
       have Ny101 := Aside0.mk hy101
       clear hy101
       have H' := Aside0.mk H
       clear H
       go_wp2_with (first | ((with_reducible refine gate_builtin (b := .append) (xs := #[.tmp 16, .tmp 18]) rfl ?_); at_builtin; refine Kd.R_append (Kd.int .i64) (w0 := w) w.heap.size rfl (.tmp 16) (.tmp 18) 24 3 (.int .i64 0) 8 rfl Tryz.underlying24 info3 rfl (by decide) (by omega) u3 x3_1 x4_1 [.int .i64 x4_1] (fun _ => True) (fun _ => False) rfl rfl ?aP (fun _ hk => hk.elim) ?aF ?aO ?aB ?aS ?aL ?_; (case aP => exact rfl); (case aB => exact HB.out); (case aF => exact (fun _ _ => trivial)); (case aO => exact HO_3.out); (case aS => exact (below_size HB.out)); (case aL => have := LMc8.out; omega); intro v102 w9 ho hb hg hat; rw [← Ny101.out] at ho; have HO103 := Aside0.mk (ho); replace HB := Aside0.mk (hb); clear ho hb hg hat))
       go_roundg k1
       case measure => have := HK1.out; omega
       case rel => exact ⟨(y101), (wrap64 (x4_1 + 1)), (by first | rfl | (simp; done) | (simp [*]; done)), H', ⟨by have := HK1.out; omega⟩, ⟨by exact HO103.out⟩, ⟨by repeat (first | (with_reducible first | exact HB.out | apply ba | apply bd | apply be) | exact HB.out)⟩⟩
      ·rw [if_neg c8] at H
       exact absurd H (by simp)
     ·rw [if_neg c7] at H
      have c7b0 : ((Int.tmod (ji3) 2) == 1) = false := beq_eq_false_iff_ne.mpr c7
      have c7b1 : ((Int.tmod (ji3) 2) != 1) = true := bne_iff_ne.mpr c7
      have H' := Aside0.mk H
      clear H
      go_wp2
      go_roundg k1
      case measure => have := HK1.out; omega
      case rel => exact ⟨(x3_1), (wrap64 (x4_1 + 1)), (by first | rfl | (simp; done) | (simp [*]; done)), H', ⟨by have := HK1.out; omega⟩, ⟨by exact HO_3.out⟩, ⟨by repeat (first | (with_reducible first | exact HB.out | apply ba | apply bd | apply be) | exact HB.out)⟩⟩
    ·rw [if_neg c4] at H
     have c4b0 : decide (0 < (ji3)) = false := decide_eq_false c4
     clear c4
     obtain rfl := Option.some.inj H
     go_wp2
     go_ret
     exact ⟨_, by first | rfl | (simp <;> rfl) | (simp only [← hji3]; first | rfl | (simp <;> rfl)) | (simp [*] <;> rfl), by exact HO_3.out, by repeat (first | (with_reducible first | exact HB.out | apply ba | apply bd | apply be) | exact HB.out)⟩
   ·rw [if_neg c2] at H
    exact absurd H (by simp)
mutual
def spec_voBefore.l0 : Nat → List Int → List Int → Int → Option (Bool)
 | 0, _, _, _ => none
 | k + 1, x0, x1, x5 => if x5 < (x0.length : Int) then (spec_voBefore.j1 k x0 x1 x5 (decide (x5 < (x1.length : Int)))) else (spec_voBefore.j1 k x0 x1 x5 false)
def spec_voBefore.j1 : Nat → List Int → List Int → Int → Bool → Option (Bool)
 | 0, _, _, _, _ => none
 | k + 1, x0, x1, x5, x15 => if x15 = true then (if 0 ≤ x5 then (if x5 < (x0.length : Int) then (if x5 < (x1.length : Int) then (if (rd x0 x5) = (rd x1 x5) then (spec_voBefore.l0 k x0 x1 (wrap64 (x5 + 1))) else (some (decide ((rd x0 x5) < (rd x1 x5))))) else (none)) else (none)) else (none)) else (some (decide ((x0.length : Int) < (x1.length : Int))))
end
def spec_voBefore.f (k : Nat) (l0 : List Int) (l1 : List Int) : Option (Bool) := spec_voBefore.l0 k l0 l1 0
theorem spec_voBefore.calls (k : Nat) (A0 : Option Addr) (c0 : Nat) (l0 : List Int) (A1 : Option Addr) (c1 : Nat) (l1 : List Int) (r : Bool) (w : World) (hr0 : Kd.C (Kd.int .i64) w A0 l0.length l0) (hc0 : l0.length ≤ c0) (hr1 : Kd.C (Kd.int .i64) w A1 l1.length l1) (hc1 : l1.length ≤ c1) (h : spec_voBefore.f k l0 l1 = some r) :
  Calls Tryz.prog 212 #[.slice A0 l0.length c0, .slice A1 l1.length c1] w fun e w' => e = .returned (.bool r) ∧ Drawn0 w w' := by
 have HR0 := Aside0.mk hr0
 have HC0 := Aside0.mk hc0
 clear hr0 hc0
 have HR1 := Aside0.mk hr1
 have HC1 := Aside0.mk hc1
 clear hr1 hc1
 have H : (spec_voBefore.l0 k l0 l1 0) = some r := h
 clear h
 have H' := Aside0.mk H
 clear H
 go_enter Tryz.func212, Tryz.ntmps212
 go_wp2
 repeat (go_quiet (fail); try go_wp2)
 go_loopg [5] k (fun kq v5 w' => ∃ (x5_1 : Int), v5 = .int .i64 x5_1 ∧ Aside0 (spec_voBefore.l0 kq l0 l1 x5_1 = some r) ∧ Aside0 (kq ≤ k) ∧ Drawn0 w w')
 case atStart => exact ⟨(0), (by first | rfl | (simp; done) | (simp [*]; done)), H', ⟨Nat.le_refl _⟩, by repeat (first | exact Drawn0.refl _ | apply Drawn0.step)⟩
 case round =>
  clear H'
  (try clear c1); (try clear c2); (try clear p2)
  obtain ⟨x5_1, rfl, HA, HK1, ⟨m1, rfl⟩⟩ := hrel
  cases gk with
  | zero => exact absurd HA.out (by simp [spec_voBefore.l0])
  | succ k1 =>
   have H := HA.out
   clear HA
   simp only [spec_voBefore.l0] at H
   have HC3 := Aside0.mk H
   clear H
   go_upto_region 2 with (fail)
   repeat (go_quiet (fail); go_upto_region 2 with (fail))
   go_cut [15] (fun v15 wc => ∃ (kq : Nat) (x15_2 : Bool), v15 = .bool x15_2 ∧ Aside0 (spec_voBefore.j1 kq l0 l1 x5_1 x15_2 = some r) ∧ Aside0 (kq ≤ k1) ∧ Drawn0 w wc)
   case first =>
    have H := HC3.out
    clear HC3
    by_cases c4 : x5_1 < (l0.length : Int)
    ·rw [if_pos c4] at H
     have c4b0 : decide (x5_1 < (l0.length : Int)) = true := decide_eq_true c4
     clear c4
     (first | rw [c4b0] | (simp only [i64_w, i32_w]; rw [c4b0]) | skip)
     have H' := Aside0.mk H
     clear H
     go_wp2
     repeat (go_quiet (fail); try go_wp2)
     go_meet
     case rel => exact ⟨_, (decide (x5_1 < (l1.length : Int))), (by first | rfl | (simp; done) | (simp [*]; done)), H', ⟨by have := HK1.out; first | omega | exact Nat.le_refl _⟩, by repeat (first | exact Drawn0.refl _ | apply Drawn0.step)⟩
    ·rw [if_neg c4] at H
     have c4b0 : decide (x5_1 < (l0.length : Int)) = false := decide_eq_false c4
     clear c4
     (first | rw [c4b0] | (simp only [i64_w, i32_w]; rw [c4b0]) | skip)
     have H' := Aside0.mk H
     clear H
     go_wp2
     repeat (go_quiet (fail); try go_wp2)
     go_meet
     case rel => exact ⟨_, (false), (by first | rfl | (simp; done) | (simp [*]; done)), H', ⟨by have := HK1.out; first | omega | exact Nat.le_refl _⟩, by repeat (first | exact Drawn0.refl _ | apply Drawn0.step)⟩
   case rest =>
    clear HC3
    (try clear c1); (try clear c2); (try clear p2); (try clear c4); (try clear c4b0); (try clear p2)
    obtain ⟨kq, x15_2, rfl, HA, HJ2, ⟨mc2, rfl⟩⟩ := hcut
    cases kq with
    | zero => exact absurd HA.out (by simp [spec_voBefore.j1])
    | succ kj2 =>
     have H := HA.out
     clear HA
     simp only [spec_voBefore.j1] at H
     by_cases c5 : x15_2 = true
     ·subst c5
      replace H := iT H
      by_cases c6 : 0 ≤ x5_1
      ·rw [if_pos c6] at H
       have c6b0 : decide (0 ≤ x5_1) = true := decide_eq_true c6
       clear c6
       by_cases c7 : x5_1 < (l0.length : Int)
       ·rw [if_pos c7] at H
        have c7b0 : decide (x5_1 < (l0.length : Int)) = true := decide_eq_true c7
        clear c7
        by_cases c8 : x5_1 < (l1.length : Int)
        ·rw [if_pos c8] at H
         have c8b0 : decide (x5_1 < (l1.length : Int)) = true := decide_eq_true c8
         clear c8
         by_cases c9 : (rd l0 x5_1) = (rd l1 x5_1)
         ·rw [if_pos c9] at H
          have c9b0 : ((rd l0 x5_1) == (rd l1 x5_1)) = true := beq_iff_eq.mpr c9
          have c9b1 : ((rd l0 x5_1) != (rd l1 x5_1)) = false := bne_eq_false_iff_eq.mpr c9
          clear c9
          have H' := Aside0.mk H
          clear H
          have p101 : 0 ≤ (x5_1 : Int) := oD
          have q101 : x5_1 < (l0.length : Int) := oD
          obtain ⟨ad101, e101, hx101_0⟩ := Kd.at_int HR0.out x5_1 p101 q101
          cases e101
          replace p101 := eq_true p101
          replace q101 := eq_true q101
          have p102 : 0 ≤ (x5_1 : Int) := oD
          have q102 : x5_1 < (l1.length : Int) := oD
          obtain ⟨ad102, e102, hx102_0⟩ := Kd.at_int HR1.out x5_1 p102 q102
          cases e102
          replace p102 := eq_true p102
          replace q102 := eq_true q102
          go_wp2
          repeat (go_quiet (fail); try go_wp2)
          go_roundg kj2
          case measure => have := HK1.out; have := HJ2.out; omega
          case rel => exact ⟨(wrap64 (x5_1 + 1)), (by first | rfl | (simp; done) | (simp [*]; done)), H', ⟨by have := HK1.out; have := HJ2.out; omega⟩, by repeat (first | exact Drawn0.refl _ | apply Drawn0.step)⟩
         ·rw [if_neg c9] at H
          have c9b0 : ((rd l0 x5_1) == (rd l1 x5_1)) = false := beq_eq_false_iff_ne.mpr c9
          have c9b1 : ((rd l0 x5_1) != (rd l1 x5_1)) = true := bne_iff_ne.mpr c9
          obtain rfl := Option.some.inj H
          have p101 : 0 ≤ (x5_1 : Int) := oD
          have q101 : x5_1 < (l0.length : Int) := oD
          obtain ⟨ad101, e101, hx101_0⟩ := Kd.at_int HR0.out x5_1 p101 q101
          cases e101
          replace p101 := eq_true p101
          replace q101 := eq_true q101
          have p102 : 0 ≤ (x5_1 : Int) := oD
          have q102 : x5_1 < (l1.length : Int) := oD
          obtain ⟨ad102, e102, hx102_0⟩ := Kd.at_int HR1.out x5_1 p102 q102
          cases e102
          replace p102 := eq_true p102
          replace q102 := eq_true q102
          have p103 : 0 ≤ (x5_1 : Int) := oD
          have q103 : x5_1 < (l0.length : Int) := oD
          obtain ⟨ad103, e103, hx103_0⟩ := Kd.at_int HR0.out x5_1 p103 q103
          obtain rfl : ad101 = ad103 := (by injection e103)
          replace p103 := eq_true p103
          replace q103 := eq_true q103
          have p104 : 0 ≤ (x5_1 : Int) := oD
          have q104 : x5_1 < (l1.length : Int) := oD
          obtain ⟨ad104, e104, hx104_0⟩ := Kd.at_int HR1.out x5_1 p104 q104
          obtain rfl : ad102 = ad104 := (by injection e104)
          replace p104 := eq_true p104
          replace q104 := eq_true q104
          go_wp2
          repeat (go_quiet (fail); try go_wp2)
          go_ret
          exact ⟨by first | rfl | (simp; done) | (simp [*]; done), by repeat (first | exact Drawn0.refl _ | apply Drawn0.step)⟩
        ·rw [if_neg c8] at H
         exact absurd H (by simp)
       ·rw [if_neg c7] at H
        exact absurd H (by simp)
      ·rw [if_neg c6] at H
       exact absurd H (by simp)
     ·replace c5 := Bool.eq_false_iff.mpr c5
      subst c5
      replace H := iF H
      obtain rfl := Option.some.inj H
      go_wp2
      repeat (go_quiet (fail); try go_wp2)
      go_ret
      exact ⟨by first | rfl | (simp; done) | (simp [*]; done), by repeat (first | exact Drawn0.refl _ | apply Drawn0.step)⟩
mutual
def spec_voSorted.l0 : Nat → List (List Int) → List (List Int) → Int → Option (List (List Int))
 | 0, _, _, _ => none
 | k + 1, out, l, x => if x < (l.length : Int) then (if 0 ≤ x then spec_voSorted.l1 k out l x (rdOf [] l x) 0 else none) else some out
def spec_voSorted.l1 : Nat → List (List Int) → List (List Int) → Int → List Int → Int → Option (List (List Int))
 | 0, _, _, _, _, _ => none
 | k + 1, out, l, x, s, y => if y < (out.length : Int) then ((spec_voBefore.f k (rdOf [] out y) s).bind fun t => if t = true then spec_voSorted.l1 k out l x s (wrap64 (y + 1)) else (if out.length < 5000000000000 then spec_voSorted.l0 k (out.take y.toNat ++ s :: out.drop y.toNat) l (wrap64 (x + 1)) else none)) else (if out.length < 5000000000000 then spec_voSorted.l0 k (out.take y.toNat ++ s :: out.drop y.toNat) l (wrap64 (x + 1)) else none)
end
def spec_voSorted.f (k : Nat) (l0 : List (List Int)) : Option (List (List Int)) := spec_voSorted.l0 k [] l0 0
theorem spec_voSorted.next {k : Nat} {l0 : List (List Int)} {ys : List (Fin l0.length)} {x y : Int} {p : Fin l0.length} {z : List Int} {r : List (List Int)} (h0 : 0 ≤ x) (hl : x < (l0.length : Int)) (hn : l0.length ≤ 9223372036854775807) (hp : p.1 = x.toNat) (hz : z = l0[p]) (h : spec_voSorted.l0 k ((ys.map fun i => l0[i]).take y.toNat ++ z :: (ys.map fun i => l0[i]).drop y.toNat) l0 (wrap64 (x + 1)) = some r) : spec_voSorted.l0 k (([] ++ ys.take y.toNat ++ [p] ++ ys.drop y.toNat).map fun i => l0[i]) l0 (wrap64 (x + 1)) = some r := by
 rw [← h]
 congr 1
 simp [hz, List.map_take, List.map_drop]
theorem spec_voSorted.perm {n : Nat} {ys : List (Fin n)} {x y : Int} {p : Fin n} (h0 : 0 ≤ x) (hl : x < (n : Int)) (hn : n ≤ 9223372036854775807) (hp : p.1 = x.toNat) (hy : y.toNat ≤ ys.length) (h : ys.Perm ((List.finRange n).take x.toNat)) : ([] ++ ys.take y.toNat ++ [p] ++ ys.drop y.toNat).Perm ((List.finRange n).take (wrap64 (x + 1)).toNat) := by
 have e1 : (wrap64 (x + 1)).toNat = x.toNat + 1 := by unfold wrap64; omega
 have hx : x.toNat < (List.finRange n).length := by rw [List.length_finRange]; omega
 have e2 : (List.finRange n)[x.toNat] = p := by apply Fin.ext; simp [hp]
 rw [e1, List.take_succ_eq_append_getElem hx, e2, List.nil_append, List.append_assoc, List.singleton_append]
 refine List.perm_middle.trans ?_
 rw [List.take_append_drop]
 exact (List.Perm.cons p h).trans (List.perm_append_singleton p _).symm
theorem spec_voSorted.calls (k : Nat) (base : Nat) (A0 : Option Addr) (c0 : Nat) (l0 : List (List Int)) (r : List (List Int)) (w : World) (hS : Kd.S (Kd.slice 3 (Kd.int .i64)) 24 w base (fun _ => True) (.slice A0 l0.length c0) l0) (hbase : base ≤ w.heap.size) (h : spec_voSorted.f k l0 = some r) :
  Calls Tryz.prog 147 #[.slice A0 l0.length c0] w fun e w' => ∃ v0_ : Value, e = .returned (v0_) ∧ Kd.S (Kd.slice 3 (Kd.int .i64)) 24 w' base (fun _ => True) v0_ r ∧ Below w.heap.size w w' := by
 obtain ⟨enc, h1, hR, hK, hfin⟩ := Go.Proofs.YtamfpkefnhcngaaGreatS.S_open rfl hS
 obtain ⟨A', c', hv, hcc, hC⟩ := Kd.R_reads hR
 rw [List.length_finRange] at hv hcc hC
 injection hv with f1 f2 f3
 subst f1
 subst f3
 have HN := Aside0.mk (Kd.C_max hC)
 have HF := Aside0.mk hfin
 have HK := Aside0.mk hK
 have HC := Aside0.mk hC
 have HBASE := Aside0.mk hbase
 have HB := Aside0.mk (Below.refl w.heap.size w)
 have H' : Aside0 (spec_voSorted.l0 k (([] : List (Fin l0.length)).map fun i => l0[i]) l0 0 = some r) := ⟨h⟩
 clear h hS hR hK hfin hC hbase hcc f2
 go_enter Tryz.func147, Tryz.ntmps147
 go_wp2
 go_loopg [3, 10] k (fun kq v3 v10 w' => ∃ (ys : List (Fin l0.length)) (x : Int), v10 = .int .i64 x ∧ Aside0 (spec_voSorted.l0 kq (ys.map fun i => l0[i]) l0 x = some r) ∧ Aside0 (kq ≤ k) ∧ Aside0 (0 ≤ x) ∧ Aside0 ((Kd.scalar enc h1).R 24 w' w.heap.size (fun _ => True) v3 ys) ∧ Aside0 (ys.Perm ((List.finRange l0.length).take x.toNat)) ∧ Aside0 (Below w.heap.size w w'))
 case atStart => exact ⟨[], 0, (by first | rfl | (simp; done) | (simp [*]; done)), H', ⟨Nat.le_refl _⟩, ⟨Int.le_refl _⟩, ⟨Kd.R_nil _ _ _ _ _⟩, ⟨by simp⟩, HB⟩
 case round =>
  clear H' HB
  obtain ⟨ys, x, rfl, HA, HK1, HX0, HO, HP, HB⟩ := hrel
  obtain ⟨Ao, co, rfl, hco, hCo⟩ := Kd.R_reads HO.out
  have HCO := Aside0.mk hco
  clear hco hCo
  cases gk with
  | zero => exact absurd HA.out (by simp [spec_voSorted.l0])
  | succ k1 =>
   have H := HA.out
   clear HA
   simp only [spec_voSorted.l0] at H
   by_cases c1 : x < (l0.length : Int)
   ·rw [if_pos c1, if_pos HX0.out] at H
    have HXL := Aside0.mk c1
    have hx0' := HX0.out
    obtain ⟨p, hp⟩ : ∃ p : Fin l0.length, p.1 = x.toNat := ⟨⟨x.toNat, by omega⟩, rfl⟩
    have HPX := Aside0.mk hp
    obtain ⟨z, hz⟩ : ∃ z : List Int, z = l0[p]'(p.2) := ⟨_, rfl⟩
    have HZ := Aside0.mk hz
    have hzr : rdOf [] l0 x = z := by rw [hz]; simp [rdOf, ← hp]
    rw [hzr] at H
    have H' := Aside0.mk H
    obtain ⟨ad, cc, e1, _, hKx, hcell⟩ := Kd.C_get HC.out p x hx0' c1
    have hKx' : cc = [enc p] := by
     have h_ : cc = [enc ((List.finRange l0.length).getD x.toNat p)] := hKx
     rw [h_, ← hp]
     simp
    have hx0 : w.cell? (ad.add (x.toNat * 1 + 0)) = some (enc p) := hcell 0 _ (by rw [hKx']; rfl)
    rw [Nat.mul_one, Nat.add_zero] at hx0
    obtain ⟨A5, c5, e5, hle5, hC5⟩ := HK.out p
    rw [← hz] at e5 hle5 hC5
    have e5' : enc p = .slice A5 z.length c5 := (List.cons.inj e5).1
    have HEP := Aside0.mk e5'
    have HC5 := Aside0.mk hC5
    have HL5 := Aside0.mk hle5
    rw [e5'] at hx0
    replace hx0 := (HB.out.cell (World.block_lt_of_cell? w _ hx0)).trans hx0
    cases e1
    clear hp hz hzr H hKx hKx' hcell e5 e5' hle5 hC5
    have c1b0 : decide (x < (l0.length : Int)) = true := decide_eq_true c1
    replace c1 := eq_true c1
    replace hx0' := eq_true hx0'
    go_wp2
    go_loopg [6] k1 (fun kq v6 w' => ∃ (y : Int), v6 = .int .i64 y ∧ Aside0 (spec_voSorted.l1 kq (ys.map fun i => l0[i]) l0 x z y = some r) ∧ Aside0 (kq ≤ k1) ∧ Aside0 (0 ≤ y) ∧ Aside0 (y ≤ (ys.length : Int)) ∧ Aside0 ((Kd.scalar enc h1).R 24 w' w.heap.size (fun _ => True) (.slice Ao ys.length co) ys) ∧ Aside0 (Below w.heap.size w w'))
    case atStart => exact ⟨0, (by first | rfl | (simp; done) | (simp [*]; done)), H', ⟨Nat.le_refl _⟩, ⟨Int.le_refl _⟩, ⟨by omega⟩, ⟨by exact HO.out⟩, ⟨by repeat (first | (with_reducible first | exact HB.out | apply ba | apply bd | apply be) | exact HB.out)⟩⟩
    case round =>
     clear H' HB HO
     (try clear hx0)
     try clear hx0'
     (try clear c1); (try clear c1b0)
     obtain ⟨y, rfl, HA, HK2, HY0, HYL, HO, HB⟩ := hrel
     cases gk with
     | zero => exact absurd HA.out (by simp [spec_voSorted.l1])
     | succ k2 =>
      have H := HA.out
      clear HA
      simp only [spec_voSorted.l1] at H
      obtain ⟨Ao', co', eo', _, hCo⟩ := Kd.R_reads HO.out
      injection eo' with g1 g2 g3
      subst g1
      have HCo := Aside0.mk hCo
      have HYB := Aside0.mk (Kd.C_max hCo)
      clear hCo g2 g3
      have HR := Aside0.mk (Below.refl wr.heap.size wr)
      have HNL := HN
      by_cases c2 : y < ((ys.map fun i => l0[i]).length : Int)
      ·rw [if_pos c2] at H
       obtain ⟨t, A7, H⟩ := oB H
       rw [List.length_map] at c2
       have hy0 := HY0.out
       have hyl : y.toNat < ys.length := by omega
       obtain ⟨q, hq⟩ : ∃ q : Fin l0.length, q = ys[y.toNat] := ⟨_, rfl⟩
       obtain ⟨zq, hzq⟩ : ∃ z : List Int, z = l0[q]'(q.2) := ⟨_, rfl⟩
       have hzr : rdOf [] (ys.map fun i => l0[i]) y = zq := by rw [hzq, hq]; simp [rdOf, hyl]
       rw [hzr] at A7
       have A8 := Aside0.mk A7
       obtain ⟨ad2, cc2, e2, _, hKy, hcell⟩ := Kd.C_get HCo.out q y hy0 c2
       have hKy' : cc2 = [enc q] := by
        have h_ : cc2 = [enc (ys.getD y.toNat q)] := hKy
        rw [h_, hq]
        simp [hyl]
       have hy1 : wr.cell? (ad2.add (y.toNat * 1 + 0)) = some (enc q) := hcell 0 _ (by rw [hKy']; rfl)
       rw [Nat.mul_one, Nat.add_zero] at hy1
       obtain ⟨Aq, cq, eq, hleq, hCq⟩ := HK.out q
       rw [← hzq] at eq hleq hCq
       rw [(List.cons.inj eq).1] at hy1
       have HCQ := Aside0.mk hCq
       have HLQ := Aside0.mk hleq
       cases e2
       clear hq hzq hzr A7 hKy hKy' hcell eq hleq hCq hyl
       have c2b0 : decide (y < (ys.length : Int)) = true := decide_eq_true c2
       replace c2 := eq_true c2
       replace hy0 := eq_true hy0
       cases t with
       | true =>
        rw [if_pos rfl] at H
        have H' := Aside0.mk H
        clear H
        go_wp2_with (go_at_call 212; refine (spec_voBefore.calls k2 _ _ zq _ _ z true _ (Kd.C_below HCQ.out HB.out) HLQ.out (Kd.C_below HC5.out HB.out) HL5.out A8.out).mono ?_; rintro e w' ⟨rfl, ⟨nd, rfl⟩⟩)
        go_roundg k2
        case measure => have := HK2.out; omega
        case rel => exact ⟨wrap64 (y + 1), (by first | rfl | (simp; done) | (simp [*]; done)), H', ⟨by have := HK2.out; omega⟩, ⟨by have h1_ : y < (ys.length : Int) := of_eq_true c2; have h2_ := HYB.out; have := HY0.out; unfold wrap64; omega⟩, ⟨by have h1_ : y < (ys.length : Int) := of_eq_true c2; have h2_ := HYB.out; have := HY0.out; unfold wrap64; omega⟩, ⟨by (with_reducible repeat (first | apply qA | apply qN | apply qD)); exact HO.out⟩, ⟨by repeat (first | (with_reducible first | exact HB.out | apply ba | apply bd | apply be) | exact HB.out)⟩⟩
       | false =>
        rw [if_neg (by decide)] at H
        by_cases c9 : (ys.map fun i => l0[i]).length < 5000000000000
        ·rw [if_pos c9] at H
         rw [List.length_map] at c9
         have LM := Aside0.mk c9
         have hyl : y ≤ (ys.length : Int) := HYL.out
         obtain ⟨i0, hi0, _, hsz0, _⟩ := info_parts info24
         have hcutT := cut_to (P := Tryz.prog) 45 24 .i64 Tryz.underlying45 hi0 (some ad2) ys.length co y HY0.out hyl HCO.out
         have hcutF := cut_from (P := Tryz.prog) 45 24 .i64 Tryz.underlying45 hi0 1 hsz0 (some ad2) ys.length co y HY0.out hyl
         rw [Nat.mul_one] at hcutF
         obtain ⟨AF, hAF⟩ : ∃ AF : Option Addr, AF = (if co = y.toNat then (some ad2) else (some ad2 : Option Addr).map (·.add y.toNat)) := ⟨_, rfl⟩
         rw [← hAF] at hcutF
         have HAF := Aside0.mk hAF
         clear hAF
         have hyn : y.toNat ≤ ys.length := by omega
         have HYN := Aside0.mk hyn
         clear c9 hyl hyn hi0 hsz0
         go_wp2_with (first | (go_at_call 212; refine (spec_voBefore.calls k2 _ _ zq _ _ z false _ (Kd.C_below HCQ.out HB.out) HLQ.out (Kd.C_below HC5.out HB.out) HL5.out A8.out).mono ?_; rintro e w' ⟨rfl, ⟨nd, rfl⟩⟩) | ((with_reducible refine gate_dst (N := 28) rfl ?_); refine Kd.R_lit (Kd.scalar enc h1) _ 24 ?hg (N := 28) ?hd (xs := []) (inner := []) (ok := fun _ => True) (okp := fun _ => True) ?hr ?hp (fun _ hk => hk) trivial (Below.refl _ _) (Nat.le_refl _) (by simp) ?_; (case hd => rfl); (case hg => rfl); (case hr => first | (go_simp; done) | (go_simp; rfl)); (case hp => exact (Reps.none _ _)); intro v28 w28 ho hb hg_ hnew_; clear hg_ hnew_; have HE := Aside0.mk (Kd.R_lower ho (below_size (by repeat (first | (with_reducible first | exact HR.out | apply ba | apply bd | apply be) | exact HR.out)))); replace HR := Aside0.mk (below_step (by repeat (first | (with_reducible first | exact HR.out | apply ba | apply bd | apply be) | exact HR.out)) hb); clear hb ho) | ((with_reducible refine gate_builtin (b := .append) (xs := #[.tmp 28, .tmp 31]) rfl ?_); at_builtin; refine Kd.R_append_rows (Kd.scalar enc h1) (w0 := wr) wr.heap.size rfl (.tmp 28) (.tmp 31) 45 24 (.slice none 0 0) 24 rfl Tryz.underlying45 info24 rfl Nat.zero_lt_one (by omega) v28 [] (ys.take y.toNat) (some ad2) y.toNat co (fun _ => True) (fun _ => False) rfl rfl ?aO ?aR (fun _ _ h => h) (fun _ h => h.elim) ?aF ?aB ?aS ?aL ?_; (case aR => exact (by have h_ := Kd.C_take (m := y.toNat) (Kd.C_below HCo.out (by repeat (first | (with_reducible first | exact HR.out | apply ba | apply bd | apply be) | exact HR.out))) HYN.out; rw [show (ys.take y.toNat).length = y.toNat from by rw [List.length_take]; exact Nat.min_eq_left HYN.out] at h_; exact h_)); (case aB => exact (by repeat (first | (with_reducible first | exact HR.out | apply ba | apply bd | apply be) | exact HR.out))); (case aF => exact (fun _ _ => trivial)); (case aO => exact (by (with_reducible repeat (first | apply qA | apply qN | apply qD)); exact HE.out)); (case aS => exact (below_size (by repeat (first | (with_reducible first | exact HR.out | apply ba | apply bd | apply be) | exact HR.out)))); (case aL => have h1_ := LM.out; have h2_ := HYN.out; simp only [List.length_append, List.length_take, List.length_nil, List.length_cons]; omega); intro v32 w32 ho hb hg hat; replace HR := Aside0.mk hb; replace HE := Aside0.mk ho; clear ho hb hg hat) | ((with_reducible refine gate_builtin (b := .append) (xs := #[.tmp 32, .tmp 34]) rfl ?_); at_builtin; refine Kd.R_append (Kd.scalar enc h1) (w0 := wr) wr.heap.size rfl (.tmp 32) (.tmp 34) 45 24 (.slice none 0 0) 24 rfl Tryz.underlying45 info24 rfl Nat.zero_lt_one (by omega) v32 ([] ++ ys.take y.toNat) p [.slice A5 z.length c5] (fun _ => True) (fun _ => False) rfl rfl ?aP (fun _ hk => hk.elim) ?aF ?aO ?aB ?aS ?aL ?_; (case aP => exact (show [Value.slice A5 z.length c5] = [enc p] from by rw [HEP.out])); (case aB => exact (by repeat (first | (with_reducible first | exact HR.out | apply ba | apply bd | apply be) | exact HR.out))); (case aF => exact (fun _ _ => trivial)); (case aO => exact (by (with_reducible repeat (first | apply qA | apply qN | apply qD)); exact HE.out)); (case aS => exact (below_size (by repeat (first | (with_reducible first | exact HR.out | apply ba | apply bd | apply be) | exact HR.out)))); (case aL => have h1_ := LM.out; have h2_ := HYN.out; simp only [List.length_append, List.length_take, List.length_nil, List.length_cons]; omega); intro v35 w35 ho hb hg hat; replace HR := Aside0.mk hb; replace HE := Aside0.mk ho; clear ho hb hg hat) | ((with_reducible refine gate_builtin (b := .append) (xs := #[.tmp 36, .tmp 39]) rfl ?_); at_builtin; refine Kd.R_append_rows (Kd.scalar enc h1) (w0 := wr) wr.heap.size rfl (.tmp 36) (.tmp 39) 45 24 (.slice none 0 0) 24 rfl Tryz.underlying45 info24 rfl Nat.zero_lt_one (by omega) v35 ([] ++ ys.take y.toNat ++ [p]) (ys.drop y.toNat) _ _ _ (fun _ => True) (fun _ => False) rfl rfl ?aO ?aR (fun _ _ h => h) (fun _ h => h.elim) ?aF ?aB ?aS ?aL ?_; (case aR => exact (by have h_ : (Kd.scalar enc h1).C _ (if co = y.toNat then (some ad2) else (some ad2 : Option Addr).map (·.add (y.toNat * 1))) (ys.drop y.toNat).length (ys.drop y.toNat) := Kd.C_drop (m := y.toNat) (Kd.C_below HCo.out (by repeat (first | (with_reducible first | exact HR.out | apply ba | apply bd | apply be) | exact HR.out))) HYN.out HCO.out; rw [List.length_drop, Nat.mul_one, ← HAF.out] at h_; exact h_)); (case aB => exact (by repeat (first | (with_reducible first | exact HR.out | apply ba | apply bd | apply be) | exact HR.out))); (case aF => exact (fun _ _ => trivial)); (case aO => exact (by (with_reducible repeat (first | apply qA | apply qN | apply qD)); exact HE.out)); (case aS => exact (below_size (by repeat (first | (with_reducible first | exact HR.out | apply ba | apply bd | apply be) | exact HR.out)))); (case aL => have h1_ := LM.out; have h2_ := HYN.out; simp only [List.length_append, List.length_take, List.length_nil, List.length_cons]; omega); intro v40 w40 ho hb hg hat; replace HR := Aside0.mk hb; replace HE := Aside0.mk ho; clear ho hb hg hat))
         go_roundg k2
         case measure => have := HK1.out; have := HK2.out; omega
         case rel => exact ⟨[] ++ ys.take y.toNat ++ [p] ++ ys.drop y.toNat, wrap64 (x + 1), (by first | rfl | (simp; done) | (simp [*]; done)), ⟨spec_voSorted.next HX0.out HXL.out HNL.out HPX.out HZ.out H⟩, ⟨by have := HK1.out; have := HK2.out; omega⟩, ⟨by have := HX0.out; have := HXL.out; have := HNL.out; unfold wrap64; omega⟩, ⟨by (with_reducible repeat (first | apply qA | apply qN | apply qD)); exact Kd.R_lower HE.out (below_size HB.out)⟩, ⟨spec_voSorted.perm HX0.out HXL.out HNL.out HPX.out HYN.out HP.out⟩, ⟨HB.out.trans (HR.out.mono (below_size HB.out))⟩⟩
        ·rw [if_neg c9] at H
         exact absurd H (by simp)
      ·rw [if_neg c2] at H
       rw [List.length_map] at c2
       have c2b0 : decide (y < (ys.length : Int)) = false := decide_eq_false c2
       clear c2
       by_cases c9 : (ys.map fun i => l0[i]).length < 5000000000000
       ·rw [if_pos c9] at H
        rw [List.length_map] at c9
        have LM := Aside0.mk c9
        have hyl : y ≤ (ys.length : Int) := HYL.out
        obtain ⟨i0, hi0, _, hsz0, _⟩ := info_parts info24
        have hcutT := cut_to (P := Tryz.prog) 45 24 .i64 Tryz.underlying45 hi0 Ao ys.length co y HY0.out hyl HCO.out
        have hcutF := cut_from (P := Tryz.prog) 45 24 .i64 Tryz.underlying45 hi0 1 hsz0 Ao ys.length co y HY0.out hyl
        rw [Nat.mul_one] at hcutF
        obtain ⟨AF, hAF⟩ : ∃ AF : Option Addr, AF = (if co = y.toNat then Ao else Ao.map (·.add y.toNat)) := ⟨_, rfl⟩
        rw [← hAF] at hcutF
        have HAF := Aside0.mk hAF
        clear hAF
        have hyn : y.toNat ≤ ys.length := by omega
        have HYN := Aside0.mk hyn
        clear c9 hyl hyn hi0 hsz0
        go_wp2_with (first | ((with_reducible refine gate_dst (N := 28) rfl ?_); refine Kd.R_lit (Kd.scalar enc h1) _ 24 ?hg (N := 28) ?hd (xs := []) (inner := []) (ok := fun _ => True) (okp := fun _ => True) ?hr ?hp (fun _ hk => hk) trivial (Below.refl _ _) (Nat.le_refl _) (by simp) ?_; (case hd => rfl); (case hg => rfl); (case hr => first | (go_simp; done) | (go_simp; rfl)); (case hp => exact (Reps.none _ _)); intro v28 w28 ho hb hg_ hnew_; clear hg_ hnew_; have HE := Aside0.mk (Kd.R_lower ho (below_size (by repeat (first | (with_reducible first | exact HR.out | apply ba | apply bd | apply be) | exact HR.out)))); replace HR := Aside0.mk (below_step (by repeat (first | (with_reducible first | exact HR.out | apply ba | apply bd | apply be) | exact HR.out)) hb); clear hb ho) | ((with_reducible refine gate_builtin (b := .append) (xs := #[.tmp 28, .tmp 31]) rfl ?_); at_builtin; refine Kd.R_append_rows (Kd.scalar enc h1) (w0 := wr) wr.heap.size rfl (.tmp 28) (.tmp 31) 45 24 (.slice none 0 0) 24 rfl Tryz.underlying45 info24 rfl Nat.zero_lt_one (by omega) v28 [] (ys.take y.toNat) Ao y.toNat co (fun _ => True) (fun _ => False) rfl rfl ?aO ?aR (fun _ _ h => h) (fun _ h => h.elim) ?aF ?aB ?aS ?aL ?_; (case aR => exact (by have h_ := Kd.C_take (m := y.toNat) (Kd.C_below HCo.out (by repeat (first | (with_reducible first | exact HR.out | apply ba | apply bd | apply be) | exact HR.out))) HYN.out; rw [show (ys.take y.toNat).length = y.toNat from by rw [List.length_take]; exact Nat.min_eq_left HYN.out] at h_; exact h_)); (case aB => exact (by repeat (first | (with_reducible first | exact HR.out | apply ba | apply bd | apply be) | exact HR.out))); (case aF => exact (fun _ _ => trivial)); (case aO => exact (by (with_reducible repeat (first | apply qA | apply qN | apply qD)); exact HE.out)); (case aS => exact (below_size (by repeat (first | (with_reducible first | exact HR.out | apply ba | apply bd | apply be) | exact HR.out)))); (case aL => have h1_ := LM.out; have h2_ := HYN.out; simp only [List.length_append, List.length_take, List.length_nil, List.length_cons]; omega); intro v32 w32 ho hb hg hat; replace HR := Aside0.mk hb; replace HE := Aside0.mk ho; clear ho hb hg hat) | ((with_reducible refine gate_builtin (b := .append) (xs := #[.tmp 32, .tmp 34]) rfl ?_); at_builtin; refine Kd.R_append (Kd.scalar enc h1) (w0 := wr) wr.heap.size rfl (.tmp 32) (.tmp 34) 45 24 (.slice none 0 0) 24 rfl Tryz.underlying45 info24 rfl Nat.zero_lt_one (by omega) v32 ([] ++ ys.take y.toNat) p [.slice A5 z.length c5] (fun _ => True) (fun _ => False) rfl rfl ?aP (fun _ hk => hk.elim) ?aF ?aO ?aB ?aS ?aL ?_; (case aP => exact (show [Value.slice A5 z.length c5] = [enc p] from by rw [HEP.out])); (case aB => exact (by repeat (first | (with_reducible first | exact HR.out | apply ba | apply bd | apply be) | exact HR.out))); (case aF => exact (fun _ _ => trivial)); (case aO => exact (by (with_reducible repeat (first | apply qA | apply qN | apply qD)); exact HE.out)); (case aS => exact (below_size (by repeat (first | (with_reducible first | exact HR.out | apply ba | apply bd | apply be) | exact HR.out)))); (case aL => have h1_ := LM.out; have h2_ := HYN.out; simp only [List.length_append, List.length_take, List.length_nil, List.length_cons]; omega); intro v35 w35 ho hb hg hat; replace HR := Aside0.mk hb; replace HE := Aside0.mk ho; clear ho hb hg hat) | ((with_reducible refine gate_builtin (b := .append) (xs := #[.tmp 36, .tmp 39]) rfl ?_); at_builtin; refine Kd.R_append_rows (Kd.scalar enc h1) (w0 := wr) wr.heap.size rfl (.tmp 36) (.tmp 39) 45 24 (.slice none 0 0) 24 rfl Tryz.underlying45 info24 rfl Nat.zero_lt_one (by omega) v35 ([] ++ ys.take y.toNat ++ [p]) (ys.drop y.toNat) _ _ _ (fun _ => True) (fun _ => False) rfl rfl ?aO ?aR (fun _ _ h => h) (fun _ h => h.elim) ?aF ?aB ?aS ?aL ?_; (case aR => exact (by have h_ : (Kd.scalar enc h1).C _ (if co = y.toNat then Ao else Ao.map (·.add (y.toNat * 1))) (ys.drop y.toNat).length (ys.drop y.toNat) := Kd.C_drop (m := y.toNat) (Kd.C_below HCo.out (by repeat (first | (with_reducible first | exact HR.out | apply ba | apply bd | apply be) | exact HR.out))) HYN.out HCO.out; rw [List.length_drop, Nat.mul_one, ← HAF.out] at h_; exact h_)); (case aB => exact (by repeat (first | (with_reducible first | exact HR.out | apply ba | apply bd | apply be) | exact HR.out))); (case aF => exact (fun _ _ => trivial)); (case aO => exact (by (with_reducible repeat (first | apply qA | apply qN | apply qD)); exact HE.out)); (case aS => exact (below_size (by repeat (first | (with_reducible first | exact HR.out | apply ba | apply bd | apply be) | exact HR.out)))); (case aL => have h1_ := LM.out; have h2_ := HYN.out; simp only [List.length_append, List.length_take, List.length_nil, List.length_cons]; omega); intro v40 w40 ho hb hg hat; replace HR := Aside0.mk hb; replace HE := Aside0.mk ho; clear ho hb hg hat))
        go_roundg k2
        case measure => have := HK1.out; have := HK2.out; omega
        case rel => exact ⟨[] ++ ys.take y.toNat ++ [p] ++ ys.drop y.toNat, wrap64 (x + 1), (by first | rfl | (simp; done) | (simp [*]; done)), ⟨spec_voSorted.next HX0.out HXL.out HNL.out HPX.out HZ.out H⟩, ⟨by have := HK1.out; have := HK2.out; omega⟩, ⟨by have := HX0.out; have := HXL.out; have := HNL.out; unfold wrap64; omega⟩, ⟨by (with_reducible repeat (first | apply qA | apply qN | apply qD)); exact Kd.R_lower HE.out (below_size HB.out)⟩, ⟨spec_voSorted.perm HX0.out HXL.out HNL.out HPX.out HYN.out HP.out⟩, ⟨HB.out.trans (HR.out.mono (below_size HB.out))⟩⟩
       ·rw [if_neg c9] at H
        exact absurd H (by simp)
   ·rw [if_neg c1] at H
    obtain rfl := Option.some.inj H
    have hpm := HP.out
    rw [List.take_of_length_le (by rw [List.length_finRange]; omega)] at hpm
    have HPM := Aside0.mk hpm
    have c1b0 : decide (x < (l0.length : Int)) = false := decide_eq_false c1
    clear c1 H hpm
    go_wp2
    go_ret
    exact ⟨_, rfl, HF.out _ _ ys (by repeat (first | exact HB.out | apply ba | apply bd | apply be)) HPM.out HBASE.out (by (with_reducible repeat (first | apply qA | apply qN | apply qD)); exact HO.out), by repeat (first | (with_reducible first | exact HB.out | apply ba | apply bd | apply be) | exact HB.out)⟩
mutual
def spec_voLeast.l0 : Nat → List Bool → List (List Int) → List Bool → Int → Int → Option ((List (List Int)))
 | 0, _, _, _, _, _ => none
 | k + 1, x0, x3, x9, x10, x11 => if x11 < x10 then (if 0 ≤ x11 then (if x11 < (x9.length : Int) then (if rdOf false x9 x11 = true then ((spec_voList.f k x11).bind fun t105 => (spec_voLeast.l1 k x0 x3 x11 true x9 x10 x11 t105 (t105.length : Int) 0)) else (spec_voLeast.l0 k x0 x3 x9 x10 (wrap64 (x11 + 1)))) else (none)) else (none)) else ((spec_voSorted.f k x3).bind fun t101 => (some t101))
def spec_voLeast.l1 : Nat → List Bool → List (List Int) → Int → Bool → List Bool → Int → Int → List Int → Int → Int → Option ((List (List Int)))
 | 0, _, _, _, _, _, _, _, _, _, _ => none
 | k + 1, x0, x3, x4, x6, x9, x10, x11, x19, x20, x21 => if x21 < x20 then (if 0 ≤ x21 then (if x21 < (x19.length : Int) then (if x6 = true then (if 0 ≤ (rd x19 x21) then (if 0 ≤ (wrap64 (x4 - (shl .i64 1 (rd x19 x21)))) then (if (wrap64 (x4 - (shl .i64 1 (rd x19 x21)))) < (x0.length : Int) then (spec_voLeast.l1 k x0 x3 x4 (!(rdOf false x0 (wrap64 (x4 - (shl .i64 1 (rd x19 x21)))))) x9 x10 x11 x19 x20 (wrap64 (x21 + 1))) else (none)) else (none)) else (none)) else (spec_voLeast.l1 k x0 x3 x4 false x9 x10 x11 x19 x20 (wrap64 (x21 + 1)))) else (none)) else (none)) else (if x6 = true then ((spec_voList.f k x4).bind fun t110 => (if x3.length < 5864062014805 then (spec_voLeast.l0 k x0 (x3 ++ [t110]) x9 x10 (wrap64 (x11 + 1))) else (none))) else (spec_voLeast.l0 k x0 x3 x9 x10 (wrap64 (x11 + 1))))
end
def spec_voLeast.f (k : Nat) (l0 : List Bool) : Option ((List (List Int))) := spec_voLeast.l0 k l0 ([] : List (List Int)) l0 (l0.length : Int) 0
theorem spec_voLeast.calls (k : Nat) (A0 : Option Addr) (c0 : Nat) (l0 : List Bool) (r : List (List Int)) (w : World) (hr0 : Kd.C Kd.bool w A0 l0.length l0) (hc0 : l0.length ≤ c0) (h : spec_voLeast.f k l0 = some r) :
  Calls Tryz.prog 140 #[.slice A0 l0.length c0] w fun e w' => ∃ v0_ : Value, e = .returned (v0_) ∧ Kd.S (Kd.slice 3 (Kd.int .i64)) 24 w' w.heap.size (fun _ => True) v0_ r ∧ Below w.heap.size w w' := by
 have HR0 := Aside0.mk hr0
 have HC0 := Aside0.mk hc0
 clear hr0 hc0
 have HB := Aside0.mk (Below.refl w.heap.size w)
 have H : (spec_voLeast.l0 k l0 ([] : List (List Int)) l0 (l0.length : Int) 0) = some r := h
 clear h
 have H' := Aside0.mk H
 clear H
 go_enter Tryz.func140, Tryz.ntmps140
 go_wp2
 go_loopg [3, 11] k (fun kq v3 v11 w' => ∃ (x3_1 : List (List Int)) (x11_1 : Int), v11 = .int .i64 x11_1 ∧ Aside0 (spec_voLeast.l0 kq l0 x3_1 l0 (l0.length : Int) x11_1 = some r) ∧ Aside0 (kq ≤ k) ∧ Aside0 (Kd.S (Kd.slice 3 (Kd.int .i64)) 24 w' w.heap.size (fun _ => True) v3 x3_1) ∧ Aside0 (Below w.heap.size w w'))
 case atStart => exact ⟨(([] : List (List Int))), (0), (by first | rfl | (simp; done) | (simp [*]; done)), H', ⟨Nat.le_refl _⟩, ⟨by first | exact Kd.S_nil _ _ _ _ _ | exact Kd.N_nil _ _ _ _ _ | exact Kd.V_nil _ _ _ _ _ | exact Kd.Q_nil _ _ _ _ _ | exact Kd.R_nil _ _ _ _ _⟩, ⟨by repeat (first | (with_reducible first | exact HB.out | apply ba | apply bd | apply be) | exact HB.out)⟩⟩
 case round =>
  clear H'
  (try clear c1)
  obtain ⟨x3_1, x11_1, rfl, HA, HK1, HO_3, HB⟩ := hrel
  cases gk with
  | zero => exact absurd HA.out (by simp [spec_voLeast.l0])
  | succ k1 =>
   have H := HA.out
   clear HA
   simp only [spec_voLeast.l0] at H
   by_cases c2 : x11_1 < (l0.length : Int)
   ·rw [if_pos c2] at H
    have c2b0 : decide (x11_1 < (l0.length : Int)) = true := decide_eq_true c2
    clear c2
    by_cases c3 : 0 ≤ x11_1
    ·rw [if_pos c3] at H
     have c3b0 : decide (0 ≤ x11_1) = true := decide_eq_true c3
     clear c3
     by_cases c4 : x11_1 < (l0.length : Int)
     ·rw [if_pos c4] at H
      have c4b0 : decide (x11_1 < (l0.length : Int)) = true := decide_eq_true c4
      clear c4
      obtain ⟨bq5, hbq5⟩ : ∃ b_ : Bool, b_ = (rdOf false l0 x11_1) := ⟨_, rfl⟩
      replace H : (if bq5 = true then ((spec_voList.f k1 x11_1).bind fun t105 => (spec_voLeast.l1 k1 l0 x3_1 x11_1 true l0 (l0.length : Int) x11_1 t105 (t105.length : Int) 0)) else (spec_voLeast.l0 k1 l0 x3_1 l0 (l0.length : Int) (wrap64 (x11_1 + 1)))) = some r := by rw [← hbq5] at H; exact H
      have Nbq5 := Aside0.mk hbq5
      clear hbq5
      by_cases c6 : bq5 = true
      ·subst c6
       replace H := iT H
       replace H := oA H
       obtain ⟨t105, A7, H⟩ := H
       (try dsimp only at H)
       have H' := Aside0.mk H
       clear H
       have p104 : 0 ≤ (x11_1 : Int) := oD
       have q104 : x11_1 < (l0.length : Int) := oD
       obtain ⟨ad104, e104, hx104_0⟩ := Kd.at_bool HR0.out x11_1 p104 q104
       (try rw [← Nbq5.out] at hx104_0)
       cases e104
       replace hx104_0 := (HB.out.cell (World.block_lt_of_cell? w _ hx104_0)).trans hx104_0
       replace p104 := eq_true p104
       replace q104 := eq_true q104
       go_wp2_with (first | ((with_reducible refine gate_callee (f := 146) rfl ?_); refine gL 19 Tryz.func146 #[.int .i64 x11_1] ?_; (with_reducible refine (spec_voList.calls k1 x11_1 t105 _ A7.out).mono ?_); rintro e w8 ⟨v106, rfl, ho0, hb⟩; refine ⟨_, rfl, ?_⟩; have HO107 := Aside0.mk (Kd.R_lower ho0 (below_size HB.out)); replace HO_3 := Aside0.mk (Kd.S_elder' HO_3.out (Kd.R_base ho0) hb); replace HB := sB HB hb; (try clear hb); (try clear ho0); obtain ⟨Ao9, co9, eo9⟩ := Kd.R_slice HO107.out; subst eo9))
       go_loopg [6, 21] k1 (fun kq v6 v21 w' => ∃ (x6_2 : Bool) (x21_2 : Int), v6 = .bool x6_2 ∧ v21 = .int .i64 x21_2 ∧ Aside0 (spec_voLeast.l1 kq l0 x3_1 x11_1 x6_2 l0 (l0.length : Int) x11_1 t105 (t105.length : Int) x21_2 = some r) ∧ Aside0 (kq ≤ k1) ∧ Aside0 (Kd.S (Kd.slice 3 (Kd.int .i64)) 24 w' w.heap.size (fun k_ => some k_ ≠ ((.slice Ao9 t105.length co9) : Value).ownBlock) u3 x3_1) ∧ Aside0 (Kd.R (Kd.int .i64) 3 w' w.heap.size (fun _ => True) (.slice Ao9 t105.length co9) t105) ∧ Aside0 (Below w.heap.size w w'))
       case atStart => exact ⟨(true), (0), (by first | rfl | (simp; done) | (simp [*]; done)), (by first | rfl | (simp; done) | (simp [*]; done)), H', ⟨Nat.le_refl _⟩, ⟨by exact Kd.S_mono HO_3.out (fun _ hk => hk.2)⟩, ⟨by exact HO107.out⟩, ⟨by repeat (first | (with_reducible first | exact HB.out | apply ba | apply bd | apply be) | exact HB.out)⟩⟩
       case round =>
        clear H'
        (try clear c1); (try clear p1); (try clear q1); (try clear hx1); (try clear c2); (try clear c2b0); (try clear p2); (try clear c3); (try clear c3b0); (try clear c4); (try clear c4b0); (try clear q5); (try clear c6); (try clear p6); (try clear hx104_0); (try clear p104); (try clear q104)
        obtain ⟨x6_2, x21_2, rfl, rfl, HA, HK2, HO_3, HO_19, HB⟩ := hrel
        cases gk with
        | zero => exact absurd HA.out (by simp [spec_voLeast.l1])
        | succ k2 =>
         have H := HA.out
         clear HA
         simp only [spec_voLeast.l1] at H
         by_cases c10 : x21_2 < (t105.length : Int)
         ·rw [if_pos c10] at H
          have c10b0 : decide (x21_2 < (t105.length : Int)) = true := decide_eq_true c10
          clear c10
          by_cases c11 : 0 ≤ x21_2
          ·rw [if_pos c11] at H
           have c11b0 : decide (0 ≤ x21_2) = true := decide_eq_true c11
           clear c11
           by_cases c12 : x21_2 < (t105.length : Int)
           ·rw [if_pos c12] at H
            have c12b0 : decide (x21_2 < (t105.length : Int)) = true := decide_eq_true c12
            clear c12
            by_cases c13 : x6_2 = true
            ·subst c13
             replace H := iT H
             by_cases c14 : 0 ≤ (rd t105 x21_2)
             ·rw [if_pos c14] at H
              have c14b0 := eq_true c14
              have c14b1 : decide (0 ≤ (rd t105 x21_2)) = true := decide_eq_true c14
              clear c14
              obtain ⟨ji15, hji15⟩ : ∃ j_ : Int, (shl .i64 1 (rd t105 x21_2)) = j_ := ⟨_, rfl⟩
              replace H : (if 0 ≤ (wrap64 (x11_1 - (ji15))) then (if (wrap64 (x11_1 - (ji15))) < (l0.length : Int) then (spec_voLeast.l1 k2 l0 x3_1 x11_1 (!(rdOf false l0 (wrap64 (x11_1 - (ji15))))) l0 (l0.length : Int) x11_1 t105 (t105.length : Int) (wrap64 (x21_2 + 1))) else (none)) else (none)) = some r := by first | (rw [hji15] at H; exact H) | (simp only [hji15] at H ⊢; exact H)
              have hji15_ : (IntKind.i64.wrap (1 * 2 ^ min (rd t105 x21_2).toNat 64)) = ji15 := hji15
              have hji15z : (rd t105 x21_2) ≤ 64 → (IntKind.i64.wrap (1 * 2 ^ (rd t105 x21_2).toNat)) = ji15 := shl_small hji15
              have hji15u : (IntKind.i64.wrap (2 ^ min (rd t105 x21_2).toNat 64)) = ji15 := by have h_ := hji15_; rw [Int.one_mul] at h_; exact h_
              have hji15v : (rd t105 x21_2) ≤ 64 → (IntKind.i64.wrap (2 ^ (rd t105 x21_2).toNat)) = ji15 := fun hle_ => by have h_ := hji15z hle_; rw [Int.one_mul] at h_; exact h_
              have hji15y : (wrap64 (1 * 2 ^ min (rd t105 x21_2).toNat 64)) = ji15 := (i64_w _).symm.trans hji15_
              have hji15x : (rd t105 x21_2) ≤ 64 → (wrap64 (1 * 2 ^ (rd t105 x21_2).toNat)) = ji15 := fun h_ => (i64_w _).symm.trans (hji15z h_)
              obtain ⟨ji16, hji16⟩ : ∃ j_ : Int, (wrap64 (x11_1 - (ji15))) = j_ := ⟨_, rfl⟩
              replace H : (if 0 ≤ (ji16) then (if (ji16) < (l0.length : Int) then (spec_voLeast.l1 k2 l0 x3_1 x11_1 (!(rdOf false l0 (ji16))) l0 (l0.length : Int) x11_1 t105 (t105.length : Int) (wrap64 (x21_2 + 1))) else (none)) else (none)) = some r := by first | (rw [hji16] at H; exact H) | (simp only [hji16] at H ⊢; exact H)
              have hji16w : (IntKind.i64.wrap (x11_1 - (ji15))) = ji16 := (i64_w _).trans hji16
              by_cases c17 : 0 ≤ (ji16)
              ·rw [if_pos c17] at H
               have c17b0 : decide (0 ≤ (ji16)) = true := decide_eq_true c17
               clear c17
               by_cases c18 : (ji16) < (l0.length : Int)
               ·rw [if_pos c18] at H
                have c18b0 : decide ((ji16) < (l0.length : Int)) = true := decide_eq_true c18
                clear c18
                have H' := Aside0.mk H
                clear H
                have p108 : 0 ≤ (x21_2 : Int) := oD
                have q108 : x21_2 < (t105.length : Int) := oD
                obtain ⟨ad108, e108, hx108_0⟩ := Kd.at_int (Kd.R_reads' HO_19.out).2.2 x21_2 p108 q108
                cases e108
                replace p108 := eq_true p108
                replace q108 := eq_true q108
                have p109 : 0 ≤ ((ji16) : Int) := oD
                have q109 : (ji16) < (l0.length : Int) := oD
                obtain ⟨ad109, e109, hx109_0⟩ := Kd.at_bool HR0.out (ji16) p109 q109
                (try rw [← Nbq5.out] at hx109_0)
                obtain rfl : ad104 = ad109 := (by injection e109)
                replace hx109_0 := (HB.out.cell (World.block_lt_of_cell? w _ hx109_0)).trans hx109_0
                replace p109 := eq_true p109
                replace q109 := eq_true q109
                go_wp2
                go_roundg k2
                case measure => have := HK1.out; have := HK2.out; omega
                case rel => exact ⟨(!(rdOf false l0 (ji16))), (wrap64 (x21_2 + 1)), (by first | rfl | (simp; done) | (simp only [← hji16] <;> (first | rfl | simp)) | (simp [*]; done)), (by first | rfl | (simp; done) | (simp [*]; done)), H', ⟨by have := HK1.out; have := HK2.out; omega⟩, ⟨by exact HO_3.out⟩, ⟨by exact HO_19.out⟩, ⟨by repeat (first | (with_reducible first | exact HB.out | apply ba | apply bd | apply be) | exact HB.out)⟩⟩
               ·rw [if_neg c18] at H
                exact absurd H (by simp)
              ·rw [if_neg c17] at H
               exact absurd H (by simp)
             ·rw [if_neg c14] at H
              exact absurd H (by simp)
            ·replace c13 := Bool.eq_false_iff.mpr c13
             subst c13
             replace H := iF H
             have H' := Aside0.mk H
             clear H
             have p108 : 0 ≤ (x21_2 : Int) := oD
             have q108 : x21_2 < (t105.length : Int) := oD
             obtain ⟨ad108, e108, hx108_0⟩ := Kd.at_int (Kd.R_reads' HO_19.out).2.2 x21_2 p108 q108
             cases e108
             replace p108 := eq_true p108
             replace q108 := eq_true q108
             go_wp2
             go_roundg k2
             case measure => have := HK1.out; have := HK2.out; omega
             case rel => exact ⟨(false), (wrap64 (x21_2 + 1)), (by first | rfl | (simp; done) | (simp [*]; done)), (by first | rfl | (simp; done) | (simp [*]; done)), H', ⟨by have := HK1.out; have := HK2.out; omega⟩, ⟨by exact HO_3.out⟩, ⟨by exact HO_19.out⟩, ⟨by repeat (first | (with_reducible first | exact HB.out | apply ba | apply bd | apply be) | exact HB.out)⟩⟩
           ·rw [if_neg c12] at H
            exact absurd H (by simp)
          ·rw [if_neg c11] at H
           exact absurd H (by simp)
         ·rw [if_neg c10] at H
          have c10b0 : decide (x21_2 < (t105.length : Int)) = false := decide_eq_false c10
          clear c10
          by_cases c19 : x6_2 = true
          ·subst c19
           replace H := iT H
           replace H := oA H
           obtain ⟨t110, A20, H⟩ := H
           (try dsimp only at H)
           by_cases c21 : x3_1.length < 5864062014805
           ·rw [if_pos c21] at H
            have LMc21 := Aside0.mk c21
            clear c21
            obtain ⟨y113, hy113⟩ : ∃ y_ : List (List Int), y_ = (x3_1 ++ [t110]) := ⟨_, rfl⟩
            replace H : (spec_voLeast.l0 k2 l0 y113 l0 (l0.length : Int) (wrap64 (x11_1 + 1))) = some r := by first | (rw [hy113]; with_reducible exact H) | (have H2_ := (Option.bind_some _ _).symm.trans H; rw [hy113]; with_reducible exact H2_) | (have H2_ := (Option.bind_some _ _).symm.trans H; with_reducible exact H2_) | with_reducible exact H | (rw [hy113]; exact H) | exact H
            have Ny113 := Aside0.mk hy113
            clear hy113
            have H' := Aside0.mk H
            clear H
            go_wp2_with (first | ((with_reducible refine gate_callee (f := 146) rfl ?_); refine gL 40 Tryz.func146 #[.int .i64 x11_1] ?_; (with_reducible refine (spec_voList.calls k2 x11_1 t110 _ A20.out).mono ?_); rintro e w22 ⟨v111, rfl, ho0, hb⟩; refine ⟨_, rfl, ?_⟩; have HO112 := Aside0.mk (Kd.R_lower (Kd.R_new' ho0 (Kd.R_lt HO_19.out)) (below_size HB.out)); replace HO_3 := Aside0.mk (Kd.S_elder' HO_3.out (Kd.R_base ho0) hb); replace HO_19 := Aside0.mk (Kd.R_elder' HO_19.out (Kd.R_base ho0) hb); replace HB := sB HB hb; (try clear hb); (try clear ho0); obtain ⟨Ao24, co24, eo24⟩ := Kd.R_slice HO112.out; subst eo24) | ((with_reducible refine gate_builtin (b := .append) (xs := #[.tmp 38, .tmp 41]) rfl ?_); at_builtin; refine Kd.S_append (Kd.slice 3 (Kd.int .i64)) (w0 := w) w.heap.size rfl (.tmp 38) (.tmp 41) 45 24 (.slice none 0 0) 24 rfl Tryz.underlying45 info24 rfl (by decide) (by omega) u3 x3_1 t110 [.slice Ao24 t110.length co24] (fun k_ => some k_ ≠ (.slice Ao9 t105.length co9 : Value).ownBlock) (fun k_ => some k_ = (.slice Ao24 t110.length co24 : Value).ownBlock) rfl rfl ?aP (fun k_ hk_ => ((Kd.R_mono (ok' := fun k_ => ((fun k_ => some k_ ≠ (.slice Ao9 t105.length co9 : Value).ownBlock)) k_ ∧ some k_ ≠ (u3 : Value).ownBlock) (Kd.R_apart' (HO112.out) (Kd.S_typed HO_3.out) (by decide)) (fun k_ hk => ⟨hk.1.2, hk.2⟩))).1 k_ hk_.symm) ?aF ?aO ?aB ?aS ?aL ?_; (case aP => exact Kd.M_row (Kd.R_mono (Kd.R_tight rfl (Kd.R_mono (ok' := fun k_ => ((fun k_ => some k_ ≠ (.slice Ao9 t105.length co9 : Value).ownBlock)) k_ ∧ some k_ ≠ (u3 : Value).ownBlock) (Kd.R_apart' (HO112.out) (Kd.S_typed HO_3.out) (by decide)) (fun k_ hk => ⟨hk.1.2, hk.2⟩))) (fun _ h_ => h_))); (case aB => exact HB.out); (case aF => exact (fun k_ hk => Kd.fresh' (Kd.R_lt HO_19.out) k_ hk)); (case aO => exact (by exact Kd.S_mono HO_3.out (fun k_ hk => ⟨hk.1, fun e_ => hk.2 e_⟩))); (case aS => exact (below_size HB.out)); (case aL => have := LMc21.out; omega); intro v114 w23 ho hb hg hat; rw [← Ny113.out] at ho; have HO115 := Aside0.mk (ho); replace HO_19 := Aside0.mk (Kd.R_over' HO_19.out (Kd.S_typed HO_3.out) (by decide) hg); replace HB := Aside0.mk (hb); clear ho hb hg hat))
            go_roundg k2
            case measure => have := HK1.out; have := HK2.out; omega
            case rel => exact ⟨(y113), (wrap64 (x11_1 + 1)), (by first | rfl | (simp; done) | (simp [*]; done)), H', ⟨by have := HK1.out; have := HK2.out; omega⟩, ⟨by exact Kd.S_mono HO115.out (fun _ hk => trivial)⟩, ⟨by repeat (first | (with_reducible first | exact HB.out | apply ba | apply bd | apply be) | exact HB.out)⟩⟩
           ·rw [if_neg c21] at H
            exact absurd H (by simp)
          ·replace c19 := Bool.eq_false_iff.mpr c19
           subst c19
           replace H := iF H
           have H' := Aside0.mk H
           clear H
           go_wp2
           go_roundg k2
           case measure => have := HK1.out; have := HK2.out; omega
           case rel => exact ⟨(x3_1), (wrap64 (x11_1 + 1)), (by first | rfl | (simp; done) | (simp [*]; done)), H', ⟨by have := HK1.out; have := HK2.out; omega⟩, ⟨by exact Kd.S_mono HO_3.out (fun _ hk => trivial)⟩, ⟨by repeat (first | (with_reducible first | exact HB.out | apply ba | apply bd | apply be) | exact HB.out)⟩⟩
      ·replace c6 := Bool.eq_false_iff.mpr c6
       subst c6
       replace H := iF H
       have H' := Aside0.mk H
       clear H
       have p104 : 0 ≤ (x11_1 : Int) := oD
       have q104 : x11_1 < (l0.length : Int) := oD
       obtain ⟨ad104, e104, hx104_0⟩ := Kd.at_bool HR0.out x11_1 p104 q104
       (try rw [← Nbq5.out] at hx104_0)
       cases e104
       replace hx104_0 := (HB.out.cell (World.block_lt_of_cell? w _ hx104_0)).trans hx104_0
       replace p104 := eq_true p104
       replace q104 := eq_true q104
       go_wp2
       go_roundg k1
       case measure => have := HK1.out; omega
       case rel => exact ⟨(x3_1), (wrap64 (x11_1 + 1)), (by first | rfl | (simp; done) | (simp [*]; done)), H', ⟨by have := HK1.out; omega⟩, ⟨by exact HO_3.out⟩, ⟨by repeat (first | (with_reducible first | exact HB.out | apply ba | apply bd | apply be) | exact HB.out)⟩⟩
     ·rw [if_neg c4] at H
      exact absurd H (by simp)
    ·rw [if_neg c3] at H
     exact absurd H (by simp)
   ·rw [if_neg c2] at H
    have c2b0 : decide (x11_1 < (l0.length : Int)) = false := decide_eq_false c2
    clear c2
    replace H := oA H
    obtain ⟨t101, A25, H⟩ := H
    (try dsimp only at H)
    obtain rfl := Option.some.inj H
    obtain ⟨Ao26, co26, eo26⟩ := Kd.S_slice HO_3.out
    subst eo26
    go_wp2_with (first | ((with_reducible refine gate_callee (f := 147) rfl ?_); refine gL 45 Tryz.func147 #[.slice Ao26 x3_1.length co26] ?_; (with_reducible refine (spec_voSorted.calls k1 w.heap.size _ _ x3_1 t101 _ (by exact Kd.S_mono HO_3.out (fun _ _ => trivial)) (below_size HB.out) A25.out).mono ?_); rintro e w27 ⟨v102, rfl, ho0, hb⟩; refine ⟨_, rfl, ?_⟩; have n1_ := Aside0.mk ho0; have n2_ := sB HB hb; clear HO_3; clear HB; have HO103 := n1_; have HB := n2_; clear n1_ n2_; (try clear hb); (try clear ho0)))
    go_ret
    exact ⟨_, by first | rfl | (simp <;> rfl) | (simp [*] <;> rfl), by exact Kd.S_mono HO103.out (fun _ hk => trivial), by repeat (first | (with_reducible first | exact HB.out | apply ba | apply bd | apply be) | exact HB.out)⟩
def spec_voAll.f (a0 : Int) : Option (Int) := if 0 ≤ a0 then (some (wrap64 ((shl .i64 1 a0) - 1))) else (none)
theorem spec_voAll.calls (a0 : Int) (r : Int) (w : World) (h : spec_voAll.f a0 = some r) :
  Calls Tryz.prog 152 #[.int .i64 a0] w fun e w' => e = .returned (.int .i64 r) ∧ Drawn0 w w' := by
 have H : (if 0 ≤ a0 then (some (wrap64 ((shl .i64 1 a0) - 1))) else (none)) = some r := h
 clear h
 by_cases c2 : 0 ≤ a0
 ·rw [if_pos c2] at H
  have c2b0 := eq_true c2
  have c2b1 : decide (0 ≤ a0) = true := decide_eq_true c2
  clear c2
  obtain ⟨ji3, hji3⟩ : ∃ j_ : Int, (shl .i64 1 a0) = j_ := ⟨_, rfl⟩
  replace H : (some (wrap64 ((ji3) - 1))) = some r := by first | (rw [hji3] at H; exact H) | (simp only [hji3] at H ⊢; exact H)
  have hji3_ : (IntKind.i64.wrap (1 * 2 ^ min a0.toNat 64)) = ji3 := hji3
  have hji3z : a0 ≤ 64 → (IntKind.i64.wrap (1 * 2 ^ a0.toNat)) = ji3 := shl_small hji3
  have hji3u : (IntKind.i64.wrap (2 ^ min a0.toNat 64)) = ji3 := by have h_ := hji3_; rw [Int.one_mul] at h_; exact h_
  have hji3v : a0 ≤ 64 → (IntKind.i64.wrap (2 ^ a0.toNat)) = ji3 := fun hle_ => by have h_ := hji3z hle_; rw [Int.one_mul] at h_; exact h_
  have hji3y : (wrap64 (1 * 2 ^ min a0.toNat 64)) = ji3 := (i64_w _).symm.trans hji3_
  have hji3x : a0 ≤ 64 → (wrap64 (1 * 2 ^ a0.toNat)) = ji3 := fun h_ => (i64_w _).symm.trans (hji3z h_)
  obtain rfl := Option.some.inj H
  go_enter Tryz.func152, Tryz.ntmps152
  go_wp2
  go_ret
  exact ⟨by first | rfl | (simp; done) | (simp only [← hji3] <;> (first | rfl | simp)) | (simp [*]; done), by repeat (first | exact Drawn0.refl _ | apply Drawn0.step)⟩
 ·rw [if_neg c2] at H
  exact absurd H (by simp)
def spec_voWins.l0 : Nat → List Bool → Int → Int → List Int → Option (List Bool)
 | 0, _, _, _, _ => none
 | k + 1, x3, x4, x102000, x102001 => (spec_voAll.f (x102001.length : Int)).bind fun t102 => (if x4 ≤ t102 then ((spec_voWeight.f k x102000 x102001 x4).bind fun t103 => (if x3.length < 140737488355328 then (spec_voWins.l0 k (x3 ++ [decide (t103 ≥ x102000)]) (wrap64 (x4 + 1)) x102000 x102001) else (none))) else (some x3))
def spec_voWins.f (k : Nat) (a0_0 : Int) (l0_1 : List Int) : Option (List Bool) := spec_voWins.l0 k ([] : List Bool) 0 a0_0 l0_1
def spec_voWins.T5 : Bool × List (List Nat × List Nat) := (true, [([], []), ([], []), ([], []), ([1, 2], [1, 2]), ([], []), ([4], [4]), ([3, 5], [3, 5]), ([6], [6]), ([0, 7, 3], [0, 7]), ([8, 8, 0, 1, 2, 3, 4, 5, 6, 7, 8], [0, 8])])
def spec_voWins.B5 : List Nat := [0, 0, 0, 6, 0, 16, 62, 126, 255, 511]
theorem spec_voWins.tab5 : rtab .any (opsOf Tryz.f141 5) = spec_voWins.T5 := by kernel_rfl
theorem spec_voWins.bits5 : waitsOk spec_voWins.T5.2 spec_voWins.B5 = true := by kernel_rfl
theorem spec_voWins.calls (k : Nat) (a0_0 : Int) (A0_1 : Option Addr) (c0_1 : Nat) (l0_1 : List Int) (r : List Bool) (w : World) (hr0_1 : Kd.C (Kd.int .i64) w A0_1 l0_1.length l0_1) (hc0_1 : l0_1.length ≤ c0_1) (h : spec_voWins.f k a0_0 l0_1 = some r) :
  Calls Tryz.prog 141 #[.agg #[.int .i64 a0_0, .slice A0_1 l0_1.length c0_1]] w fun e w' => ∃ v0_ : Value, e = .returned (v0_) ∧ Kd.R Kd.bool 4 w' w.heap.size (fun _ => True) v0_ r ∧ Below w.heap.size w w' := by
 have hu26 := Tryz.underlying26
 have HR0_1 := Aside0.mk hr0_1
 have HC0_1 := Aside0.mk hc0_1
 clear hr0_1 hc0_1
 have HB := Aside0.mk (Below.refl w.heap.size w)
 have H : (spec_voWins.l0 k ([] : List Bool) 0 a0_0 l0_1) = some r := h
 clear h
 have H' := Aside0.mk H
 clear H
 go_enter Tryz.func141, Tryz.ntmps141
 go_wp2_with (first | ((with_reducible refine gate_dst (N := 1) rfl ?_); refine box_event ?hg (N := 1) ?hd (cs := #[.int .i64 a0_0, .slice A0_1 l0_1.length c0_1]) (t := 26) ?hr ?_; (case hd => rfl); (case hg => rfl); (case hr => first | (go_simp; done) | (go_simp; rfl)); intro gb101 hg w2 hbox hb; have BK101 := Aside0.mk (hbox); have GW101 := gS hg HB; have GE101 := gS hg HB; replace HB := sB HB hb; clear hb hg))
 go_loopg [3, 4] k (fun kq v3 v4 w' => ∃ (x3_1 : List Bool) (x4_1 : Int), v4 = .int .i64 x4_1 ∧ Aside0 (spec_voWins.l0 kq x3_1 x4_1 a0_0 l0_1 = some r) ∧ Aside0 (kq ≤ k) ∧ Aside0 (Kd.R Kd.bool 4 w' w.heap.size (fun _ => True) v3 x3_1) ∧ Aside0 (w'.heap[gb101]? = some (.cells #[.int .i64 a0_0, (.slice A0_1 l0_1.length c0_1)] 26 (0, 0))) ∧ Aside0 (Below w.heap.size w w'))
 case atStart => exact ⟨(([] : List Bool)), (0), (by first | rfl | (simp; done) | (simp [*]; done)), H', ⟨Nat.le_refl _⟩, ⟨by first | exact Kd.R_nil _ _ _ _ _ | exact Kd.N_nil _ _ _ _ _ | exact Kd.V_nil _ _ _ _ _ | exact Kd.Q_nil _ _ _ _ _ | exact Kd.S_nil _ _ _ _ _⟩, ⟨by exact BK101.out⟩, ⟨by repeat (first | (with_reducible first | exact HB.out | apply ba | apply bd | apply be | refine bs ?_ GE101.out) | exact HB.out)⟩⟩
 case round =>
  clear H'
  (try clear c1); (try clear p2)
  obtain ⟨x3_1, x4_1, rfl, HA, HK1, HO_3, BK101, HB⟩ := hrel
  cases gk with
  | zero => exact absurd HA.out (by simp [spec_voWins.l0])
  | succ k1 =>
   have H := HA.out
   clear HA
   simp only [spec_voWins.l0] at H
   replace H := oA H
   obtain ⟨t102, A3, H⟩ := H
   (try dsimp only at H)
   by_cases c4 : x4_1 ≤ t102
   ·rw [if_pos c4] at H
    have c4b0 : decide (x4_1 ≤ t102) = true := decide_eq_true c4
    clear c4
    replace H := oA H
    obtain ⟨t103, A5, H⟩ := H
    (try dsimp only at H)
    by_cases c6 : x3_1.length < 140737488355328
    ·rw [if_pos c6] at H
     have LMc6 := Aside0.mk c6
     clear c6
     obtain ⟨y104, hy104⟩ : ∃ y_ : List Bool, y_ = (x3_1 ++ [decide (t103 ≥ a0_0)]) := ⟨_, rfl⟩
     replace H : (spec_voWins.l0 k1 y104 (wrap64 (x4_1 + 1)) a0_0 l0_1) = some r := by first | (rw [hy104]; with_reducible exact H) | (have H2_ := (Option.bind_some _ _).symm.trans H; rw [hy104]; with_reducible exact H2_) | (have H2_ := (Option.bind_some _ _).symm.trans H; with_reducible exact H2_) | with_reducible exact H | (rw [hy104]; exact H) | exact H
     have Ny104 := Aside0.mk hy104
     clear hy104
     have H' := Aside0.mk H
     clear H
     have hcz7_0 := cZ BK101 0
     have hcz7_1 := cZ BK101 1
     have hfz7_0 := fZ BK101 0
     have hfz7_1 := fZ BK101 1
     try go_wp2_with (first | ((with_reducible refine gate_callee (f := 152) rfl ?_); refine gL 9 Tryz.func152 #[.int .i64 (l0_1.length : Int)] ?_; (with_reducible refine (spec_voAll.calls (l0_1.length : Int) t102 _ A3.out).mono ?_); rintro e w' ⟨rfl, ⟨nd, rfl⟩⟩; refine ⟨_, rfl, ?_⟩))
     (try (rw [drewN_self wr]; generalize hq_ : World.drewN wr _ = wr; have n0_ : Aside0 (Kd.R Kd.bool 4 wr w.heap.size (fun _ => True) u3 x3_1) := ⟨by rw [← hq_]; exact (by (with_reducible repeat (first | apply qA | apply qN | apply qD)); exact HO_3.out)⟩; have n1_ : Aside0 (wr.heap[gb101]? = some (.cells #[.int .i64 a0_0, .slice A0_1 l0_1.length c0_1] 26 (0, 0))) := ⟨by rw [← hq_]; exact (by (with_reducible repeat (first | refine kN ?_ _ | refine kD ?_ | refine kA ?_ _)); exact BK101.out)⟩; have n2_ : Aside0 (Below w.heap.size w wr) := ⟨by rw [← hq_]; exact (by repeat (first | exact HB.out | apply ba | apply bd | apply be | refine bs ?_ GE101.out))⟩; clear HO_3 BK101 HB hq_; have HO_3 := n0_; have BK101 := n1_; have HB := n2_; clear n0_ n1_ n2_))
     replace HO_3 := Aside0.mk (Kd.R_drew HO_3.out)
     replace BK101 := Aside0.mk (blk_drew BK101.out)
     replace HB := Aside0.mk (below_drew1 HB.out)
     refine start_ (n := 10) (S := fun w' => w'.cell? ⟨gb101, 0, none⟩ = some (.int .i64 a0_0) ∧ w'.cell? ⟨gb101, 1, none⟩ = some (.slice A0_1 l0_1.length c0_1)) (ds := []) #[F,F,F,F,F,F,F,F,F,F] (by kernel_rfl) rfl rfl ⟨(blk_cell BK101.out 0).trans rfl, (blk_cell BK101.out 1).trans rfl⟩ (fun hHeld => ?_); refine with_tabW spec_voWins.tab5 spec_voWins.bits5 (fun HT_ HW_ => ?_)
     generalize wr.drew = w8 at HO_3 BK101 HB hHeld ⊢
     refine pU 0 HT_ ?_
     refine pU 2 HT_ ?_
     refine pU 4 HT_ ?_
     refine tK 1 HT_ HW_ hHeld (hy := by rintro w' ⟨s0, s1⟩; go_simp; with_reducible rfl) ?_
     refine tK 5 HT_ HW_ hHeld (hy := by rintro w' ⟨s0, s1⟩; go_simp; with_reducible rfl) ?_
     refine oN 3 HT_ (fun K hK => ?_)
     refine gE Tryz.func125 #[.agg #[.int .i64 a0_0, .slice A0_1 l0_1.length c0_1], .int .i64 x4_1] ?_
     with_reducible refine (spec_voWeight.calls k1 a0_0 _ _ l0_1 x4_1 t103 _ ?side1 ?side2 A5.out).mono ?_
     (case side1 =>  repeat (first | exact (Kd.C_below HR0_1.out HB.out) | (with_reducible refine Kd.C_alloc ?_ _) | (with_reducible refine Kd.C_drewN ?_ _) | (with_reducible refine Kd.C_drew ?_)))
     (case side2 => exact HC0_1.out)
     rintro e w9 ⟨rfl, hb⟩
     refine ⟨_, rfl, ?_⟩
     replace HO_3 := Aside0.mk (Kd.R_below (by (with_reducible repeat (first | apply qA | apply qN | apply qD)); exact HO_3.out) hb)
     replace BK101 := Aside0.mk (blk_below (g := gb101) (o := .cells #[.int .i64 a0_0, .slice A0_1 l0_1.length c0_1] 26 (0, 0)) (by (with_reducible repeat (first | refine kN ?_ _ | refine kD ?_ | refine kA ?_ _)); exact BK101.out) hb)
     replace HB := Aside0.mk (below_step (by repeat (first | exact HB.out | apply ba | apply bd | apply be | refine bs ?_ GE101.out)) hb)
     (try clear hb)
     (try clear hb2)
     (try clear hk)
     (try clear hi)
     refine hK.out _ _ ⟨(blk_cell BK101.out 0).trans rfl, (blk_cell BK101.out 1).trans rfl⟩ (fun hHeld => ?_)
     clear hK K
     refine nM ?_
     refine pU 6 HT_ ?_
     refine oN 7 HT_ (fun K hK => ?_)
     refine value_ (w1 := ?_) (v := ?_) (by rfl) rfl ?_ ?_
     rotate_left 2
     ·go_simp
      constructor
      ·rfl
      ·rfl
     refine hK.out _ _ ⟨(blk_cell (blk_alloc BK101.out _) 0).trans rfl, (blk_cell (blk_alloc BK101.out _) 1).trans rfl⟩ (fun hHeld => ?_)
     clear hK K
     refine nM ?_
     refine oN 8 HT_ (fun K hK => ?_)
     refine Kd.R_append_step Kd.bool (w0 := w) w.heap.size (by rfl) (.tmp 13) (.tmp 20) 85 4 (.bool false) 1 rfl Tryz.underlying85 info4 rfl (by decide) (by omega) u3 x3_1 (decide (t103 ≥ a0_0)) [.bool (decide (t103 ≥ a0_0))] (fun _ => True) (fun _ => False) rfl rfl ?aP (fun _ hk => hk.elim) ?aF ?aO ?aB ?aS ?aL ?_
     (case aP => exact rfl)
     (case aB => exact (by repeat (first | exact HB.out | apply ba | apply bd | apply be | refine bs ?_ GE101.out)))
     (case aF => exact (fun _ _ => trivial))
     (case aO => exact (by (with_reducible repeat (first | apply qA | apply qN | apply qD)); exact HO_3.out))
     (case aS => exact (below_size (by repeat (first | exact HB.out | apply ba | apply bd | apply be | refine bs ?_ GE101.out))))
     (case aL => have := LMc6.out; omega)
     intro v105 w10 ho hb hg hat
     rw [← Ny104.out] at ho
     have HO106 := Aside0.mk (ho)
     replace BK101 := Aside0.mk (blk_grown (g := gb101) (o := .cells #[.int .i64 a0_0, .slice A0_1 l0_1.length c0_1] 26 (0, 0)) (by (with_reducible repeat (first | refine kN ?_ _ | refine kD ?_ | refine kA ?_ _)); exact BK101.out) hg (Kd.R_ne HO_3.out BK101.out (by decide)))
     replace HB := Aside0.mk (hb)
     clear ho hb hg hat
     refine hK.out _ _ ⟨(blk_cell BK101.out 0).trans rfl, (blk_cell BK101.out 1).trans rfl⟩ (fun hHeld => ?_)
     clear hK K
     refine nM ?_
     refine pU 9 HT_ ?_
     refine done_ (done_of HT_.out (by kernel_rfl)) ?_
     try go_wp2
     go_roundg k1
     case measure => have := HK1.out; omega
     case rel => exact ⟨(y104), (wrap64 (x4_1 + 1)), (by first | rfl | (simp; done) | (simp [*]; done)), H', ⟨by have := HK1.out; omega⟩, ⟨by (with_reducible repeat (first | apply qA | apply qN | apply qD)); exact HO106.out⟩, ⟨by (with_reducible repeat (first | refine kN ?_ _ | refine kD ?_ | refine kA ?_ _)); exact BK101.out⟩, ⟨by repeat (first | (with_reducible first | exact HB.out | apply ba | apply bd | apply be | refine bs ?_ GE101.out) | exact HB.out)⟩⟩
    ·rw [if_neg c6] at H
     exact absurd H (by simp)
   ·rw [if_neg c4] at H
    have c4b0 : decide (x4_1 ≤ t102) = false := decide_eq_false c4
    clear c4
    obtain rfl := Option.some.inj H
    (try clear hcz7_0 hcz7_1 hfz7_0 hfz7_1)
    have hcz11_0 := cZ BK101 0
    have hcz11_1 := cZ BK101 1
    have hfz11_0 := fZ BK101 0
    have hfz11_1 := fZ BK101 1
    go_wp2_with (first | ((with_reducible refine gate_callee (f := 152) rfl ?_); refine gL 9 Tryz.func152 #[.int .i64 (l0_1.length : Int)] ?_; (with_reducible refine (spec_voAll.calls (l0_1.length : Int) t102 _ A3.out).mono ?_); rintro e w' ⟨rfl, ⟨nd, rfl⟩⟩; refine ⟨_, rfl, ?_⟩))
    go_ret
    exact ⟨_, by first | rfl | (simp <;> rfl) | (simp [*] <;> rfl), by (with_reducible repeat (first | apply qA | apply qN | apply qD)); exact HO_3.out, by repeat (first | (with_reducible first | exact HB.out | apply ba | apply bd | apply be | refine bs ?_ GE101.out) | exact HB.out)⟩
mutual
def spec_DummiesOf.l0 : Nat → List Bool → List (List Int) → Int → Int → Option (List Int × Bool)
 | 0, _, _, _, _ => none
 | k + 1, x4, x21, x22, x23 => if x23 < x22 then (if 0 ≤ x23 then (if x23 < (x21.length : Int) then (spec_DummiesOf.l1 k x4 x21 x22 x23 (rd_L2 x21 x23) ((rd_L2 x21 x23).length : Int) 0) else (none)) else (none)) else (spec_DummiesOf.l2 k ([] : List Int) x4 (x4.length : Int) 0)
def spec_DummiesOf.l1 : Nat → List Bool → List (List Int) → Int → Int → List Int → Int → Int → Option (List Int × Bool)
 | 0, _, _, _, _, _, _, _ => none
 | k + 1, x4, x21, x22, x23, x27, x28, x29 => if x29 < x28 then (if 0 ≤ x29 then (if x29 < (x27.length : Int) then (if 0 ≤ (rd x27 x29) then (if (rd x27 x29) < (x4.length : Int) then (spec_DummiesOf.l1 k (x4.set ((rd x27 x29) : Int).toNat true) x21 x22 x23 x27 x28 (wrap64 (x29 + 1))) else (none)) else (none)) else (none)) else (none)) else (spec_DummiesOf.l0 k x4 x21 x22 (wrap64 (x23 + 1)))
def spec_DummiesOf.l2 : Nat → List Int → List Bool → Int → Int → Option (List Int × Bool)
 | 0, _, _, _, _ => none
 | k + 1, x9, x38, x39, x40 => if x40 < x39 then (if 0 ≤ x40 then (if x40 < (x38.length : Int) then (if rdOf false x38 x40 = true then (spec_DummiesOf.l2 k x9 x38 x39 (wrap64 (x40 + 1))) else (if x9.length < 17592186044416 then (spec_DummiesOf.l2 k (x9 ++ [x40]) x38 x39 (wrap64 (x40 + 1))) else (none))) else (none)) else (none)) else (some (x9, true))
end
def spec_DummiesOf.f (k : Nat) (a0_0 : Int) (l0_1 : List Int) : Option (List Int × Bool) := (spec_voGood.f k a0_0 l0_1).bind fun t102 => (if t102 = true then (if 0 ≤ (l0_1.length : Int) then (if ((l0_1.length : Int) : Int).toNat ≤ 281474976710656 then ((spec_voWins.f k a0_0 l0_1).bind fun t106 => ((spec_voLeast.f k t106).bind fun t109 => (spec_DummiesOf.l0 k (List.replicate ((l0_1.length : Int) : Int).toNat false) t109 (t109.length : Int) 0))) else (none)) else (none)) else (some (([] : List Int), false)))
theorem spec_DummiesOf.calls (k : Nat) (a0_0 : Int) (A0_1 : Option Addr) (c0_1 : Nat) (l0_1 : List Int) (r1 : List Int) (r2 : Bool) (w : World) (hr0_1 : Kd.C (Kd.int .i64) w A0_1 l0_1.length l0_1) (hc0_1 : l0_1.length ≤ c0_1) (h : spec_DummiesOf.f k a0_0 l0_1 = some (r1, r2)) :
  Calls Tryz.prog 31 #[.agg #[.int .i64 a0_0, .slice A0_1 l0_1.length c0_1]] w fun e w' => ∃ v0_ : Value, e = .returned (.tuple #[v0_, .bool r2]) ∧ Kd.R (Kd.int .i64) 3 w' w.heap.size (fun _ => True) v0_ r1 ∧ Below w.heap.size w w' := by
 have hu26 := Tryz.underlying26
 have HR0_1 := Aside0.mk hr0_1
 have HC0_1 := Aside0.mk hc0_1
 clear hr0_1 hc0_1
 have HB := Aside0.mk (Below.refl w.heap.size w)
 have H : ((spec_voGood.f k a0_0 l0_1).bind fun t102 => (if t102 = true then (if 0 ≤ (l0_1.length : Int) then (if ((l0_1.length : Int) : Int).toNat ≤ 281474976710656 then ((spec_voWins.f k a0_0 l0_1).bind fun t106 => ((spec_voLeast.f k t106).bind fun t109 => (spec_DummiesOf.l0 k (List.replicate ((l0_1.length : Int) : Int).toNat false) t109 (t109.length : Int) 0))) else (none)) else (none)) else (some (([] : List Int), false)))) = some (r1, r2) := h
 clear h
 replace H := oA H
 obtain ⟨t102, A2, H⟩ := H
 (try dsimp only at H)
 by_cases c3 : t102 = true
 ·subst c3
  replace H := iT H
  by_cases c4 : 0 ≤ (l0_1.length : Int)
  ·rw [if_pos c4] at H
   have c4b0 := eq_true c4
   have c4b1 : decide (0 ≤ (l0_1.length : Int)) = true := decide_eq_true c4
   clear c4
   by_cases c5 : ((l0_1.length : Int) : Int).toNat ≤ 281474976710656
   ·rw [if_pos c5] at H
    have c5b0 := eq_true c5
    have c5b1 : decide (((l0_1.length : Int) : Int).toNat ≤ 281474976710656) = true := decide_eq_true c5
    clear c5
    obtain ⟨y103, hy103⟩ : ∃ y_ : List Bool, y_ = (List.replicate ((l0_1.length : Int) : Int).toNat false) := ⟨_, rfl⟩
    replace H : ((spec_voWins.f k a0_0 l0_1).bind fun t106 => ((spec_voLeast.f k t106).bind fun t109 => (spec_DummiesOf.l0 k y103 t109 (t109.length : Int) 0))) = some (r1, r2) := by first | (rw [hy103]; with_reducible exact H) | (have H2_ := (Option.bind_some _ _).symm.trans H; rw [hy103]; with_reducible exact H2_) | (have H2_ := (Option.bind_some _ _).symm.trans H; with_reducible exact H2_) | with_reducible exact H | (rw [hy103]; exact H) | exact H
    have Ny103 := Aside0.mk hy103
    clear hy103
    replace H := oA H
    obtain ⟨t106, A6, H⟩ := H
    (try dsimp only at H)
    replace H := oA H
    obtain ⟨t109, A7, H⟩ := H
    (try dsimp only at H)
    have H' := Aside0.mk H
    clear H
    go_enter Tryz.func31, Tryz.ntmps31
    go_wp2_with (first | ((with_reducible refine gate_dst (N := 1) rfl ?_); refine box_event ?hg (N := 1) ?hd (cs := #[.int .i64 a0_0, .slice A0_1 l0_1.length c0_1]) (t := 26) ?hr ?_; (case hd => rfl); (case hg => rfl); (case hr => first | (go_simp; done) | (go_simp; rfl)); intro gb101 hg w8 hbox hb; have BK101 := Aside0.mk (hbox); have GW101 := gS hg HB; have GE101 := gS hg HB; replace HB := sB HB hb; clear hb hg; have hcz9_0 := cZ BK101 0; have hcz9_1 := cZ BK101 1; have hfz9_0 := fZ BK101 0; have hfz9_1 := fZ BK101 1) | ((with_reducible refine gate_callee (f := 129) rfl ?_); refine gL 13 Tryz.func129 #[.agg #[.int .i64 a0_0, .slice A0_1 l0_1.length c0_1]] ?_; (with_reducible refine (spec_voGood.calls k a0_0 _ _ l0_1 true _ (Kd.C_below HR0_1.out HB.out) HC0_1.out A2.out).mono ?_); rintro e w10 ⟨rfl, hb⟩; refine ⟨_, rfl, ?_⟩; replace BK101 := bB BK101 hb; replace HB := sB HB hb; (try clear hb); (try clear hcz9_0 hcz9_1 hfz9_0 hfz9_1); have hcz11_0 := cZ BK101 0; have hcz11_1 := cZ BK101 1; have hfz11_0 := fZ BK101 0; have hfz11_1 := fZ BK101 1) | ((with_reducible refine gate_dst (N := 18) rfl ?_); refine Kd.R_make Kd.bool _ 4 rfl (N := 18) rfl 85 _ _ rfl (l0_1.length : Int) rfl rfl Tryz.underlying85 (.bool false) 1 info4 rfl (by decide) (by omega) false (ok := fun _ => True) (okp := fun _ => True) rfl (fun _ hk => hk) trivial (oD) (Nat.le_trans (Nat.mul_le_mul_right _ (oD : (l0_1.length : Int).toNat ≤ 281474976710656)) (by omega)) (Below.refl _ _) (Nat.le_refl _) ?_; intro v104 w12 ho13 hb hg_ hnew_; clear hg_ hnew_; (first | rw [← Ny103.out] at ho13 | (simp only [Int.reduceToNat] at ho13; rw [← Ny103.out] at ho13)); have HO105 := Aside0.mk (Kd.R_lower ho13 (below_size HB.out)); replace BK101 := bB BK101 hb; replace HB := sB HB hb; clear hb ho13; (try clear hcz11_0 hcz11_1 hfz11_0 hfz11_1); have hcz14_0 := cZ BK101 0; have hcz14_1 := cZ BK101 1; have hfz14_0 := fZ BK101 0; have hfz14_1 := fZ BK101 1) | ((with_reducible refine gate_callee (f := 141) rfl ?_); refine gL 20 Tryz.func141 #[.agg #[.int .i64 a0_0, .slice A0_1 l0_1.length c0_1]] ?_; (with_reducible refine (spec_voWins.calls k a0_0 _ _ l0_1 t106 _ (Kd.C_below HR0_1.out HB.out) HC0_1.out A6.out).mono ?_); rintro e w15 ⟨v107, rfl, ho0, hb⟩; refine ⟨_, rfl, ?_⟩; have HO108 := Aside0.mk (Kd.R_lower (Kd.R_new' ho0 (Kd.R_lt HO105.out)) (below_size HB.out)); replace HO105 := Aside0.mk (Kd.R_elder' HO105.out (Kd.R_base ho0) hb); replace BK101 := bB BK101 hb; replace HB := sB HB hb; (try clear hb); (try clear ho0); obtain ⟨Ao16, co16, eo16⟩ := Kd.R_slice HO108.out; subst eo16) | ((with_reducible refine gate_callee (f := 140) rfl ?_); refine gL 21 Tryz.func140 #[.slice Ao16 t106.length co16] ?_; (with_reducible refine (spec_voLeast.calls k _ _ t106 t109 _ ?side1 ?side2 A7.out).mono ?_); (case side1 => repeat (first | exact (Kd.R_reads' HO108.out).2.2 | (with_reducible refine Kd.C_alloc ?_ _) | (with_reducible refine Kd.C_drewN ?_ _) | (with_reducible refine Kd.C_drew ?_))); (case side2 => exact (Kd.R_reads' HO108.out).2.1); rintro e w17 ⟨v110, rfl, ho0, hb⟩; refine ⟨_, rfl, ?_⟩; have HO111 := Aside0.mk (Kd.S_lower ho0 (below_size HB.out)); replace HO105 := Aside0.mk (Kd.R_below HO105.out hb); replace HO108 := Aside0.mk (Kd.R_below HO108.out hb); replace BK101 := bB BK101 hb; replace HB := sB HB hb; (try clear hb); (try clear ho0); obtain ⟨Ao18, co18, eo18⟩ := Kd.S_slice HO111.out; subst eo18))
    go_loopg [23] k (fun kq v23 w' => ∃ (x4_1 : List Bool) (x23_1 : Int), v23 = .int .i64 x23_1 ∧ Aside0 (spec_DummiesOf.l0 kq x4_1 t109 (t109.length : Int) x23_1 = some (r1, r2)) ∧ Aside0 (kq ≤ k) ∧ Aside0 (Kd.R Kd.bool 4 w' w.heap.size (fun _ => True) v104 x4_1) ∧ Aside0 (Kd.S (Kd.slice 3 (Kd.int .i64)) 24 w' w.heap.size (fun _ => True) (.slice Ao18 t109.length co18) t109) ∧ Aside0 (w'.heap[gb101]? = some (.cells #[.int .i64 a0_0, (.slice A0_1 l0_1.length c0_1)] 26 (0, 0))) ∧ Aside0 (Below w.heap.size w w'))
    case atStart => exact ⟨(y103), (0), (by first | rfl | (simp; done) | (simp [*]; done)), H', ⟨Nat.le_refl _⟩, ⟨by exact Kd.R_mono HO105.out (fun _ hk => trivial)⟩, ⟨by exact HO111.out⟩, ⟨by exact BK101.out⟩, ⟨by repeat (first | (with_reducible first | exact HB.out | apply ba | apply bd | apply be | refine bs ?_ GE101.out) | exact HB.out)⟩⟩
    case round =>
     clear H'
     (try clear c1); (try clear p2); (try clear c3); (try clear c4); (try clear c4b0); (try clear c4b1); (try clear c5); (try clear c5b0); (try clear c5b1); (try clear c12); (try clear c14); (try clear hcz14_0); (try clear hcz14_1); (try clear hfz14_0); (try clear hfz14_1)
     obtain ⟨x4_1, x23_1, rfl, HA, HK1, HO_4, HO_21, BK101, HB⟩ := hrel
     cases gk with
     | zero => exact absurd HA.out (by simp [spec_DummiesOf.l0])
     | succ k1 =>
      have H := HA.out
      clear HA
      simp only [spec_DummiesOf.l0] at H
      by_cases c19 : x23_1 < (t109.length : Int)
      ·rw [if_pos c19] at H
       have c19b0 : decide (x23_1 < (t109.length : Int)) = true := decide_eq_true c19
       clear c19
       by_cases c20 : 0 ≤ x23_1
       ·rw [if_pos c20] at H
        have c20b0 : decide (0 ≤ x23_1) = true := decide_eq_true c20
        clear c20
        by_cases c21 : x23_1 < (t109.length : Int)
        ·rw [if_pos c21] at H
         have c21b0 : decide (x23_1 < (t109.length : Int)) = true := decide_eq_true c21
         clear c21
         have H' := Aside0.mk H
         clear H
         have p112 : 0 ≤ (x23_1 : Int) := oD
         have q112 : x23_1 < (t109.length : Int) := oD
         obtain ⟨ad112, A112_0, c112_0, e112, hx112_0, hl112_0, hi112_0⟩ := at_L2 (Kd.S_reads' HO_21.out).2.2 x23_1 p112 q112
         cases e112
         obtain ⟨ce112, hce112, hMe112, hcc112⟩ := Kd.S_get HO_21.out [] x23_1 p112 (by first | exact q112 | exact oD | (have e_ := (Kd.S_reads' HO_21.out).1; omega))
         obtain ⟨ve112_0, rfl, ge112_0⟩ := hMe112
         have hv112_0 := hcc112 0 _ rfl
         rw [Nat.add_zero, show ((Kd.slice 3 (Kd.int .i64))).sz = 1 from rfl, Nat.mul_one] at hv112_0
         replace hv112_0 := Option.some.inj (hv112_0.symm.trans hx112_0)
         rw [hv112_0] at ge112_0
         have HL112_0 := Aside0.mk (show Kd.R (Kd.int .i64) 3 _ _ _ _ (rd_L2 t109 x23_1) from ge112_0)
         clear hv112_0 ge112_0
         clear hcc112 hce112
         have HR112_0 := Aside0.mk hi112_0
         have HC112_0 := Aside0.mk hl112_0
         clear hi112_0 hl112_0
         replace p112 := eq_true p112
         replace q112 := eq_true q112
         go_wp2
         go_loopg [29] k1 (fun kq v29 w' => ∃ (x4_2 : List Bool) (x29_2 : Int), v29 = .int .i64 x29_2 ∧ Aside0 (spec_DummiesOf.l1 kq x4_2 t109 (t109.length : Int) x23_1 (rd_L2 t109 x23_1) ((rd_L2 t109 x23_1).length : Int) x29_2 = some (r1, r2)) ∧ Aside0 (kq ≤ k1) ∧ Aside0 (Kd.R Kd.bool 4 w' w.heap.size (fun _ => True) v104 x4_2) ∧ Aside0 (Kd.S (Kd.slice 3 (Kd.int .i64)) 24 w' w.heap.size (fun _ => True) (.slice (some ad112) t109.length co18) t109) ∧ Aside0 (Kd.R (Kd.int .i64) 3 w' w.heap.size (fun _ => True) (.slice A112_0 (rd_L2 t109 x23_1).length c112_0) (rd_L2 t109 x23_1)) ∧ Aside0 (w'.heap[gb101]? = some (.cells #[.int .i64 a0_0, (.slice A0_1 l0_1.length c0_1)] 26 (0, 0))) ∧ Aside0 (Below w.heap.size w w'))
         case atStart => exact ⟨(x4_1), (0), (by first | rfl | (simp; done) | (simp [*]; done)), H', ⟨Nat.le_refl _⟩, ⟨by exact HO_4.out⟩, ⟨by exact HO_21.out⟩, ⟨by exact Kd.R_mono HL112_0.out (fun _ hk => trivial)⟩, ⟨by exact BK101.out⟩, ⟨by repeat (first | (with_reducible first | exact HB.out | apply ba | apply bd | apply be | refine bs ?_ GE101.out) | exact HB.out)⟩⟩
         case round =>
          clear H'
          (try clear c1); (try clear p1); (try clear q1); (try clear hx1); (try clear c2); (try clear p2); (try clear c3); (try clear c4); (try clear c4b0); (try clear c4b1); (try clear c5); (try clear c5b0); (try clear c5b1); (try clear c11); (try clear p11); (try clear q11); (try clear hx11); (try clear c12); (try clear c14); (try clear c19); (try clear c19b0); (try clear c20); (try clear c20b0); (try clear c21); (try clear c21b0); (try clear hcz14_0); (try clear hcz14_1); (try clear hfz14_0); (try clear hfz14_1); (try clear hx112_0); (try clear p112); (try clear p2); (try clear q112)
          obtain ⟨x4_2, x29_2, rfl, HA, HK2, HO_4, HO_21, HLI, BK101, HB⟩ := hrel
          cases gk with
          | zero => exact absurd HA.out (by simp [spec_DummiesOf.l1])
          | succ k2 =>
           have H := HA.out
           clear HA
           simp only [spec_DummiesOf.l1] at H
           by_cases c22 : x29_2 < ((rd_L2 t109 x23_1).length : Int)
           ·rw [if_pos c22] at H
            have c22b0 : decide (x29_2 < ((rd_L2 t109 x23_1).length : Int)) = true := decide_eq_true c22
            clear c22
            by_cases c23 : 0 ≤ x29_2
            ·rw [if_pos c23] at H
             have c23b0 : decide (0 ≤ x29_2) = true := decide_eq_true c23
             clear c23
             by_cases c24 : x29_2 < ((rd_L2 t109 x23_1).length : Int)
             ·rw [if_pos c24] at H
              have c24b0 : decide (x29_2 < ((rd_L2 t109 x23_1).length : Int)) = true := decide_eq_true c24
              clear c24
              by_cases c25 : 0 ≤ (rd (rd_L2 t109 x23_1) x29_2)
              ·rw [if_pos c25] at H
               have c25b0 : decide (0 ≤ (rd (rd_L2 t109 x23_1) x29_2)) = true := decide_eq_true c25
               clear c25
               by_cases c26 : (rd (rd_L2 t109 x23_1) x29_2) < (x4_2.length : Int)
               ·rw [if_pos c26] at H
                have c26b0 : decide ((rd (rd_L2 t109 x23_1) x29_2) < (x4_2.length : Int)) = true := decide_eq_true c26
                clear c26
                obtain ⟨y114, hy114⟩ : ∃ y_ : List Bool, y_ = (x4_2.set ((rd (rd_L2 t109 x23_1) x29_2) : Int).toNat true) := ⟨_, rfl⟩
                replace H : (spec_DummiesOf.l1 k2 y114 t109 (t109.length : Int) x23_1 (rd_L2 t109 x23_1) ((rd_L2 t109 x23_1).length : Int) (wrap64 (x29_2 + 1))) = some (r1, r2) := by first | (rw [hy114]; with_reducible exact H) | (have H2_ := (Option.bind_some _ _).symm.trans H; rw [hy114]; with_reducible exact H2_) | (have H2_ := (Option.bind_some _ _).symm.trans H; with_reducible exact H2_) | with_reducible exact H | (rw [hy114]; exact H) | exact H
                have Ny114 := Aside0.mk hy114
                clear hy114
                have H' := Aside0.mk H
                clear H
                have p113 : 0 ≤ (x29_2 : Int) := oD
                have q113 : x29_2 < ((rd_L2 t109 x23_1).length : Int) := oD
                obtain ⟨ad113, e113, hx113_0⟩ := Kd.at_int (Kd.R_reads' HLI.out).2.2 x29_2 p113 q113
                cases e113
                skip
                replace p113 := eq_true p113
                replace q113 := eq_true q113
                have p27 : 0 ≤ ((rd (rd_L2 t109 x23_1) x29_2) : Int) := oD
                have q27 : ((rd (rd_L2 t109 x23_1) x29_2) : Int) < ((x4_2.length : Int) : Int) := oD
                obtain ⟨go27, co27, eo27, gb27, gl27, cl27, HG27⟩ := Kd.R_form HO_4.out (by omega)
                (first | cases eo27 | (injection eo27 with ea_ en_ ec_; (first | subst ea_ | (injection ea_ with ea_; subst ea_)); subst ec_; clear en_))
                have GB27 := Aside0.mk gb27
                have GG27 := Aside0.mk HG27
                clear gb27 gl27 HG27
                obtain ⟨hx27_0, hf27_0⟩ := Kd.R_celln false HO_4.out ((rd (rd_L2 t109 x23_1) x29_2) : Int) p27 q27
                replace p27 := eq_true p27
                replace q27 := eq_true q27
                have HP28 := Kd.R_putg HO_4.out ((rd (rd_L2 t109 x23_1) x29_2) : Int) true
                go_wp2_with (first | ((with_reducible refine gate_store (t := 4) (p := 35) rfl ?_); refine store_event (t := 4) (p := 35) (v := ?vo_w29) (w1 := (wr.setCell ⟨go27, ((rd (rd_L2 t109 x23_1) x29_2) : Int).toNat, none⟩ (.bool true))) ?hg ?ho ?hn ?hr ?_; (case ho => rfl); (case hg => rfl); (case hn => rfl); (case hr => first | (go_simp; done) | (go_simp; rfl)); intro w29 hw; have hg : wr.grownBy w29 (some go27) := (by rw [hw]; exact HP28.2); have hp_ : Kd.R Kd.bool 4 w29 w.heap.size (fun _ => True) (.slice (some ⟨go27, 0, none⟩) x4_2.length co27) y114 := (by rw [hw, Ny114.out]; exact HP28.1); clear HP28; have n0_ := Aside0.mk (hp_); have n1_ := Aside0.mk (Kd.S_over' (v := (.slice (some ⟨go27, 0, none⟩) x4_2.length co27)) HO_21.out (Kd.R_typed HO_4.out) (by decide) hg); have n2_ := Aside0.mk (blk_grown (g := gb101) (o := .cells #[.int .i64 a0_0, .slice A0_1 l0_1.length c0_1] 26 (0, 0)) BK101.out hg (Kd.R_ne HO_4.out BK101.out (by decide))); have n3_ := Aside0.mk ((by rw [hw]; exact below_set (HB.out) GB27.out : Below w.heap.size w w29)); have nL_ := Aside0.mk (Kd.R_over' (v := (.slice (some ⟨go27, 0, none⟩) x4_2.length co27)) HLI.out (Kd.R_typed HO_4.out) (by decide) hg); clear HLI; have HLI := nL_; clear nL_; clear HO_4; clear HO_21; clear BK101; clear HB; have HO_4 := n0_; have HO_21 := n1_; have BK101 := n2_; have HB := n3_; clear n0_ n1_ n2_ n3_; clear hg hw hp_))
                go_roundg k2
                case measure => have := HK1.out; have := HK2.out; omega
                case rel => exact ⟨(y114), (wrap64 (x29_2 + 1)), (by first | rfl | (simp; done) | (simp [*]; done)), H', ⟨by have := HK1.out; have := HK2.out; omega⟩, ⟨by exact HO_4.out⟩, ⟨by exact HO_21.out⟩, ⟨by exact HLI.out⟩, ⟨by exact BK101.out⟩, ⟨by repeat (first | (with_reducible first | exact HB.out | apply ba | apply bd | apply be | refine bs ?_ GE101.out) | exact HB.out)⟩⟩
               ·rw [if_neg c26] at H
                exact absurd H (by simp)
              ·rw [if_neg c25] at H
               exact absurd H (by simp)
             ·rw [if_neg c24] at H
              exact absurd H (by simp)
            ·rw [if_neg c23] at H
             exact absurd H (by simp)
           ·rw [if_neg c22] at H
            have c22b0 : decide (x29_2 < ((rd_L2 t109 x23_1).length : Int)) = false := decide_eq_false c22
            clear c22
            have H' := Aside0.mk H
            clear H
            go_wp2
            go_roundg k2
            case measure => have := HK1.out; have := HK2.out; omega
            case rel => exact ⟨(x4_2), (wrap64 (x23_1 + 1)), (by first | rfl | (simp; done) | (simp [*]; done)), H', ⟨by have := HK1.out; have := HK2.out; omega⟩, ⟨by exact HO_4.out⟩, ⟨by exact HO_21.out⟩, ⟨by exact BK101.out⟩, ⟨by repeat (first | (with_reducible first | exact HB.out | apply ba | apply bd | apply be | refine bs ?_ GE101.out) | exact HB.out)⟩⟩
        ·rw [if_neg c21] at H
         exact absurd H (by simp)
       ·rw [if_neg c20] at H
        exact absurd H (by simp)
      ·rw [if_neg c19] at H
       have c19b0 : decide (x23_1 < (t109.length : Int)) = false := decide_eq_false c19
       clear c19
       have H' := Aside0.mk H
       clear H
       obtain ⟨Ao30, co30, eo30⟩ := Kd.R_slice HO_4.out
       subst eo30
       go_wp2
       go_loopg [9, 40] k1 (fun kq v9 v40 w' => ∃ (x9_2 : List Int) (x40_2 : Int), v40 = .int .i64 x40_2 ∧ Aside0 (spec_DummiesOf.l2 kq x9_2 x4_1 (x4_1.length : Int) x40_2 = some (r1, r2)) ∧ Aside0 (kq ≤ k1) ∧ Aside0 (Kd.R (Kd.int .i64) 3 w' w.heap.size (fun _ => True) v9 x9_2) ∧ Aside0 (Kd.R Kd.bool 4 w' w.heap.size (fun _ => True) (.slice Ao30 x4_1.length co30) x4_1) ∧ Aside0 (w'.heap[gb101]? = some (.cells #[.int .i64 a0_0, (.slice A0_1 l0_1.length c0_1)] 26 (0, 0))) ∧ Aside0 (Below w.heap.size w w'))
       case atStart => exact ⟨(([] : List Int)), (0), (by first | rfl | (simp; done) | (simp [*]; done)), H', ⟨Nat.le_refl _⟩, ⟨by first | exact Kd.R_nil _ _ _ _ _ | exact Kd.N_nil _ _ _ _ _ | exact Kd.V_nil _ _ _ _ _ | exact Kd.Q_nil _ _ _ _ _ | exact Kd.S_nil _ _ _ _ _⟩, ⟨by exact HO_4.out⟩, ⟨by exact BK101.out⟩, ⟨by repeat (first | (with_reducible first | exact HB.out | apply ba | apply bd | apply be | refine bs ?_ GE101.out) | exact HB.out)⟩⟩
       case round =>
        clear H'
        (try clear c1); (try clear p1); (try clear q1); (try clear hx1); (try clear c2); (try clear p2); (try clear q2); (try clear hx2); (try clear hf2); (try clear c3); (try clear c4); (try clear c4b0); (try clear c4b1); (try clear c5); (try clear c5b0); (try clear c5b1); (try clear p6); (try clear c11); (try clear p11); (try clear q11); (try clear hx11); (try clear c12); (try clear c14); (try clear c19); (try clear c19b0); (try clear c20); (try clear c20b0); (try clear c21); (try clear c21b0); (try clear c22); (try clear c22b0); (try clear c23); (try clear c23b0); (try clear c24); (try clear c24b0); (try clear c25); (try clear c25b0); (try clear c26); (try clear c26b0); (try clear p27); (try clear q27); (try clear hx27); (try clear hf27); (try clear hcz14_0); (try clear hcz14_1); (try clear hfz14_0); (try clear hfz14_1); (try clear hx112_0); (try clear hx113_0); (try clear hx27_0); (try clear p1); (try clear p11); (try clear p112); (try clear p113); (try clear p2); (try clear p27); (try clear q1); (try clear q11); (try clear q112); (try clear q113); (try clear q27)
        obtain ⟨x9_2, x40_2, rfl, HA, HK2, HO_9, HO_38, BK101, HB⟩ := hrel
        cases gk with
        | zero => exact absurd HA.out (by simp [spec_DummiesOf.l2])
        | succ k2 =>
         have H := HA.out
         clear HA
         simp only [spec_DummiesOf.l2] at H
         by_cases c31 : x40_2 < (x4_1.length : Int)
         ·rw [if_pos c31] at H
          have c31b0 : decide (x40_2 < (x4_1.length : Int)) = true := decide_eq_true c31
          clear c31
          by_cases c32 : 0 ≤ x40_2
          ·rw [if_pos c32] at H
           have c32b0 : decide (0 ≤ x40_2) = true := decide_eq_true c32
           clear c32
           by_cases c33 : x40_2 < (x4_1.length : Int)
           ·rw [if_pos c33] at H
            have c33b0 : decide (x40_2 < (x4_1.length : Int)) = true := decide_eq_true c33
            clear c33
            obtain ⟨bq34, hbq34⟩ : ∃ b_ : Bool, b_ = (rdOf false x4_1 x40_2) := ⟨_, rfl⟩
            replace H : (if bq34 = true then (spec_DummiesOf.l2 k2 x9_2 x4_1 (x4_1.length : Int) (wrap64 (x40_2 + 1))) else (if x9_2.length < 17592186044416 then (spec_DummiesOf.l2 k2 (x9_2 ++ [x40_2]) x4_1 (x4_1.length : Int) (wrap64 (x40_2 + 1))) else (none))) = some (r1, r2) := by rw [← hbq34] at H; exact H
            have Nbq34 := Aside0.mk hbq34
            clear hbq34
            by_cases c35 : bq34 = true
            ·subst c35
             replace H := iT H
             have H' := Aside0.mk H
             clear H
             have p115 : 0 ≤ (x40_2 : Int) := oD
             have q115 : x40_2 < (x4_1.length : Int) := oD
             obtain ⟨ad115, e115, hx115_0⟩ := Kd.at_bool (Kd.R_reads' HO_38.out).2.2 x40_2 p115 q115
             (try rw [← Nbq34.out] at hx115_0)
             cases e115
             replace p115 := eq_true p115
             replace q115 := eq_true q115
             go_wp2
             go_roundg k2
             case measure => have := HK1.out; have := HK2.out; omega
             case rel => exact ⟨(x9_2), (wrap64 (x40_2 + 1)), (by first | rfl | (simp; done) | (simp [*]; done)), H', ⟨by have := HK1.out; have := HK2.out; omega⟩, ⟨by exact HO_9.out⟩, ⟨by exact HO_38.out⟩, ⟨by exact BK101.out⟩, ⟨by repeat (first | (with_reducible first | exact HB.out | apply ba | apply bd | apply be | refine bs ?_ GE101.out) | exact HB.out)⟩⟩
            ·replace c35 := Bool.eq_false_iff.mpr c35
             subst c35
             replace H := iF H
             by_cases c36 : x9_2.length < 17592186044416
             ·rw [if_pos c36] at H
              have LMc36 := Aside0.mk c36
              clear c36
              obtain ⟨y116, hy116⟩ : ∃ y_ : List Int, y_ = (x9_2 ++ [x40_2]) := ⟨_, rfl⟩
              replace H : (spec_DummiesOf.l2 k2 y116 x4_1 (x4_1.length : Int) (wrap64 (x40_2 + 1))) = some (r1, r2) := by first | (rw [hy116]; with_reducible exact H) | (have H2_ := (Option.bind_some _ _).symm.trans H; rw [hy116]; with_reducible exact H2_) | (have H2_ := (Option.bind_some _ _).symm.trans H; with_reducible exact H2_) | with_reducible exact H | (rw [hy116]; exact H) | exact H
              have Ny116 := Aside0.mk hy116
              clear hy116
              have H' := Aside0.mk H
              clear H
              have p115 : 0 ≤ (x40_2 : Int) := oD
              have q115 : x40_2 < (x4_1.length : Int) := oD
              obtain ⟨ad115, e115, hx115_0⟩ := Kd.at_bool (Kd.R_reads' HO_38.out).2.2 x40_2 p115 q115
              (try rw [← Nbq34.out] at hx115_0)
              cases e115
              replace p115 := eq_true p115
              replace q115 := eq_true q115
              go_wp2_with (first | ((with_reducible refine gate_builtin (b := .append) (xs := #[.tmp 47, .tmp 49]) rfl ?_); at_builtin; refine Kd.R_append (Kd.int .i64) (w0 := w) w.heap.size rfl (.tmp 47) (.tmp 49) 24 3 (.int .i64 0) 8 rfl Tryz.underlying24 info3 rfl (by decide) (by omega) u9 x9_2 x40_2 [.int .i64 x40_2] (fun _ => True) (fun _ => False) rfl rfl ?aP (fun _ hk => hk.elim) ?aF ?aO ?aB ?aS ?aL ?_; (case aP => exact rfl); (case aB => exact HB.out); (case aF => exact (fun _ _ => trivial)); (case aO => exact HO_9.out); (case aS => exact (below_size HB.out)); (case aL => have := LMc36.out; omega); intro v117 w37 ho hb hg hat; rw [← Ny116.out] at ho; have HO118 := Aside0.mk (ho); replace HO_38 := Aside0.mk (Kd.R_over' HO_38.out (Kd.R_typed HO_9.out) (by decide) hg); replace BK101 := Aside0.mk (blk_grown (g := gb101) (o := .cells #[.int .i64 a0_0, .slice A0_1 l0_1.length c0_1] 26 (0, 0)) BK101.out hg (Kd.R_ne HO_9.out BK101.out (by decide))); replace HB := Aside0.mk (hb); clear ho hb hg hat))
              go_roundg k2
              case measure => have := HK1.out; have := HK2.out; omega
              case rel => exact ⟨(y116), (wrap64 (x40_2 + 1)), (by first | rfl | (simp; done) | (simp [*]; done)), H', ⟨by have := HK1.out; have := HK2.out; omega⟩, ⟨by exact HO118.out⟩, ⟨by exact HO_38.out⟩, ⟨by exact BK101.out⟩, ⟨by repeat (first | (with_reducible first | exact HB.out | apply ba | apply bd | apply be | refine bs ?_ GE101.out) | exact HB.out)⟩⟩
             ·rw [if_neg c36] at H
              exact absurd H (by simp)
           ·rw [if_neg c33] at H
            exact absurd H (by simp)
          ·rw [if_neg c32] at H
           exact absurd H (by simp)
         ·rw [if_neg c31] at H
          have c31b0 : decide (x40_2 < (x4_1.length : Int)) = false := decide_eq_false c31
          clear c31
          simp only [Option.some.injEq, Prod.mk.injEq] at H
          obtain ⟨rfl, rfl⟩ := H
          go_wp2
          go_ret2
          exact ⟨_, by first | rfl | (simp <;> rfl) | (simp [*] <;> rfl), by exact HO_9.out, by repeat (first | (with_reducible first | exact HB.out | apply ba | apply bd | apply be | refine bs ?_ GE101.out) | exact HB.out)⟩
   ·rw [if_neg c5] at H
    exact absurd H (by simp)
  ·rw [if_neg c4] at H
   exact absurd H (by simp)
 ·replace c3 := Bool.eq_false_iff.mpr c3
  subst c3
  replace H := iF H
  simp only [Option.some.injEq, Prod.mk.injEq] at H
  obtain ⟨rfl, rfl⟩ := H
  go_enter Tryz.func31, Tryz.ntmps31
  go_wp2_with (first | ((with_reducible refine gate_dst (N := 1) rfl ?_); refine box_event ?hg (N := 1) ?hd (cs := #[.int .i64 a0_0, .slice A0_1 l0_1.length c0_1]) (t := 26) ?hr ?_; (case hd => rfl); (case hg => rfl); (case hr => first | (go_simp; done) | (go_simp; rfl)); intro gb101 hg w38 hbox hb; have BK101 := Aside0.mk (hbox); have GW101 := gS hg HB; have GE101 := gS hg HB; replace HB := sB HB hb; clear hb hg; have hcz39_0 := cZ BK101 0; have hcz39_1 := cZ BK101 1; have hfz39_0 := fZ BK101 0; have hfz39_1 := fZ BK101 1) | ((with_reducible refine gate_callee (f := 129) rfl ?_); refine gL 13 Tryz.func129 #[.agg #[.int .i64 a0_0, .slice A0_1 l0_1.length c0_1]] ?_; (with_reducible refine (spec_voGood.calls k a0_0 _ _ l0_1 false _ (Kd.C_below HR0_1.out HB.out) HC0_1.out A2.out).mono ?_); rintro e w40 ⟨rfl, hb⟩; refine ⟨_, rfl, ?_⟩; replace BK101 := bB BK101 hb; replace HB := sB HB hb; (try clear hb)))
  go_ret2
  exact ⟨_, by first | rfl | (simp <;> rfl) | (simp [*] <;> rfl), by first | exact Kd.R_nil _ _ _ _ _ | exact Kd.N_nil _ _ _ _ _ | exact Kd.V_nil _ _ _ _ _ | exact Kd.Q_nil _ _ _ _ _ | exact Kd.S_nil _ _ _ _ _, by repeat (first | (with_reducible first | exact HB.out | apply ba | apply bd | apply be | refine bs ?_ GE101.out) | exact HB.out)⟩
def laws_mSame.l0 : Nat → List Int → List Int → Int → Int → Option (Bool)
 | 0, _, _, _, _ => none
 | k + 1, x0, x1, x12, x13 => if x13 < x12 then (if 0 ≤ x13 then (if x13 < (x0.length : Int) then (if x13 < (x1.length : Int) then (if (rd x0 x13) = (rd x1 x13) then (laws_mSame.l0 k x0 x1 x12 (wrap64 (x13 + 1))) else (some false)) else (none)) else (none)) else (none)) else (some true)
def laws_mSame.f (k : Nat) (l0 : List Int) (l1 : List Int) : Option (Bool) := if (l0.length : Int) = (l1.length : Int) then (laws_mSame.l0 k l0 l1 (l0.length : Int) 0) else (some false)
theorem laws_mSame.calls (k : Nat) (A0 : Option Addr) (c0 : Nat) (l0 : List Int) (A1 : Option Addr) (c1 : Nat) (l1 : List Int) (r : Bool) (w : World) (hr0 : Kd.C (Kd.int .i64) w A0 l0.length l0) (hc0 : l0.length ≤ c0) (hr1 : Kd.C (Kd.int .i64) w A1 l1.length l1) (hc1 : l1.length ≤ c1) (h : laws_mSame.f k l0 l1 = some r) :
  Calls Tryz.prog 32 #[.slice A0 l0.length c0, .slice A1 l1.length c1] w fun e w' => e = .returned (.bool r) ∧ Drawn0 w w' := by
 have HR0 := Aside0.mk hr0
 have HC0 := Aside0.mk hc0
 clear hr0 hc0
 have HR1 := Aside0.mk hr1
 have HC1 := Aside0.mk hc1
 clear hr1 hc1
 have H : (if (l0.length : Int) = (l1.length : Int) then (laws_mSame.l0 k l0 l1 (l0.length : Int) 0) else (some false)) = some r := h
 clear h
 by_cases c3 : (l0.length : Int) = (l1.length : Int)
 ·rw [if_pos c3] at H
  have c3b0 : ((l0.length : Int) == (l1.length : Int)) = true := beq_iff_eq.mpr c3
  have c3b1 : ((l0.length : Int) != (l1.length : Int)) = false := bne_eq_false_iff_eq.mpr c3
  have c3b2 : (l0.length == l1.length) = true := by first | simpa using c3 | (simp at c3 ⊢; omega)
  clear c3
  have H' := Aside0.mk H
  clear H
  go_enter Tryz.func32, Tryz.ntmps32
  go_wp2
  repeat (go_quiet (fail); try go_wp2)
  go_loopg [13] k (fun kq v13 w' => ∃ (x13_1 : Int), v13 = .int .i64 x13_1 ∧ Aside0 (laws_mSame.l0 kq l0 l1 (l0.length : Int) x13_1 = some r) ∧ Aside0 (kq ≤ k) ∧ Drawn0 w w')
  case atStart => exact ⟨(0), (by first | rfl | (simp; done) | (simp [*]; done)), H', ⟨Nat.le_refl _⟩, by repeat (first | exact Drawn0.refl _ | apply Drawn0.step)⟩
  case round =>
   clear H'
   (try clear c1); (try clear p2); (try clear c3); (try clear c3b0); (try clear c3b1); (try clear c3b2)
   obtain ⟨x13_1, rfl, HA, HK1, ⟨m1, rfl⟩⟩ := hrel
   cases gk with
   | zero => exact absurd HA.out (by simp [laws_mSame.l0])
   | succ k1 =>
    have H := HA.out
    clear HA
    simp only [laws_mSame.l0] at H
    by_cases c4 : x13_1 < (l0.length : Int)
    ·rw [if_pos c4] at H
     have c4b0 : decide (x13_1 < (l0.length : Int)) = true := decide_eq_true c4
     clear c4
     by_cases c5 : 0 ≤ x13_1
     ·rw [if_pos c5] at H
      have c5b0 : decide (0 ≤ x13_1) = true := decide_eq_true c5
      clear c5
      by_cases c6 : x13_1 < (l0.length : Int)
      ·rw [if_pos c6] at H
       have c6b0 : decide (x13_1 < (l0.length : Int)) = true := decide_eq_true c6
       clear c6
       by_cases c7 : x13_1 < (l1.length : Int)
       ·rw [if_pos c7] at H
        have c7b0 : decide (x13_1 < (l1.length : Int)) = true := decide_eq_true c7
        clear c7
        by_cases c8 : (rd l0 x13_1) = (rd l1 x13_1)
        ·rw [if_pos c8] at H
         have c8b0 : ((rd l0 x13_1) == (rd l1 x13_1)) = true := beq_iff_eq.mpr c8
         have c8b1 : ((rd l0 x13_1) != (rd l1 x13_1)) = false := bne_eq_false_iff_eq.mpr c8
         clear c8
         have H' := Aside0.mk H
         clear H
         have p101 : 0 ≤ (x13_1 : Int) := oD
         have q101 : x13_1 < (l0.length : Int) := oD
         obtain ⟨ad101, e101, hx101_0⟩ := Kd.at_int HR0.out x13_1 p101 q101
         cases e101
         replace p101 := eq_true p101
         replace q101 := eq_true q101
         have p102 : 0 ≤ (x13_1 : Int) := oD
         have q102 : x13_1 < (l1.length : Int) := oD
         obtain ⟨ad102, e102, hx102_0⟩ := Kd.at_int HR1.out x13_1 p102 q102
         cases e102
         replace p102 := eq_true p102
         replace q102 := eq_true q102
         go_wp2
         repeat (go_quiet (fail); try go_wp2)
         go_roundg k1
         case measure => have := HK1.out; omega
         case rel => exact ⟨(wrap64 (x13_1 + 1)), (by first | rfl | (simp; done) | (simp [*]; done)), H', ⟨by have := HK1.out; omega⟩, by repeat (first | exact Drawn0.refl _ | apply Drawn0.step)⟩
        ·rw [if_neg c8] at H
         have c8b0 : ((rd l0 x13_1) == (rd l1 x13_1)) = false := beq_eq_false_iff_ne.mpr c8
         have c8b1 : ((rd l0 x13_1) != (rd l1 x13_1)) = true := bne_iff_ne.mpr c8
         obtain rfl := Option.some.inj H
         have p101 : 0 ≤ (x13_1 : Int) := oD
         have q101 : x13_1 < (l0.length : Int) := oD
         obtain ⟨ad101, e101, hx101_0⟩ := Kd.at_int HR0.out x13_1 p101 q101
         cases e101
         replace p101 := eq_true p101
         replace q101 := eq_true q101
         have p102 : 0 ≤ (x13_1 : Int) := oD
         have q102 : x13_1 < (l1.length : Int) := oD
         obtain ⟨ad102, e102, hx102_0⟩ := Kd.at_int HR1.out x13_1 p102 q102
         cases e102
         replace p102 := eq_true p102
         replace q102 := eq_true q102
         go_wp2
         repeat (go_quiet (fail); try go_wp2)
         go_ret
         exact ⟨by first | rfl | (simp; done) | (simp [*]; done), by repeat (first | exact Drawn0.refl _ | apply Drawn0.step)⟩
       ·rw [if_neg c7] at H
        exact absurd H (by simp)
      ·rw [if_neg c6] at H
       exact absurd H (by simp)
     ·rw [if_neg c5] at H
      exact absurd H (by simp)
    ·rw [if_neg c4] at H
     have c4b0 : decide (x13_1 < (l0.length : Int)) = false := decide_eq_false c4
     clear c4
     obtain rfl := Option.some.inj H
     go_wp2
     repeat (go_quiet (fail); try go_wp2)
     go_ret
     exact ⟨by first | rfl | (simp; done) | (simp [*]; done), by repeat (first | exact Drawn0.refl _ | apply Drawn0.step)⟩
 ·rw [if_neg c3] at H
  have c3b0 : ((l0.length : Int) == (l1.length : Int)) = false := beq_eq_false_iff_ne.mpr c3
  have c3b1 : ((l0.length : Int) != (l1.length : Int)) = true := bne_iff_ne.mpr c3
  have c3b2 : (l0.length == l1.length) = false := by first | simpa using c3 | (simp at c3 ⊢; omega)
  obtain rfl := Option.some.inj H
  go_enter Tryz.func32, Tryz.ntmps32
  go_wp2
  repeat (go_quiet (fail); try go_wp2)
  go_ret
  exact ⟨by first | rfl | (simp; done) | (simp [*]; done), by repeat (first | exact Drawn0.refl _ | apply Drawn0.step)⟩
def laws_mRises.l0 : Nat → List Int → Int → Option (Bool)
 | 0, _, _ => none
 | k + 1, x0, x3 => if x3 < (x0.length : Int) then (if 0 ≤ (wrap64 (x3 - 1)) then (if (wrap64 (x3 - 1)) < (x0.length : Int) then (if 0 ≤ x3 then (if (rd x0 (wrap64 (x3 - 1))) ≥ (rd x0 x3) then (some false) else (laws_mRises.l0 k x0 (wrap64 (x3 + 1)))) else (none)) else (none)) else (none)) else (some true)
def laws_mRises.f (k : Nat) (l0 : List Int) : Option (Bool) := laws_mRises.l0 k l0 1
theorem laws_mRises.calls (k : Nat) (A0 : Option Addr) (c0 : Nat) (l0 : List Int) (r : Bool) (w : World) (hr0 : Kd.C (Kd.int .i64) w A0 l0.length l0) (hc0 : l0.length ≤ c0) (h : laws_mRises.f k l0 = some r) :
  Calls Tryz.prog 33 #[.slice A0 l0.length c0] w fun e w' => e = .returned (.bool r) ∧ Drawn0 w w' := by
 have HR0 := Aside0.mk hr0
 have HC0 := Aside0.mk hc0
 clear hr0 hc0
 have H : (laws_mRises.l0 k l0 1) = some r := h
 clear h
 have H' := Aside0.mk H
 clear H
 go_enter Tryz.func33, Tryz.ntmps33
 go_wp2
 repeat (go_quiet (fail); try go_wp2)
 go_loopg [3] k (fun kq v3 w' => ∃ (x3_1 : Int), v3 = .int .i64 x3_1 ∧ Aside0 (laws_mRises.l0 kq l0 x3_1 = some r) ∧ Aside0 (kq ≤ k) ∧ Drawn0 w w')
 case atStart => exact ⟨(1), (by first | rfl | (simp; done) | (simp [*]; done)), H', ⟨Nat.le_refl _⟩, by repeat (first | exact Drawn0.refl _ | apply Drawn0.step)⟩
 case round =>
  clear H'
  obtain ⟨x3_1, rfl, HA, HK1, ⟨m1, rfl⟩⟩ := hrel
  cases gk with
  | zero => exact absurd HA.out (by simp [laws_mRises.l0])
  | succ k1 =>
   have H := HA.out
   clear HA
   simp only [laws_mRises.l0] at H
   by_cases c2 : x3_1 < (l0.length : Int)
   ·rw [if_pos c2] at H
    have c2b0 : decide (x3_1 < (l0.length : Int)) = true := decide_eq_true c2
    clear c2
    obtain ⟨ji3, hji3⟩ : ∃ j_ : Int, (wrap64 (x3_1 - 1)) = j_ := ⟨_, rfl⟩
    replace H : (if 0 ≤ (ji3) then (if (ji3) < (l0.length : Int) then (if 0 ≤ x3_1 then (if (rd l0 (ji3)) ≥ (rd l0 x3_1) then (some false) else (laws_mRises.l0 k1 l0 (wrap64 (x3_1 + 1)))) else (none)) else (none)) else (none)) = some r := by first | (rw [hji3] at H; exact H) | (simp only [hji3] at H ⊢; exact H)
    have hji3w : (IntKind.i64.wrap (x3_1 - 1)) = ji3 := (i64_w _).trans hji3
    by_cases c4 : 0 ≤ (ji3)
    ·rw [if_pos c4] at H
     have c4b0 : decide (0 ≤ (ji3)) = true := decide_eq_true c4
     clear c4
     by_cases c5 : (ji3) < (l0.length : Int)
     ·rw [if_pos c5] at H
      have c5b0 : decide ((ji3) < (l0.length : Int)) = true := decide_eq_true c5
      clear c5
      by_cases c6 : 0 ≤ x3_1
      ·rw [if_pos c6] at H
       have c6b0 : decide (0 ≤ x3_1) = true := decide_eq_true c6
       clear c6
       by_cases c7 : (rd l0 (ji3)) ≥ (rd l0 x3_1)
       ·rw [if_pos c7] at H
        have c7b0 : decide ((rd l0 x3_1) ≤ (rd l0 (ji3))) = true := decide_eq_true c7
        clear c7
        obtain rfl := Option.some.inj H
        have p101 : 0 ≤ ((ji3) : Int) := oD
        have q101 : (ji3) < (l0.length : Int) := oD
        obtain ⟨ad101, e101, hx101_0⟩ := Kd.at_int HR0.out (ji3) p101 q101
        cases e101
        replace p101 := eq_true p101
        replace q101 := eq_true q101
        have p102 : 0 ≤ (x3_1 : Int) := oD
        have q102 : x3_1 < (l0.length : Int) := oD
        obtain ⟨ad102, e102, hx102_0⟩ := Kd.at_int HR0.out x3_1 p102 q102
        obtain rfl : ad101 = ad102 := (by injection e102)
        replace p102 := eq_true p102
        replace q102 := eq_true q102
        go_wp2
        repeat (go_quiet (fail); try go_wp2)
        go_ret
        exact ⟨by first | rfl | (simp; done) | (simp only [← hji3] <;> (first | rfl | simp)) | (simp [*]; done), by repeat (first | exact Drawn0.refl _ | apply Drawn0.step)⟩
       ·rw [if_neg c7] at H
        have c7b0 : decide ((rd l0 x3_1) ≤ (rd l0 (ji3))) = false := decide_eq_false c7
        clear c7
        have H' := Aside0.mk H
        clear H
        have p101 : 0 ≤ ((ji3) : Int) := oD
        have q101 : (ji3) < (l0.length : Int) := oD
        obtain ⟨ad101, e101, hx101_0⟩ := Kd.at_int HR0.out (ji3) p101 q101
        cases e101
        replace p101 := eq_true p101
        replace q101 := eq_true q101
        have p102 : 0 ≤ (x3_1 : Int) := oD
        have q102 : x3_1 < (l0.length : Int) := oD
        obtain ⟨ad102, e102, hx102_0⟩ := Kd.at_int HR0.out x3_1 p102 q102
        obtain rfl : ad101 = ad102 := (by injection e102)
        replace p102 := eq_true p102
        replace q102 := eq_true q102
        go_wp2
        repeat (go_quiet (fail); try go_wp2)
        go_roundg k1
        case measure => have := HK1.out; omega
        case rel => exact ⟨(wrap64 (x3_1 + 1)), (by first | rfl | (simp; done) | (simp [*]; done)), H', ⟨by have := HK1.out; omega⟩, by repeat (first | exact Drawn0.refl _ | apply Drawn0.step)⟩
      ·rw [if_neg c6] at H
       exact absurd H (by simp)
     ·rw [if_neg c5] at H
      exact absurd H (by simp)
    ·rw [if_neg c4] at H
     exact absurd H (by simp)
   ·rw [if_neg c2] at H
    have c2b0 : decide (x3_1 < (l0.length : Int)) = false := decide_eq_false c2
    clear c2
    obtain rfl := Option.some.inj H
    go_wp2
    repeat (go_quiet (fail); try go_wp2)
    go_ret
    exact ⟨by first | rfl | (simp; done) | (simp [*]; done), by repeat (first | exact Drawn0.refl _ | apply Drawn0.step)⟩
mutual
def laws_FnSetsWin.j0 : Nat → List Int → List Int → Bool → Bool → Bool → Int → Int → Bool → Int → List Int → Option (Bool)
 | 0, _, _, _, _, _, _, _, _, _, _ => none
 | k + 1, x1, x6, x7, x8, x11, x15, x19, x173, x110000, x110001 => if x173 = true then (none) else (if x8 = true then ((laws_mOthers.f k x6 (x110001.length : Int)).bind fun t132 => ((impl_WeightOfSet.f k x110000 x110001 t132).bind fun bt135 => ((impl_IsWinning.f k x110000 x110001 t132).bind fun bt137 => ((impl_DualCommittee.f k x110000 x110001).bind fun bt139 => ((impl_IsWinning.f k bt139.1 bt139.2.1 x6).bind fun bt145 => (if (x7 != (decide (x15 ≥ x110000))) = true then (none) else (if bt135.2 = true then (if (wrap64 (x15 + bt135.1)) = x19 then (if bt137.2 = true then (if (x11 != (!bt137.1)) = true then (none) else (if bt139.2.2 = true then (if bt145.2 = true then (if (bt145.1 != x11) = true then (none) else ((laws_mSum.f k x110001).bind fun t147 => (if x19 = t147 then (laws_FnSetsWin.j1 k x1) else (none)))) else (none)) else (none))) else (none)) else (none)) else (none)))))))) else (laws_FnSetsWin.j1 k x1))
def laws_FnSetsWin.j1 : Nat → List Int → Option (Bool)
 | 0, _ => none
 | k + 1, x1 => (spec_DrawDictatorOf.f k x1).bind fun bt148 => ((impl_DictatorOf.f k bt148.1 bt148.2).bind fun bt153 => ((spec_DictatorOf.f k bt148.1 bt148.2).bind fun bt155 => ((impl_VetoMembers.f k bt148.1 bt148.2).bind fun bt157 => ((spec_VetoMembers.f k bt148.1 bt148.2).bind fun bt161 => ((impl_DummiesOf.f k bt148.1 bt148.2).bind fun bt165 => ((spec_DummiesOf.f k bt148.1 bt148.2).bind fun bt169 => (if (bt153.2 != bt155.2) = true then (none) else (if bt153.1 = bt155.1 then (if (bt157.2 != bt161.2) = true then (none) else ((laws_mSame.f k bt157.1 bt161.1).bind fun t173 => (if t173 = true then (if (bt165.2 != bt169.2) = true then (none) else ((laws_mSame.f k bt165.1 bt169.1).bind fun t174 => (if t174 = true then (if bt153.2 = true then (if bt157.2 = true then (laws_FnSetsWin.j2 k bt153.1 bt153.2 bt157.1 bt157.2 bt165.1 (bt165.2 != bt157.2) bt148.1 bt148.2) else (none)) else (laws_FnSetsWin.j2 k bt153.1 bt153.2 bt157.1 bt157.2 bt165.1 (bt165.2 != bt157.2) bt148.1 bt148.2)) else (none)))) else (none)))) else (none)))))))))
def laws_FnSetsWin.j2 : Nat → Int → Bool → List Int → Bool → List Int → Bool → Int → List Int → Option (Bool)
 | 0, _, _, _, _, _, _, _, _ => none
 | k + 1, x34, x35, x38, x39, x42, x324, x153000, x153001 => if x324 = true then (none) else (if x39 = true then ((laws_mRises.f k x38).bind fun t175 => (if t175 = true then ((laws_mRises.f k x42).bind fun t176 => (if t176 = true then (if x35 = true then ((laws_mSame.f k x38 (([x34] : List Int))).bind fun t180 => (if t180 = true then (if (x42.length : Int) = (wrap64 ((x153001.length : Int) - 1)) then (laws_FnSetsWin.j3 k x34 x35 x38 x42 (x153001.length : Int) ((x42.length : Int) == (x153001.length : Int)) x153000 x153001) else (none)) else (none))) else (laws_FnSetsWin.j3 k x34 x35 x38 x42 (x153001.length : Int) ((x42.length : Int) == (x153001.length : Int)) x153000 x153001)) else (none))) else (none))) else (some true))
def laws_FnSetsWin.j3 : Nat → Int → Bool → List Int → List Int → Int → Bool → Int → List Int → Option (Bool)
 | 0, _, _, _, _, _, _, _, _ => none
 | k + 1, x34, x35, x38, x42, x46, x359, x153000, x153001 => if x359 = true then (none) else (laws_FnSetsWin.l0 k x34 x35 x38 x42 x46 0 x153000 x153001)
def laws_FnSetsWin.l0 : Nat → Int → Bool → List Int → List Int → Int → Int → Int → List Int → Option (Bool)
 | 0, _, _, _, _, _, _, _, _ => none
 | k + 1, x34, x35, x38, x42, x46, x47, x153000, x153001 => if x47 < x46 then ((impl_IsBlocking.f k x153000 x153001 (([x47] : List Int))).bind fun bt184 => ((impl_IsWinning.f k x153000 x153001 (([x47] : List Int))).bind fun bt189 => (if bt184.2 = true then ((laws_mHas.f k x38 x47).bind fun t191 => (if (bt184.1 != t191) = true then (none) else (if bt189.2 = true then (if x35 = true then (if bt184.1 = true then (if ((x34 == x47) != bt189.1) = true then (none) else ((laws_mHas.f k x42 x47).bind fun t192 => (if t192 = true then (none) else (laws_FnSetsWin.j5 k x34 x35 x38 x42 x46 x47 false x153000 x153001)))) else (if ((x34 == x47) != false) = true then (none) else ((laws_mHas.f k x42 x47).bind fun t193 => (if t193 = true then (laws_FnSetsWin.j5 k x34 x35 x38 x42 x46 x47 bt189.1 x153000 x153001) else (laws_FnSetsWin.j5 k x34 x35 x38 x42 x46 x47 false x153000 x153001))))) else (if bt184.1 = true then (if (false != bt189.1) = true then (none) else ((laws_mHas.f k x42 x47).bind fun t194 => (if t194 = true then (none) else (laws_FnSetsWin.j5 k x34 x35 x38 x42 x46 x47 false x153000 x153001)))) else ((laws_mHas.f k x42 x47).bind fun t195 => (if t195 = true then (laws_FnSetsWin.j5 k x34 x35 x38 x42 x46 x47 bt189.1 x153000 x153001) else (laws_FnSetsWin.j5 k x34 x35 x38 x42 x46 x47 false x153000 x153001))))) else (none)))) else (none)))) else (some true)
def laws_FnSetsWin.j5 : Nat → Int → Bool → List Int → List Int → Int → Int → Bool → Int → List Int → Option (Bool)
 | 0, _, _, _, _, _, _, _, _, _ => none
 | k + 1, x34, x35, x38, x42, x46, x47, x415, x153000, x153001 => if x415 = true then (none) else (laws_FnSetsWin.l0 k x34 x35 x38 x42 x46 (wrap64 (x47 + 1)) x153000 x153001)
end
def laws_FnSetsWin.f (k : Nat) (l0 : List Int) (l1 : List Int) : Option (Bool) := (laws_big.f l0 l1).bind fun t101 => (if t101 = true then (some true) else ((spec_DrawIsWinning.f k l0).bind fun bt102 => ((impl_IsWinning.f k bt102.1 bt102.2.1 bt102.2.2).bind fun bt110 => ((spec_IsWinning.f k bt102.1 bt102.2.1 bt102.2.2).bind fun bt112 => ((impl_IsBlocking.f k bt102.1 bt102.2.1 bt102.2.2).bind fun bt114 => ((spec_IsBlocking.f k bt102.1 bt102.2.1 bt102.2.2).bind fun bt116 => ((impl_WeightOfSet.f k bt102.1 bt102.2.1 bt102.2.2).bind fun bt118 => ((spec_WeightOfSet.f k bt102.1 bt102.2.1 bt102.2.2).bind fun bt120 => ((impl_TotalWeight.f k bt102.1 bt102.2.1).bind fun bt122 => ((spec_TotalWeight.f k bt102.1 bt102.2.1).bind fun bt124 => (if (bt110.2 != bt112.2) = true then (none) else (if (bt110.1 != bt112.1) = true then (none) else (if (bt114.2 != bt116.2) = true then (none) else (if (bt114.1 != bt116.1) = true then (none) else (if (bt118.2 != bt120.2) = true then (none) else (if bt118.1 = bt120.1 then (if (bt122.2 != bt124.2) = true then (none) else (if bt122.1 = bt124.1 then (if (bt114.2 != bt110.2) = true then (none) else (if (bt118.2 != bt110.2) = true then (none) else (if bt110.2 = true then (if bt122.2 = true then ((impl_IsCommittee.f k bt102.1 bt102.2.1).bind fun t126 => (if (bt122.2 != t126) = true then (none) else ((impl_IsCommittee.f k bt102.1 bt102.2.1).bind fun t127 => ((spec_IsCommittee.f k bt102.1 bt102.2.1).bind fun t128 => (laws_FnSetsWin.j0 k l1 bt102.2.2 bt110.1 bt110.2 bt114.1 bt118.1 bt122.1 (t127 != t128) bt102.1 bt102.2.1))))) else (none)) else ((impl_IsCommittee.f k bt102.1 bt102.2.1).bind fun t129 => (if (bt122.2 != t129) = true then (none) else ((impl_IsCommittee.f k bt102.1 bt102.2.1).bind fun t130 => ((spec_IsCommittee.f k bt102.1 bt102.2.1).bind fun t131 => (laws_FnSetsWin.j0 k l1 bt102.2.2 bt110.1 bt110.2 bt114.1 bt118.1 bt122.1 (t130 != t131) bt102.1 bt102.2.1)))))))) else (none))) else (none)))))))))))))))))
def laws_FnSetsWin.T12 : Bool × List (List Nat × List Nat) := (true, [([], []), ([], []), ([0, 1], [0, 1]), ([2], [2]), ([3], [3]), ([3], [3]), ([4, 5, 3], [3, 4, 5]), ([3, 6], [3, 6]), ([7, 3], [7]), ([8], [8]), ([8], [8]), ([9, 10, 8], [8, 9, 10]), ([8, 11], [8, 11]), ([12, 8], [12]), ([13], [13]), ([13], [13]), ([14, 15, 13], [13, 14, 15]), ([13, 16], [13, 16]), ([17, 13], [17]), ([18], [18]), ([18], [18]), ([19, 20, 18], [18, 19, 20]), ([18, 21], [18, 21]), ([22, 18], [22]), ([23], [23]), ([23], [23]), ([24, 25, 23], [23, 24, 25]), ([23, 26], [23, 26]), ([27, 23], [27]), ([28], [28]), ([28], [28]), ([29, 30, 28], [28, 29, 30]), ([28, 31], [28, 31]), ([32, 28], [32]), ([33], [33]), ([33], [33]), ([34, 35, 33], [33, 34, 35]), ([33, 36], [33, 36]), ([37, 33], [37]), ([38], [38]), ([38], [38]), ([39, 40, 38], [38, 39, 40]), ([38, 41], [38, 41]), ([42, 38], [42]), ([43], [43]), ([43], [43]), ([44, 45, 43], [43, 44, 45]), ([43, 46], [43, 46]), ([47, 43], [47]), ([48], [48]), ([49, 48, 48], [48, 49]), ([50], [50]), ([51, 50], [50, 51]), ([50, 52, 48], [48, 50, 52]), ([48, 53], [48, 53]), ([54, 50], [54]), ([55], [55]), ([55], [55]), ([57, 55, 55], [55, 57]), ([56, 58, 55], [55, 56, 58]), ([55, 59], [55, 59]), ([60, 58], [60]), ([61], [61]), ([62, 61, 61], [61, 62]), ([61], [61]), ([64, 63, 61], [61, 64]), ([63, 65, 61], [61, 63, 65]), ([61, 66], [61, 66])])
def laws_FnSetsWin.B12 : List Nat := [0, 0, 3, 7, 15, 15, 63, 127, 255, 511, 511, 2047, 4095, 8191, 16383, 16383, 65535, 131071, 262143, 524287, 524287, 2097151, 4194303, 8388607, 16777215, 16777215, 67108863, 134217727, 268435455, 536870911, 536870911, 2147483647, 4294967295, 8589934591, 17179869183, 17179869183, 68719476735, 137438953471, 274877906943, 549755813887, 549755813887, 2199023255551, 4398046511103, 8796093022207, 17592186044415, 17592186044415, 70368744177663, 140737488355327, 281474976710655, 562949953421311, 1125899906842623, 2251799813685247, 4503599627370495, 9007199254740991, 18014398509481983, 36028797018963967, 72057594037927935, 72057594037927935, 216172782113783807, 576460752303423487, 1152921504606846975, 2305843009213693951, 4611686018427387903, 9223372036854775807, 4611686018427387903, 36893488147419103231, 73786976294838206463, 147573952589676412927]
theorem laws_FnSetsWin.tab12 : rtab .any (opsOf Tryz.f3 12) = laws_FnSetsWin.T12 := by kernel_rfl
theorem laws_FnSetsWin.bits12 : waitsOk laws_FnSetsWin.T12.2 laws_FnSetsWin.B12 = true := by kernel_rfl
end Go.Proofs.YtamfpkefnhcngaaGreat.Q
