/- Printed functions, their contracts and plain facts on them: QImplVotesIsLeast; QImplVotesLeast; QImplVotesGame; QImplWithin; QSlicesIndexFuncIntInt137; QSlicesContainsFuncIntInt104; QImplAreIn; QImplIsIncreasing; QImplIsSet; QImplAreSets; QImplIsGame; QImplJoinGames; QImplProductGames; QLawsFnExactProductGames. Conditions: as each theorem states. -/
import Derived.Test.YtmmmblfghhcndaaGProductGamesx0
import Derived.Test.YtmmmblfghhcndaaGProductGamesx1
namespace Go.Proofs.Ytmmmblfghhcndaa.Q
open Go.RowKit Go.Proofs.YtmmmblfghhcndaaX Go.Proofs.YtmmmblfghhcndaaW.PrintWords Go.Proofs.YtmmmblfghhcndaaW.PrintLast Go.Proofs.YtmmmblfghhcndaaW.PrintMore
attribute [local go_sem] max2_int min2_int max_two min_two max_three min_three max_four min_four   -- for this text's walks alone
set_option linter.unusedVariables false
set_option linter.unusedSimpArgs false
def impl_votes_isLeast.l0 : Nat → Int → Int → Int → Int → List Bool → Option (Bool)
 | 0, _, _, _, _, _ => none
 | k + 1, x1, x13, x14, x102000, x102001 => if x14 < x13 then ((impl_has.f x1 x14).bind fun t103 => (if t103 = true then (if 0 ≤ x14 then (if 0 ≤ (Go.bits .andNot .i64 x1 (shl .i64 1 x14)) then (if (Go.bits .andNot .i64 x1 (shl .i64 1 x14)) < (x102001.length : Int) then (if rdOf false x102001 (Go.bits .andNot .i64 x1 (shl .i64 1 x14)) = true then (some false) else (impl_votes_isLeast.l0 k x1 x13 (wrap64 (x14 + 1)) x102000 x102001)) else (none)) else (none)) else (none)) else (impl_votes_isLeast.l0 k x1 x13 (wrap64 (x14 + 1)) x102000 x102001))) else (some true)
def impl_votes_isLeast.f (k : Nat) (a0_0 : Int) (l0_1 : List Bool) (a1 : Int) : Option (Bool) := if 0 ≤ a1 then (if a1 < (l0_1.length : Int) then (if rdOf false l0_1 a1 = true then (impl_votes_isLeast.l0 k a1 a0_0 0 a0_0 l0_1) else (some false)) else (none)) else (none)
set_option maxHeartbeats 8000000 in
set_option maxRecDepth 100000 in
theorem impl_votes_isLeast.calls (k : Nat) (a0_0 : Int) (A0_1 : Option Addr) (c0_1 : Nat) (l0_1 : List Bool) (a1 : Int) (r : Bool) (w : World) (hr0_1 : Kd.C Kd.bool w A0_1 l0_1.length l0_1) (hc0_1 : l0_1.length ≤ c0_1) (h : impl_votes_isLeast.f k a0_0 l0_1 a1 = some r) :
  Calls Try.prog 125 #[.agg #[.int .i64 a0_0, .slice A0_1 l0_1.length c0_1], .int .i64 a1] w fun e w' => e = .returned (.bool r) ∧ Below w.heap.size w w' := by
 have hu69 := Try.underlying69
 have HR0_1 := Aside0.mk hr0_1
 have HC0_1 := Aside0.mk hc0_1
 clear hr0_1 hc0_1
 have HB := Aside0.mk (Below.refl w.heap.size w)
 have H : (if 0 ≤ a1 then (if a1 < (l0_1.length : Int) then (if rdOf false l0_1 a1 = true then (impl_votes_isLeast.l0 k a1 a0_0 0 a0_0 l0_1) else (some false)) else (none)) else (none)) = some r := h
 clear h
 by_cases c3 : 0 ≤ a1
 ·rw [if_pos c3] at H
  have c3b0 : decide (0 ≤ a1) = true := decide_eq_true c3
  clear c3
  by_cases c4 : a1 < (l0_1.length : Int)
  ·rw [if_pos c4] at H
   have c4b0 : decide (a1 < (l0_1.length : Int)) = true := decide_eq_true c4
   clear c4
   obtain ⟨bq5, hbq5⟩ : ∃ b_ : Bool, b_ = (rdOf false l0_1 a1) := ⟨_, rfl⟩
   replace H : (if bq5 = true then (impl_votes_isLeast.l0 k a1 a0_0 0 a0_0 l0_1) else (some false)) = some r := by rw [← hbq5] at H; exact H
   have Nbq5 := Aside0.mk hbq5
   clear hbq5
   by_cases c6 : bq5 = true
   ·subst c6
    have H1 : (impl_votes_isLeast.l0 k a1 a0_0 0 a0_0 l0_1) = some r := by rw [if_pos rfl] at H; exact H
    clear H
    have H := H1
    clear H1
    have H' := Aside0.mk H
    clear H
    go_enter Try.func125, Try.ntmps125
    go_wp2_with (first | ((with_reducible refine gate_dst (N := 2) rfl ?_); refine box_event ?hg (N := 2) ?hd (cs := #[.int .i64 a0_0, .slice A0_1 l0_1.length c0_1]) (t := 69) ?hr ?_; (case hd => rfl); (case hg => rfl); (case hr => first | (go_simp; done) | (go_simp; rfl)); intro gb101 hg w7 hbox hb; have n0_ := Aside0.mk (below_step (by repeat (first | (with_reducible first | exact HB.out | apply ba | apply bd | apply be) | exact HB.out)) hb); have n1_ := Aside0.mk (hbox); have n2_ := Aside0.mk ((by rw [hg]; exact (below_size (by repeat (first | (with_reducible first | exact HB.out | apply ba | apply bd | apply be) | exact HB.out))) : w.heap.size ≤ gb101)); have n3_ := Aside0.mk ((by rw [hg]; exact (below_size (by repeat (first | (with_reducible first | exact HB.out | apply ba | apply bd | apply be) | exact HB.out))) : w.heap.size ≤ gb101)); clear HB; have HB := n0_; have BK101 := n1_; have GW101 := n2_; have GE101 := n3_; clear n0_ n1_ n2_ n3_; clear hb hbox hg; have hcz8_0 : w7.cell? ⟨gb101, 0, none⟩ = some (.int .i64 a0_0) := (blk_cell BK101.out 0).trans rfl; have hcz8_1 : w7.cell? ⟨gb101, 1, none⟩ = some (.slice A0_1 l0_1.length c0_1) := (blk_cell BK101.out 1).trans rfl; have hfz8_0 := blk_frozen BK101.out 0; have hfz8_1 := blk_frozen BK101.out 1; have p102 : 0 ≤ (a1 : Int) := of_decide_eq_true (by first | (with_reducible assumption) | assumption); have q102 : a1 < (l0_1.length : Int) := of_decide_eq_true (by first | (with_reducible assumption) | assumption); obtain ⟨ad102, e102, hx102_0⟩ := Kd.at_bool HR0_1.out a1 p102 q102; (try rw [← Nbq5.out] at hx102_0); cases e102; replace hx102_0 := (HB.out.cell (World.block_lt_of_cell? w _ hx102_0)).trans hx102_0; replace p102 := eq_true p102; replace q102 := eq_true q102))
    repeat (go_quiet (first | ((with_reducible refine gate_dst (N := 2) rfl ?_); refine box_event ?hg (N := 2) ?hd (cs := #[.int .i64 a0_0, .slice A0_1 l0_1.length c0_1]) (t := 69) ?hr ?_; (case hd => rfl); (case hg => rfl); (case hr => first | (go_simp; done) | (go_simp; rfl)); intro gb101 hg w7 hbox hb; have n0_ := Aside0.mk (below_step (by repeat (first | (with_reducible first | exact HB.out | apply ba | apply bd | apply be) | exact HB.out)) hb); have n1_ := Aside0.mk (hbox); have n2_ := Aside0.mk ((by rw [hg]; exact (below_size (by repeat (first | (with_reducible first | exact HB.out | apply ba | apply bd | apply be) | exact HB.out))) : w.heap.size ≤ gb101)); have n3_ := Aside0.mk ((by rw [hg]; exact (below_size (by repeat (first | (with_reducible first | exact HB.out | apply ba | apply bd | apply be) | exact HB.out))) : w.heap.size ≤ gb101)); clear HB; have HB := n0_; have BK101 := n1_; have GW101 := n2_; have GE101 := n3_; clear n0_ n1_ n2_ n3_; clear hb hbox hg; have hcz8_0 : w7.cell? ⟨gb101, 0, none⟩ = some (.int .i64 a0_0) := (blk_cell BK101.out 0).trans rfl; have hcz8_1 : w7.cell? ⟨gb101, 1, none⟩ = some (.slice A0_1 l0_1.length c0_1) := (blk_cell BK101.out 1).trans rfl; have hfz8_0 := blk_frozen BK101.out 0; have hfz8_1 := blk_frozen BK101.out 1; have p102 : 0 ≤ (a1 : Int) := of_decide_eq_true (by first | (with_reducible assumption) | assumption); have q102 : a1 < (l0_1.length : Int) := of_decide_eq_true (by first | (with_reducible assumption) | assumption); obtain ⟨ad102, e102, hx102_0⟩ := Kd.at_bool HR0_1.out a1 p102 q102; (try rw [← Nbq5.out] at hx102_0); cases e102; replace hx102_0 := (HB.out.cell (World.block_lt_of_cell? w _ hx102_0)).trans hx102_0; replace p102 := eq_true p102; replace q102 := eq_true q102)); try go_wp2_with (first | ((with_reducible refine gate_dst (N := 2) rfl ?_); refine box_event ?hg (N := 2) ?hd (cs := #[.int .i64 a0_0, .slice A0_1 l0_1.length c0_1]) (t := 69) ?hr ?_; (case hd => rfl); (case hg => rfl); (case hr => first | (go_simp; done) | (go_simp; rfl)); intro gb101 hg w7 hbox hb; have n0_ := Aside0.mk (below_step (by repeat (first | (with_reducible first | exact HB.out | apply ba | apply bd | apply be) | exact HB.out)) hb); have n1_ := Aside0.mk (hbox); have n2_ := Aside0.mk ((by rw [hg]; exact (below_size (by repeat (first | (with_reducible first | exact HB.out | apply ba | apply bd | apply be) | exact HB.out))) : w.heap.size ≤ gb101)); have n3_ := Aside0.mk ((by rw [hg]; exact (below_size (by repeat (first | (with_reducible first | exact HB.out | apply ba | apply bd | apply be) | exact HB.out))) : w.heap.size ≤ gb101)); clear HB; have HB := n0_; have BK101 := n1_; have GW101 := n2_; have GE101 := n3_; clear n0_ n1_ n2_ n3_; clear hb hbox hg; have hcz8_0 : w7.cell? ⟨gb101, 0, none⟩ = some (.int .i64 a0_0) := (blk_cell BK101.out 0).trans rfl; have hcz8_1 : w7.cell? ⟨gb101, 1, none⟩ = some (.slice A0_1 l0_1.length c0_1) := (blk_cell BK101.out 1).trans rfl; have hfz8_0 := blk_frozen BK101.out 0; have hfz8_1 := blk_frozen BK101.out 1; have p102 : 0 ≤ (a1 : Int) := of_decide_eq_true (by first | (with_reducible assumption) | assumption); have q102 : a1 < (l0_1.length : Int) := of_decide_eq_true (by first | (with_reducible assumption) | assumption); obtain ⟨ad102, e102, hx102_0⟩ := Kd.at_bool HR0_1.out a1 p102 q102; (try rw [← Nbq5.out] at hx102_0); cases e102; replace hx102_0 := (HB.out.cell (World.block_lt_of_cell? w _ hx102_0)).trans hx102_0; replace p102 := eq_true p102; replace q102 := eq_true q102)))
    go_loopg [14] k (fun kq v14 w' => ∃ (x14_1 : Int), v14 = .int .i64 x14_1 ∧ Aside0 (impl_votes_isLeast.l0 kq a1 a0_0 x14_1 a0_0 l0_1 = some r) ∧ Aside0 (kq ≤ k) ∧ Aside0 (w'.heap[gb101]? = some (.cells #[.int .i64 a0_0, (.slice (some ad102) l0_1.length c0_1)] 69 (0, 0))) ∧ Aside0 (Below w.heap.size w w'))
    case atStart => exact ⟨(0), (by first | rfl | (simp; done) | (simp [*]; done)), H', ⟨Nat.le_refl _⟩, ⟨by (first | exact bp BK101.out | exact BK101.out)⟩, ⟨by repeat (first | (with_reducible first | exact HB.out | apply ba | apply bd | apply be | refine bs ?_ GE101.out) | exact HB.out)⟩⟩
    case round =>
     clear H'
     try clear c1
     try clear p1
     try clear q1
     try clear hx1
     try clear p2
     try clear c3
     try clear c3b0
     try clear c4
     try clear c4b0
     try clear q5
     try clear c6
     try clear hcz8_0
     try clear hcz8_1
     try clear hfz8_0
     try clear hfz8_1
     try clear hx102_0
     try clear p102
     try clear q102
     obtain ⟨x14_1, rfl, HA, HK1, BK101, HB⟩ := hrel
     cases gk with
     | zero => exact absurd HA.out (by simp [impl_votes_isLeast.l0])
     | succ k1 =>
      have H := HA.out
      clear HA
      simp only [impl_votes_isLeast.l0] at H
      by_cases c9 : x14_1 < a0_0
      ·rw [if_pos c9] at H
       have c9b0 : decide (x14_1 < a0_0) = true := decide_eq_true c9
       clear c9
       replace H := oB H
       obtain ⟨t103, A100, H⟩ := H
       replace H : (if t103 = true then (if 0 ≤ x14_1 then (if 0 ≤ (Go.bits .andNot .i64 a1 (shl .i64 1 x14_1)) then (if (Go.bits .andNot .i64 a1 (shl .i64 1 x14_1)) < (l0_1.length : Int) then (if rdOf false l0_1 (Go.bits .andNot .i64 a1 (shl .i64 1 x14_1)) = true then (some false) else (impl_votes_isLeast.l0 k1 a1 a0_0 (wrap64 (x14_1 + 1)) a0_0 l0_1)) else (none)) else (none)) else (none)) else (impl_votes_isLeast.l0 k1 a1 a0_0 (wrap64 (x14_1 + 1)) a0_0 l0_1)) = some r := H
       have A10 := Aside0.mk A100
       clear A100
       by_cases c11 : t103 = true
       ·subst c11
        have H1 : (if 0 ≤ x14_1 then (if 0 ≤ (Go.bits .andNot .i64 a1 (shl .i64 1 x14_1)) then (if (Go.bits .andNot .i64 a1 (shl .i64 1 x14_1)) < (l0_1.length : Int) then (if rdOf false l0_1 (Go.bits .andNot .i64 a1 (shl .i64 1 x14_1)) = true then (some false) else (impl_votes_isLeast.l0 k1 a1 a0_0 (wrap64 (x14_1 + 1)) a0_0 l0_1)) else (none)) else (none)) else (none)) = some r := by rw [if_pos rfl] at H; exact H
        clear H
        have H := H1
        clear H1
        by_cases c12 : 0 ≤ x14_1
        ·rw [if_pos c12] at H
         have c12b0 := eq_true c12
         have c12b1 : decide (0 ≤ x14_1) = true := decide_eq_true c12
         clear c12
         obtain ⟨ji13, hji13⟩ : ∃ j_ : Int, (shl .i64 1 x14_1) = j_ := ⟨_, rfl⟩
         replace H : (if 0 ≤ (Go.bits .andNot .i64 a1 (ji13)) then (if (Go.bits .andNot .i64 a1 (ji13)) < (l0_1.length : Int) then (if rdOf false l0_1 (Go.bits .andNot .i64 a1 (ji13)) = true then (some false) else (impl_votes_isLeast.l0 k1 a1 a0_0 (wrap64 (x14_1 + 1)) a0_0 l0_1)) else (none)) else (none)) = some r := by first | (rw [hji13] at H; exact H) | (simp only [hji13] at H ⊢; exact H)
         (try rw [hji13] at A10)
         have hji13_ : (IntKind.i64.wrap (1 * 2 ^ min x14_1.toNat 64)) = ji13 := hji13
         have hji13z : x14_1 ≤ 64 → (IntKind.i64.wrap (1 * 2 ^ x14_1.toNat)) = ji13 := shl_small hji13
         have hji13u : (IntKind.i64.wrap (2 ^ min x14_1.toNat 64)) = ji13 := by have h_ := hji13_; rw [Int.one_mul] at h_; exact h_
         have hji13v : x14_1 ≤ 64 → (IntKind.i64.wrap (2 ^ x14_1.toNat)) = ji13 := fun hle_ => by have h_ := hji13z hle_; rw [Int.one_mul] at h_; exact h_
         have hji13y : (wrap64 (1 * 2 ^ min x14_1.toNat 64)) = ji13 := (i64_w _).symm.trans hji13_
         have hji13x : x14_1 ≤ 64 → (wrap64 (1 * 2 ^ x14_1.toNat)) = ji13 := fun h_ => (i64_w _).symm.trans (hji13z h_)
         by_cases c14 : 0 ≤ (Go.bits .andNot .i64 a1 (ji13))
         ·rw [if_pos c14] at H
          have c14b0 : decide (0 ≤ (Go.bits .andNot .i64 a1 (ji13))) = true := decide_eq_true c14
          clear c14
          by_cases c15 : (Go.bits .andNot .i64 a1 (ji13)) < (l0_1.length : Int)
          ·rw [if_pos c15] at H
           have c15b0 : decide ((Go.bits .andNot .i64 a1 (ji13)) < (l0_1.length : Int)) = true := decide_eq_true c15
           clear c15
           obtain ⟨bq16, hbq16⟩ : ∃ b_ : Bool, b_ = (rdOf false l0_1 (Go.bits .andNot .i64 a1 (ji13))) := ⟨_, rfl⟩
           replace H : (if bq16 = true then (some false) else (impl_votes_isLeast.l0 k1 a1 a0_0 (wrap64 (x14_1 + 1)) a0_0 l0_1)) = some r := by rw [← hbq16] at H; exact H
           have Nbq16 := Aside0.mk hbq16
           clear hbq16
           by_cases c17 : bq16 = true
           ·subst c17
            have H1 : (some false) = some r := by rw [if_pos rfl] at H; exact H
            clear H
            have H := H1
            clear H1
            obtain rfl := Option.some.inj H
            go_wp2_with (first | (go_at_call 133; (with_reducible refine (impl_has.calls a1 x14_1 true _ A10.out).mono ?_); rintro e w' ⟨rfl, ⟨nd, rfl⟩⟩; (try first | exact ⟨rfl, _, World.drewN_drewN _ _ _⟩ | exact ⟨rfl, _, Eq.trans (World.drewN_drewN _ _ _) (congrArg (World.drewN _) (Nat.add_assoc _ _ _))⟩); have hcz18_0 : wr.cell? ⟨gb101, 0, none⟩ = some (.int .i64 a0_0) := (blk_cell BK101.out 0).trans rfl; have hcz18_1 : wr.cell? ⟨gb101, 1, none⟩ = some (.slice (some ad102) l0_1.length c0_1) := (blk_cell BK101.out 1).trans rfl; have hfz18_0 := blk_frozen BK101.out 0; have hfz18_1 := blk_frozen BK101.out 1; have p104 : 0 ≤ ((Go.bits .andNot .i64 a1 (ji13)) : Int) := of_decide_eq_true (by first | (with_reducible assumption) | assumption); have q104 : (Go.bits .andNot .i64 a1 (ji13)) < (l0_1.length : Int) := of_decide_eq_true (by first | (with_reducible assumption) | assumption); obtain ⟨ad104, e104, hx104_0⟩ := Kd.at_bool HR0_1.out (Go.bits .andNot .i64 a1 (ji13)) p104 q104; (try rw [← Nbq5.out] at hx104_0); (try rw [← Nbq16.out] at hx104_0); obtain rfl : ad102 = ad104 := (by injection e104); replace hx104_0 := (HB.out.cell (World.block_lt_of_cell? w _ hx104_0)).trans hx104_0; replace p104 := eq_true p104; replace q104 := eq_true q104))
            repeat (go_quiet (first | (go_at_call 133; (with_reducible refine (impl_has.calls a1 x14_1 true _ A10.out).mono ?_); rintro e w' ⟨rfl, ⟨nd, rfl⟩⟩; (try first | exact ⟨rfl, _, World.drewN_drewN _ _ _⟩ | exact ⟨rfl, _, Eq.trans (World.drewN_drewN _ _ _) (congrArg (World.drewN _) (Nat.add_assoc _ _ _))⟩); have hcz18_0 : wr.cell? ⟨gb101, 0, none⟩ = some (.int .i64 a0_0) := (blk_cell BK101.out 0).trans rfl; have hcz18_1 : wr.cell? ⟨gb101, 1, none⟩ = some (.slice (some ad102) l0_1.length c0_1) := (blk_cell BK101.out 1).trans rfl; have hfz18_0 := blk_frozen BK101.out 0; have hfz18_1 := blk_frozen BK101.out 1; have p104 : 0 ≤ ((Go.bits .andNot .i64 a1 (ji13)) : Int) := of_decide_eq_true (by first | (with_reducible assumption) | assumption); have q104 : (Go.bits .andNot .i64 a1 (ji13)) < (l0_1.length : Int) := of_decide_eq_true (by first | (with_reducible assumption) | assumption); obtain ⟨ad104, e104, hx104_0⟩ := Kd.at_bool HR0_1.out (Go.bits .andNot .i64 a1 (ji13)) p104 q104; (try rw [← Nbq5.out] at hx104_0); (try rw [← Nbq16.out] at hx104_0); obtain rfl : ad102 = ad104 := (by injection e104); replace hx104_0 := (HB.out.cell (World.block_lt_of_cell? w _ hx104_0)).trans hx104_0; replace p104 := eq_true p104; replace q104 := eq_true q104)); try go_wp2_with (first | (go_at_call 133; (with_reducible refine (impl_has.calls a1 x14_1 true _ A10.out).mono ?_); rintro e w' ⟨rfl, ⟨nd, rfl⟩⟩; (try first | exact ⟨rfl, _, World.drewN_drewN _ _ _⟩ | exact ⟨rfl, _, Eq.trans (World.drewN_drewN _ _ _) (congrArg (World.drewN _) (Nat.add_assoc _ _ _))⟩); have hcz18_0 : wr.cell? ⟨gb101, 0, none⟩ = some (.int .i64 a0_0) := (blk_cell BK101.out 0).trans rfl; have hcz18_1 : wr.cell? ⟨gb101, 1, none⟩ = some (.slice (some ad102) l0_1.length c0_1) := (blk_cell BK101.out 1).trans rfl; have hfz18_0 := blk_frozen BK101.out 0; have hfz18_1 := blk_frozen BK101.out 1; have p104 : 0 ≤ ((Go.bits .andNot .i64 a1 (ji13)) : Int) := of_decide_eq_true (by first | (with_reducible assumption) | assumption); have q104 : (Go.bits .andNot .i64 a1 (ji13)) < (l0_1.length : Int) := of_decide_eq_true (by first | (with_reducible assumption) | assumption); obtain ⟨ad104, e104, hx104_0⟩ := Kd.at_bool HR0_1.out (Go.bits .andNot .i64 a1 (ji13)) p104 q104; (try rw [← Nbq5.out] at hx104_0); (try rw [← Nbq16.out] at hx104_0); obtain rfl : ad102 = ad104 := (by injection e104); replace hx104_0 := (HB.out.cell (World.block_lt_of_cell? w _ hx104_0)).trans hx104_0; replace p104 := eq_true p104; replace q104 := eq_true q104)))
            go_ret
            exact ⟨by first | rfl | (simp <;> rfl) | (simp only [← hji13]; first | rfl | (simp <;> rfl)) | (simp [*] <;> rfl), by repeat (first | (with_reducible first | exact HB.out | apply ba | apply bd | apply be | refine bs ?_ GE101.out) | exact HB.out)⟩
           ·replace c17 := Bool.eq_false_iff.mpr c17
            subst c17
            have H1 : (impl_votes_isLeast.l0 k1 a1 a0_0 (wrap64 (x14_1 + 1)) a0_0 l0_1) = some r := by rw [if_neg (show ¬ (false = true) by decide)] at H; exact H
            clear H
            have H := H1
            clear H1
            have H' := Aside0.mk H
            clear H
            go_wp2_with (first | (go_at_call 133; (with_reducible refine (impl_has.calls a1 x14_1 true _ A10.out).mono ?_); rintro e w' ⟨rfl, ⟨nd, rfl⟩⟩; (try first | exact ⟨rfl, _, World.drewN_drewN _ _ _⟩ | exact ⟨rfl, _, Eq.trans (World.drewN_drewN _ _ _) (congrArg (World.drewN _) (Nat.add_assoc _ _ _))⟩); have hcz19_0 : wr.cell? ⟨gb101, 0, none⟩ = some (.int .i64 a0_0) := (blk_cell BK101.out 0).trans rfl; have hcz19_1 : wr.cell? ⟨gb101, 1, none⟩ = some (.slice (some ad102) l0_1.length c0_1) := (blk_cell BK101.out 1).trans rfl; have hfz19_0 := blk_frozen BK101.out 0; have hfz19_1 := blk_frozen BK101.out 1; have p104 : 0 ≤ ((Go.bits .andNot .i64 a1 (ji13)) : Int) := of_decide_eq_true (by first | (with_reducible assumption) | assumption); have q104 : (Go.bits .andNot .i64 a1 (ji13)) < (l0_1.length : Int) := of_decide_eq_true (by first | (with_reducible assumption) | assumption); obtain ⟨ad104, e104, hx104_0⟩ := Kd.at_bool HR0_1.out (Go.bits .andNot .i64 a1 (ji13)) p104 q104; (try rw [← Nbq5.out] at hx104_0); (try rw [← Nbq16.out] at hx104_0); obtain rfl : ad102 = ad104 := (by injection e104); replace hx104_0 := (HB.out.cell (World.block_lt_of_cell? w _ hx104_0)).trans hx104_0; replace p104 := eq_true p104; replace q104 := eq_true q104))
            repeat (go_quiet (first | (go_at_call 133; (with_reducible refine (impl_has.calls a1 x14_1 true _ A10.out).mono ?_); rintro e w' ⟨rfl, ⟨nd, rfl⟩⟩; (try first | exact ⟨rfl, _, World.drewN_drewN _ _ _⟩ | exact ⟨rfl, _, Eq.trans (World.drewN_drewN _ _ _) (congrArg (World.drewN _) (Nat.add_assoc _ _ _))⟩); have hcz19_0 : wr.cell? ⟨gb101, 0, none⟩ = some (.int .i64 a0_0) := (blk_cell BK101.out 0).trans rfl; have hcz19_1 : wr.cell? ⟨gb101, 1, none⟩ = some (.slice (some ad102) l0_1.length c0_1) := (blk_cell BK101.out 1).trans rfl; have hfz19_0 := blk_frozen BK101.out 0; have hfz19_1 := blk_frozen BK101.out 1; have p104 : 0 ≤ ((Go.bits .andNot .i64 a1 (ji13)) : Int) := of_decide_eq_true (by first | (with_reducible assumption) | assumption); have q104 : (Go.bits .andNot .i64 a1 (ji13)) < (l0_1.length : Int) := of_decide_eq_true (by first | (with_reducible assumption) | assumption); obtain ⟨ad104, e104, hx104_0⟩ := Kd.at_bool HR0_1.out (Go.bits .andNot .i64 a1 (ji13)) p104 q104; (try rw [← Nbq5.out] at hx104_0); (try rw [← Nbq16.out] at hx104_0); obtain rfl : ad102 = ad104 := (by injection e104); replace hx104_0 := (HB.out.cell (World.block_lt_of_cell? w _ hx104_0)).trans hx104_0; replace p104 := eq_true p104; replace q104 := eq_true q104)); try go_wp2_with (first | (go_at_call 133; (with_reducible refine (impl_has.calls a1 x14_1 true _ A10.out).mono ?_); rintro e w' ⟨rfl, ⟨nd, rfl⟩⟩; (try first | exact ⟨rfl, _, World.drewN_drewN _ _ _⟩ | exact ⟨rfl, _, Eq.trans (World.drewN_drewN _ _ _) (congrArg (World.drewN _) (Nat.add_assoc _ _ _))⟩); have hcz19_0 : wr.cell? ⟨gb101, 0, none⟩ = some (.int .i64 a0_0) := (blk_cell BK101.out 0).trans rfl; have hcz19_1 : wr.cell? ⟨gb101, 1, none⟩ = some (.slice (some ad102) l0_1.length c0_1) := (blk_cell BK101.out 1).trans rfl; have hfz19_0 := blk_frozen BK101.out 0; have hfz19_1 := blk_frozen BK101.out 1; have p104 : 0 ≤ ((Go.bits .andNot .i64 a1 (ji13)) : Int) := of_decide_eq_true (by first | (with_reducible assumption) | assumption); have q104 : (Go.bits .andNot .i64 a1 (ji13)) < (l0_1.length : Int) := of_decide_eq_true (by first | (with_reducible assumption) | assumption); obtain ⟨ad104, e104, hx104_0⟩ := Kd.at_bool HR0_1.out (Go.bits .andNot .i64 a1 (ji13)) p104 q104; (try rw [← Nbq5.out] at hx104_0); (try rw [← Nbq16.out] at hx104_0); obtain rfl : ad102 = ad104 := (by injection e104); replace hx104_0 := (HB.out.cell (World.block_lt_of_cell? w _ hx104_0)).trans hx104_0; replace p104 := eq_true p104; replace q104 := eq_true q104)))
            go_roundg k1
            case measure => have := HK1.out; omega
            case rel => exact ⟨(wrap64 (x14_1 + 1)), (by first | rfl | (simp; done) | (simp [*]; done)), H', ⟨by have := HK1.out; omega⟩, ⟨by (first | exact bp BK101.out | exact BK101.out)⟩, ⟨by repeat (first | (with_reducible first | exact HB.out | apply ba | apply bd | apply be | refine bs ?_ GE101.out) | exact HB.out)⟩⟩
          ·rw [if_neg c15] at H
           exact absurd H (by simp)
         ·rw [if_neg c14] at H
          exact absurd H (by simp)
        ·rw [if_neg c12] at H
         exact absurd H (by simp)
       ·replace c11 := Bool.eq_false_iff.mpr c11
        subst c11
        have H1 : (impl_votes_isLeast.l0 k1 a1 a0_0 (wrap64 (x14_1 + 1)) a0_0 l0_1) = some r := by rw [if_neg (show ¬ (false = true) by decide)] at H; exact H
        clear H
        have H := H1
        clear H1
        have H' := Aside0.mk H
        clear H
        go_wp2_with (first | (go_at_call 133; (with_reducible refine (impl_has.calls a1 x14_1 false _ A10.out).mono ?_); rintro e w' ⟨rfl, ⟨nd, rfl⟩⟩; (try first | exact ⟨rfl, _, World.drewN_drewN _ _ _⟩ | exact ⟨rfl, _, Eq.trans (World.drewN_drewN _ _ _) (congrArg (World.drewN _) (Nat.add_assoc _ _ _))⟩)))
        repeat (go_quiet (first | (go_at_call 133; (with_reducible refine (impl_has.calls a1 x14_1 false _ A10.out).mono ?_); rintro e w' ⟨rfl, ⟨nd, rfl⟩⟩; (try first | exact ⟨rfl, _, World.drewN_drewN _ _ _⟩ | exact ⟨rfl, _, Eq.trans (World.drewN_drewN _ _ _) (congrArg (World.drewN _) (Nat.add_assoc _ _ _))⟩))); try go_wp2_with (first | (go_at_call 133; (with_reducible refine (impl_has.calls a1 x14_1 false _ A10.out).mono ?_); rintro e w' ⟨rfl, ⟨nd, rfl⟩⟩; (try first | exact ⟨rfl, _, World.drewN_drewN _ _ _⟩ | exact ⟨rfl, _, Eq.trans (World.drewN_drewN _ _ _) (congrArg (World.drewN _) (Nat.add_assoc _ _ _))⟩))))
        go_roundg k1
        case measure => have := HK1.out; omega
        case rel => exact ⟨(wrap64 (x14_1 + 1)), (by first | rfl | (simp; done) | (simp [*]; done)), H', ⟨by have := HK1.out; omega⟩, ⟨by (first | exact bp BK101.out | exact BK101.out)⟩, ⟨by repeat (first | (with_reducible first | exact HB.out | apply ba | apply bd | apply be | refine bs ?_ GE101.out) | exact HB.out)⟩⟩
      ·rw [if_neg c9] at H
       have c9b0 : decide (x14_1 < a0_0) = false := decide_eq_false c9
       clear c9
       obtain rfl := Option.some.inj H
       go_wp2
       repeat (go_quiet (fail); try go_wp2)
       go_ret
       exact ⟨by first | rfl | (simp <;> rfl) | (simp [*] <;> rfl), by repeat (first | (with_reducible first | exact HB.out | apply ba | apply bd | apply be | refine bs ?_ GE101.out) | exact HB.out)⟩
   ·replace c6 := Bool.eq_false_iff.mpr c6
    subst c6
    have H1 : (some false) = some r := by rw [if_neg (show ¬ (false = true) by decide)] at H; exact H
    clear H
    have H := H1
    clear H1
    obtain rfl := Option.some.inj H
    go_enter Try.func125, Try.ntmps125
    go_wp2_with (first | ((with_reducible refine gate_dst (N := 2) rfl ?_); refine box_event ?hg (N := 2) ?hd (cs := #[.int .i64 a0_0, .slice A0_1 l0_1.length c0_1]) (t := 69) ?hr ?_; (case hd => rfl); (case hg => rfl); (case hr => first | (go_simp; done) | (go_simp; rfl)); intro gb101 hg w20 hbox hb; have n0_ := Aside0.mk (below_step (by repeat (first | (with_reducible first | exact HB.out | apply ba | apply bd | apply be) | exact HB.out)) hb); have n1_ := Aside0.mk (hbox); have n2_ := Aside0.mk ((by rw [hg]; exact (below_size (by repeat (first | (with_reducible first | exact HB.out | apply ba | apply bd | apply be) | exact HB.out))) : w.heap.size ≤ gb101)); have n3_ := Aside0.mk ((by rw [hg]; exact (below_size (by repeat (first | (with_reducible first | exact HB.out | apply ba | apply bd | apply be) | exact HB.out))) : w.heap.size ≤ gb101)); clear HB; have HB := n0_; have BK101 := n1_; have GW101 := n2_; have GE101 := n3_; clear n0_ n1_ n2_ n3_; clear hb hbox hg; have hcz21_0 : w20.cell? ⟨gb101, 0, none⟩ = some (.int .i64 a0_0) := (blk_cell BK101.out 0).trans rfl; have hcz21_1 : w20.cell? ⟨gb101, 1, none⟩ = some (.slice A0_1 l0_1.length c0_1) := (blk_cell BK101.out 1).trans rfl; have hfz21_0 := blk_frozen BK101.out 0; have hfz21_1 := blk_frozen BK101.out 1; have p102 : 0 ≤ (a1 : Int) := of_decide_eq_true (by first | (with_reducible assumption) | assumption); have q102 : a1 < (l0_1.length : Int) := of_decide_eq_true (by first | (with_reducible assumption) | assumption); obtain ⟨ad102, e102, hx102_0⟩ := Kd.at_bool HR0_1.out a1 p102 q102; (try rw [← Nbq5.out] at hx102_0); cases e102; replace hx102_0 := (HB.out.cell (World.block_lt_of_cell? w _ hx102_0)).trans hx102_0; replace p102 := eq_true p102; replace q102 := eq_true q102))
    repeat (go_quiet (first | ((with_reducible refine gate_dst (N := 2) rfl ?_); refine box_event ?hg (N := 2) ?hd (cs := #[.int .i64 a0_0, .slice A0_1 l0_1.length c0_1]) (t := 69) ?hr ?_; (case hd => rfl); (case hg => rfl); (case hr => first | (go_simp; done) | (go_simp; rfl)); intro gb101 hg w20 hbox hb; have n0_ := Aside0.mk (below_step (by repeat (first | (with_reducible first | exact HB.out | apply ba | apply bd | apply be) | exact HB.out)) hb); have n1_ := Aside0.mk (hbox); have n2_ := Aside0.mk ((by rw [hg]; exact (below_size (by repeat (first | (with_reducible first | exact HB.out | apply ba | apply bd | apply be) | exact HB.out))) : w.heap.size ≤ gb101)); have n3_ := Aside0.mk ((by rw [hg]; exact (below_size (by repeat (first | (with_reducible first | exact HB.out | apply ba | apply bd | apply be) | exact HB.out))) : w.heap.size ≤ gb101)); clear HB; have HB := n0_; have BK101 := n1_; have GW101 := n2_; have GE101 := n3_; clear n0_ n1_ n2_ n3_; clear hb hbox hg; have hcz21_0 : w20.cell? ⟨gb101, 0, none⟩ = some (.int .i64 a0_0) := (blk_cell BK101.out 0).trans rfl; have hcz21_1 : w20.cell? ⟨gb101, 1, none⟩ = some (.slice A0_1 l0_1.length c0_1) := (blk_cell BK101.out 1).trans rfl; have hfz21_0 := blk_frozen BK101.out 0; have hfz21_1 := blk_frozen BK101.out 1; have p102 : 0 ≤ (a1 : Int) := of_decide_eq_true (by first | (with_reducible assumption) | assumption); have q102 : a1 < (l0_1.length : Int) := of_decide_eq_true (by first | (with_reducible assumption) | assumption); obtain ⟨ad102, e102, hx102_0⟩ := Kd.at_bool HR0_1.out a1 p102 q102; (try rw [← Nbq5.out] at hx102_0); cases e102; replace hx102_0 := (HB.out.cell (World.block_lt_of_cell? w _ hx102_0)).trans hx102_0; replace p102 := eq_true p102; replace q102 := eq_true q102)); try go_wp2_with (first | ((with_reducible refine gate_dst (N := 2) rfl ?_); refine box_event ?hg (N := 2) ?hd (cs := #[.int .i64 a0_0, .slice A0_1 l0_1.length c0_1]) (t := 69) ?hr ?_; (case hd => rfl); (case hg => rfl); (case hr => first | (go_simp; done) | (go_simp; rfl)); intro gb101 hg w20 hbox hb; have n0_ := Aside0.mk (below_step (by repeat (first | (with_reducible first | exact HB.out | apply ba | apply bd | apply be) | exact HB.out)) hb); have n1_ := Aside0.mk (hbox); have n2_ := Aside0.mk ((by rw [hg]; exact (below_size (by repeat (first | (with_reducible first | exact HB.out | apply ba | apply bd | apply be) | exact HB.out))) : w.heap.size ≤ gb101)); have n3_ := Aside0.mk ((by rw [hg]; exact (below_size (by repeat (first | (with_reducible first | exact HB.out | apply ba | apply bd | apply be) | exact HB.out))) : w.heap.size ≤ gb101)); clear HB; have HB := n0_; have BK101 := n1_; have GW101 := n2_; have GE101 := n3_; clear n0_ n1_ n2_ n3_; clear hb hbox hg; have hcz21_0 : w20.cell? ⟨gb101, 0, none⟩ = some (.int .i64 a0_0) := (blk_cell BK101.out 0).trans rfl; have hcz21_1 : w20.cell? ⟨gb101, 1, none⟩ = some (.slice A0_1 l0_1.length c0_1) := (blk_cell BK101.out 1).trans rfl; have hfz21_0 := blk_frozen BK101.out 0; have hfz21_1 := blk_frozen BK101.out 1; have p102 : 0 ≤ (a1 : Int) := of_decide_eq_true (by first | (with_reducible assumption) | assumption); have q102 : a1 < (l0_1.length : Int) := of_decide_eq_true (by first | (with_reducible assumption) | assumption); obtain ⟨ad102, e102, hx102_0⟩ := Kd.at_bool HR0_1.out a1 p102 q102; (try rw [← Nbq5.out] at hx102_0); cases e102; replace hx102_0 := (HB.out.cell (World.block_lt_of_cell? w _ hx102_0)).trans hx102_0; replace p102 := eq_true p102; replace q102 := eq_true q102)))
    go_ret
    exact ⟨by first | rfl | (simp <;> rfl) | (simp [*] <;> rfl), by repeat (first | (with_reducible first | exact HB.out | apply ba | apply bd | apply be | refine bs ?_ GE101.out) | exact HB.out)⟩
  ·rw [if_neg c4] at H
   exact absurd H (by simp)
 ·rw [if_neg c3] at H
  exact absurd H (by simp)
def impl_votes_least.f (k : Nat) (a0_0 : Int) (l0_1 : List Bool) : Option (List (List Int)) := impl_votes_sets.g k l0_1 (fun x => impl_votes_isLeast.f k a0_0 l0_1 x)
set_option maxHeartbeats 8000000 in
set_option maxRecDepth 100000 in
theorem impl_votes_least.calls (k : Nat) (a0_0 : Int) (A0_1 : Option Addr) (c0_1 : Nat) (l0_1 : List Bool) (r : List (List Int)) (w : World) (hr0_1 : Kd.C Kd.bool w A0_1 l0_1.length l0_1) (hc0_1 : l0_1.length ≤ c0_1) (h : impl_votes_least.f k a0_0 l0_1 = some r) :
  Calls Try.prog 83 #[.agg #[.int .i64 a0_0, .slice A0_1 l0_1.length c0_1]] w fun e w' => ∃ v0_ : Value, e = .returned (v0_) ∧ Kd.S (Kd.slice 3 (Kd.int .i64)) 36 w' w.heap.size (fun _ => True) v0_ r ∧ Below w.heap.size w w' := by
 have eg : ∀ args w, (callFunc 125 args).run Try.prog w = .ok (.enter 125 args) w := enters_of Try.func125 (by kernel_rfl) rfl
 have hmf : ∀ (fn : Fn) (first cap : Array Value) (w : World), (Instr.makeFunc fn first cap).run Try.prog w = .ok (.func fn first cap) w := fun _ _ _ _ => rfl
 have huV := Try.underlying69
 have HR := Aside0.mk hr0_1
 have HC := Aside0.mk hc0_1
 have H := Aside0.mk h
 clear hr0_1 hc0_1 h
 go_enter Try.func83, Try.ntmps83
 go_wp2_with fail
 have hB1 : Below w.heap.size w (w.alloc (.cells #[.int .i64 a0_0, .slice A0_1 l0_1.length c0_1] 69)) := (Below.refl _ _).alloc (Nat.le_refl _) _
 refine (impl_votes_sets.hof k a0_0 A0_1 c0_1 l0_1 (fun x => impl_votes_isLeast.f k a0_0 l0_1 x) 125 #[.agg #[.int .i64 a0_0, .slice A0_1 l0_1.length c0_1]] #[] r _ (Kd.C_below HR.out hB1) eg ?_ H.out).mono ?_
 ·intro W x b hb _ _ hx
  exact impl_votes_isLeast.calls k a0_0 A0_1 c0_1 l0_1 x b W (Kd.C_below HR.out (hB1.trans (hb.mono hB1.size))) HC.out hx
 ·rintro e w' ⟨v1, rfl, hS, hb⟩
  have HS := Aside0.mk (Kd.S_lower hS hB1.size)
  have HBN := Aside0.mk (hB1.trans (hb.mono hB1.size))
  clear hS hb hB1
  go_wp2
  go_ret
  exact ⟨_, rfl, HS.out, HBN.out⟩
def impl_votes_game.f (k : Nat) (a0_0 : Int) (l0_1 : List Bool) : Option (Int × (List (List Int))) := (impl_votes_least.f k a0_0 l0_1).bind fun t103 => (some (a0_0, t103))
set_option maxHeartbeats 8000000 in
set_option maxRecDepth 100000 in
theorem impl_votes_game.calls (k : Nat) (a0_0 : Int) (A0_1 : Option Addr) (c0_1 : Nat) (l0_1 : List Bool) (r1 : Int) (r2 : List (List Int)) (w : World) (hr0_1 : Kd.C Kd.bool w A0_1 l0_1.length l0_1) (hc0_1 : l0_1.length ≤ c0_1) (h : impl_votes_game.f k a0_0 l0_1 = some (r1, r2)) :
  Calls Try.prog 69 #[.agg #[.int .i64 a0_0, .slice A0_1 l0_1.length c0_1]] w fun e w' => ∃ v1_ : Value, e = .returned (.agg #[.int .i64 r1, v1_]) ∧ Kd.S (Kd.slice 3 (Kd.int .i64)) 36 w' w.heap.size (fun _ => True) v1_ r2 ∧ Below w.heap.size w w' := by
 have hu69 := Try.underlying69
 have hu28 := Try.underlying28
 have HR0_1 := Aside0.mk hr0_1
 have HC0_1 := Aside0.mk hc0_1
 clear hr0_1 hc0_1
 have HB := Aside0.mk (Below.refl w.heap.size w)
 have H : ((impl_votes_least.f k a0_0 l0_1).bind fun t103 => (some (a0_0, t103))) = some (r1, r2) := h
 clear h
 replace H := oB H
 obtain ⟨t103, A20, H⟩ := H
 replace H : (some (a0_0, t103)) = some (r1, r2) := H
 have A2 := Aside0.mk A20
 clear A20
 simp only [Option.some.injEq, Prod.mk.injEq] at H
 obtain ⟨rfl, rfl⟩ := H
 go_enter Try.func69, Try.ntmps69
 try go_wp2_with (first | ((with_reducible refine gate_dst (N := 1) rfl ?_); refine box_event ?hg (N := 1) ?hd (cs := #[.int .i64 a0_0, .slice A0_1 l0_1.length c0_1]) (t := 69) ?hr ?_; (case hd => rfl); (case hg => rfl); (case hr => first | (go_simp; done) | (go_simp; rfl)); intro gb101 hg w3 hbox hb; have n0_ := Aside0.mk (below_step (by repeat (first | (with_reducible first | exact HB.out | apply ba | apply bd | apply be) | exact HB.out)) hb); have n1_ := Aside0.mk (hbox); have n2_ := Aside0.mk ((by rw [hg]; exact (below_size (by repeat (first | (with_reducible first | exact HB.out | apply ba | apply bd | apply be) | exact HB.out))) : w.heap.size ≤ gb101)); have n3_ := Aside0.mk ((by rw [hg]; exact (below_size (by repeat (first | (with_reducible first | exact HB.out | apply ba | apply bd | apply be) | exact HB.out))) : w.heap.size ≤ gb101)); clear HB; have HB := n0_; have BK101 := n1_; have GW101 := n2_; have GE101 := n3_; clear n0_ n1_ n2_ n3_; clear hb hbox hg) | ((with_reducible refine gate_dst (N := 2) rfl ?_); refine box_event ?hg (N := 2) ?hd (cs := #[.int .i64 0, .slice none 0 0]) (t := 28) ?hr ?_; (case hd => rfl); (case hg => rfl); (case hr => first | (go_simp; done) | (go_simp; rfl)); intro gb102 hg w4 hbox hb; have n0_ := Aside0.mk (blk_below (g := gb101) (o := .cells #[.int .i64 a0_0, .slice A0_1 l0_1.length c0_1] 69 (0, 0)) (by (first | exact bp BK101.out | exact BK101.out)) hb); have n1_ := Aside0.mk (below_step (by repeat (first | (with_reducible first | exact HB.out | apply ba | apply bd | apply be | refine bs ?_ GE101.out) | exact HB.out)) hb); have n2_ := Aside0.mk (hbox); have n3_ := Aside0.mk ((by rw [hg]; exact (below_size (by repeat (first | (with_reducible first | exact HB.out | apply ba | apply bd | apply be | refine bs ?_ GE101.out) | exact HB.out))) : w.heap.size ≤ gb102)); have n4_ := Aside0.mk ((by rw [hg]; exact (below_size (by repeat (first | (with_reducible first | exact HB.out | apply ba | apply bd | apply be | refine bs ?_ GE101.out) | exact HB.out))) : w.heap.size ≤ gb102)); have n5_ := Aside0.mk ((by rw [hg]; exact Nat.ne_of_lt (blk_lt (g := gb101) (o := .cells #[.int .i64 a0_0, .slice A0_1 l0_1.length c0_1] 69 (0, 0)) (by (first | exact bp BK101.out | exact BK101.out))) : gb101 ≠ gb102)); have n6_ := Aside0.mk ((by rw [hg]; exact Nat.ne_of_gt (blk_lt (g := gb101) (o := .cells #[.int .i64 a0_0, .slice A0_1 l0_1.length c0_1] 69 (0, 0)) (by (first | exact bp BK101.out | exact BK101.out))) : gb102 ≠ gb101)); clear BK101; clear HB; have BK101 := n0_; have HB := n1_; have BK102 := n2_; have GW102 := n3_; have GE102 := n4_; have NB101_102 := n5_; have NB102_101 := n6_; clear n0_ n1_ n2_ n3_ n4_ n5_ n6_; clear hb hbox hg))
 have n0_ := Aside0.mk (blk_drew BK101.out)
 have n1_ := Aside0.mk (blk_drew BK102.out)
 have n2_ := Aside0.mk (below_drew1 HB.out)
 clear BK101
 clear BK102
 clear HB
 have BK101 := n0_
 have BK102 := n1_
 have HB := n2_
 clear n0_ n1_ n2_
 refine start_ (n := 6) (S := fun w' => w'.cell? ⟨gb101, 0, none⟩ = some (.int .i64 a0_0) ∧ w'.cell? ⟨gb101, 1, none⟩ = some (.slice A0_1 l0_1.length c0_1)) (ds := []) #[false, false, false, false, false, false] (by kernel_rfl) rfl rfl ⟨(blk_cell BK101.out 0).trans rfl, (blk_cell BK101.out 1).trans rfl⟩ (fun hHeld => ?_)
 generalize w4.drew = w5 at BK101 BK102 HB hHeld ⊢
 refine pure_ (i := 0) (N := some 3) (v := ?_) (a' := ?_) #[true, false, false, false, false, false] rfl rfl (by kernel_rfl) (fun _ _ _ h => h) (Or.inl ⟨by rfl, ?_⟩) ?_ ?_
 rotate_left
 ·intro w'
  go_simp
  with_reducible rfl
 rotate_left
 ·simp only [Act.put, sA, sZ, sS, i64_w, i32_w]
  rfl
 refine take_ (i := 1) (N := some 4) (v := ?_) (a' := ?_) #[true, true, false, false, false, false] rfl rfl (by kernel_rfl) (fun _ _ _ h => h) (Or.inl ⟨by rfl, ?_⟩) hHeld ?_ ?_
 rotate_left
 ·rintro w' ⟨s0, s1⟩
  go_simp
  with_reducible rfl
 rotate_left
 ·simp only [Act.put, sA, sZ, sS, i64_w, i32_w]
  rfl
 refine take_ (i := 2) (N := some 5) (v := ?_) (a' := ?_) #[true, true, true, false, false, false] rfl rfl (by kernel_rfl) (fun _ _ _ h => h) (Or.inl ⟨by rfl, ?_⟩) hHeld ?_ ?_
 rotate_left
 ·rintro w' ⟨s0, s1⟩
  go_simp
  with_reducible rfl
 rotate_left
 ·simp only [Act.put, sA, sZ, sS, i64_w, i32_w]
  rfl
 refine one_ (i := 3) (N := some 6) #[true, true, true, true, false, false] rfl rfl (by kernel_rfl) (by decide) (fun K hK => ?_)
 refine goes_ Try.func83 (by kernel_rfl) rfl #[.agg #[.int .i64 a0_0, .slice A0_1 l0_1.length c0_1]] (by rfl) rfl rfl (by (try simp only [mA, mC, mN]); first | done | rfl | (simp only [List.length_drop, List.length_take]; rfl)) ?_
 with_reducible refine (impl_votes_least.calls k a0_0 _ _ l0_1 t103 _ ?side1 ?side2 A2.out).mono ?_
 (case side1 => repeat (first | exact (Kd.C_below HR0_1.out HB.out) | (with_reducible refine Kd.C_alloc ?_ _) | (with_reducible refine Kd.C_drewN ?_ _) | (with_reducible refine Kd.C_drew ?_)))
 (case side2 => exact HC0_1.out)
 rintro e w6 ⟨v104, rfl, ho0, hb⟩
 refine ⟨_, rfl, ?_⟩
 have n0_ := Aside0.mk (Kd.S_lower ho0 (below_size (by repeat (first | (with_reducible first | exact HB.out | apply ba | apply bd | apply be | refine bs ?_ GE101.out | refine bs ?_ GE102.out) | exact HB.out))))
 have n1_ := Aside0.mk (blk_below (g := gb101) (o := .cells #[.int .i64 a0_0, .slice A0_1 l0_1.length c0_1] 69 (0, 0)) (by (first | exact bp BK101.out | exact BK101.out)) hb)
 have n2_ := Aside0.mk (blk_below (g := gb102) (o := .cells #[.int .i64 0, .slice none 0 0] 28 (0, 0)) (by (first | exact bp BK102.out | exact BK102.out)) hb)
 have n3_ := Aside0.mk (below_step (by repeat (first | (with_reducible first | exact HB.out | apply ba | apply bd | apply be | refine bs ?_ GE101.out | refine bs ?_ GE102.out) | exact HB.out)) hb)
 clear BK101
 clear BK102
 clear HB
 have HO105 := n0_
 have BK101 := n1_
 have BK102 := n2_
 have HB := n3_
 clear n0_ n1_ n2_ n3_
 (try clear hb)
 (try clear hb2)
 (try clear hk)
 (try clear hi)
 (try clear ho0)
 obtain ⟨Ao7, co7, eo7⟩ := Kd.S_slice HO105.out
 (first | subst eo7 | (injection eo7 with f1_ f2_ f3_; have f4_ := f1_.symm; have f5_ := f3_.symm; clear f1_ f2_ f3_; subst f4_; subst f5_))
 refine hK.out _ _ ⟨(blk_cell BK101.out 0).trans rfl, (blk_cell BK101.out 1).trans rfl⟩ (fun hHeld => ?_)
 clear hK K
 refine norm_ (a' := ?_) ?_ ?_
 rotate_left
 ·show Act.put _ (some 6) _ = _
  simp only [Act.put, sA, sZ, sS, i64_w, i32_w]
  rfl
 refine pure_ (i := 4) (N := some 7) (v := ?_) (a' := ?_) #[true, true, true, true, true, false] rfl rfl (by kernel_rfl) (fun _ _ _ h => h) (Or.inl ⟨by rfl, ?_⟩) ?_ ?_
 rotate_left
 ·intro w'
  go_simp
  with_reducible rfl
 rotate_left
 ·simp only [Act.put, sA, sZ, sS, i64_w, i32_w]
  rfl
 refine one_ (i := 5) (N := none) #[true, true, true, true, true, true] rfl rfl (by kernel_rfl) (by decide) (fun K hK => ?_)
 have hs8 : w6.cell? ⟨gb102, 0, none⟩ = some (.int .i64 0) := (blk_cell BK102.out 0).trans rfl
 have hfs8 := blk_frozen BK102.out 0
 have hns8_0 := NB101_102.out
 have hms8_0 := NB102_101.out
 have hs9 : w6.cell? ⟨gb102, 1, none⟩ = some (.slice none 0 0) := (blk_cell BK102.out 1).trans rfl
 have hfs9 := blk_frozen BK102.out 1
 have hns9_0 := NB101_102.out
 have hms9_0 := NB102_101.out
 refine skip_ (w1 := ?_) (by rfl) rfl ?_ ?_
 rotate_left
 ·go_simp
  rfl
 refine hK.out _ _ ⟨((cell_far (p := ⟨gb102, _, none⟩) NB101_102.out _).trans (((cell_far (p := ⟨gb102, _, none⟩) NB101_102.out _).trans (hHeld.1)))), ((cell_far (p := ⟨gb102, _, none⟩) NB101_102.out _).trans (((cell_far (p := ⟨gb102, _, none⟩) NB101_102.out _).trans (hHeld.2))))⟩ (fun hHeld => ?_)
 clear hK K
 refine done_ (by kernel_rfl) ?_
 try go_wp2
 refine bodyPost_ret (results_cell_row rfl _ _ gb102 28 #[.int .i64 a0_0, .slice Ao7 t103.length co7] (0, 0) _ rfl (by (try refine bp ?_); refine blk_put (cs := #[.int .i64 a0_0, .slice none 0 0]) ?_ 1 _ rfl; (try refine bp ?_); refine blk_put (cs := #[.int .i64 0, .slice none 0 0]) ?_ 0 _ rfl; (first | exact bp BK102.out | exact BK102.out)) Try.underlying28 rfl (by kernel_rfl)) rfl ?_
 exact ⟨_, by first | rfl | (simp <;> rfl) | (simp [*] <;> rfl), by (with_reducible repeat (first | apply Kd.S_alloc | apply Kd.S_drewN | apply Kd.S_drew)); exact Kd.S_mono (Kd.S_far (p := ⟨gb102, 1, none⟩) (Kd.S_far (p := ⟨gb102, 0, none⟩) (Kd.S_types HO105.out BK102.out (by decide)) (fun _ hk => hk.2) (.int .i64 a0_0)) (fun _ hk => hk.2) (.slice Ao7 t103.length co7)) (fun _ hk => trivial), by repeat (first | (with_reducible first | exact HB.out | apply ba | apply bd | apply be | refine bs ?_ GE101.out | refine bs ?_ GE102.out) | exact HB.out)⟩
def impl_within.f (a0 : Int) (a1 : Int) (a2 : Int) : Option (Bool) := if a0 ≥ a1 then (some (decide (a0 ≤ a2))) else (some false)
set_option maxHeartbeats 8000000 in
set_option maxRecDepth 100000 in
theorem impl_within.calls (a0 : Int) (a1 : Int) (a2 : Int) (r : Bool) (w : World) (h : impl_within.f a0 a1 a2 = some r) :
  Calls Try.prog 66 #[.int .i64 a0, .int .i64 a1, .int .i64 a2] w fun e w' => e = .returned (.bool r) ∧ Drawn0 w w' := by
 have H : (if a0 ≥ a1 then (some (decide (a0 ≤ a2))) else (some false)) = some r := h
 clear h
 by_cases c4 : a0 ≥ a1
 ·rw [if_pos c4] at H
  have c4b0 : decide (a1 ≤ a0) = true := decide_eq_true c4
  clear c4
  obtain rfl := Option.some.inj H
  go_enter Try.func66, Try.ntmps66
  go_wp2
  go_ret
  exact ⟨by first | rfl | (simp; done) | (simp [*]; done), by repeat (first | exact Drawn0.refl _ | apply Drawn0.step)⟩
 ·rw [if_neg c4] at H
  have c4b0 : decide (a1 ≤ a0) = false := decide_eq_false c4
  clear c4
  obtain rfl := Option.some.inj H
  go_enter Try.func66, Try.ntmps66
  go_wp2
  go_ret
  exact ⟨by first | rfl | (simp; done) | (simp [*]; done), by repeat (first | exact Drawn0.refl _ | apply Drawn0.step)⟩
def idxOfS (p : List Int → Bool) (l : List (List Int)) : Int := match l.findIdx? p with
 | some i => (i : Int)
 | none => -1
theorem idxOfS_hit (p : List Int → Bool) (l : List (List Int)) (x : Int) (h0 : 0 ≤ x) (h1 : x < (l.length : Int)) (hp : p (rdOf [] l x) = true) (hb : ∀ j : Nat, (j : Int) < x → p (l.getD j []) = false) : idxOfS p l = x := by
 obtain ⟨k, rfl⟩ := Int.eq_ofNat_of_zero_le h0
 have hk : k < l.length := by omega
 have : l.findIdx? p = some k := by
  rw [List.findIdx?_eq_some_iff_getElem]
  refine ⟨hk, ?_, fun j hj => ?_⟩
  ·simpa [rdOf, List.getD_eq_getElem?_getD, List.getElem?_eq_getElem hk] using hp
  ·have := hb j (by omega)
   have hjl : j < l.length := by omega
   simpa [List.getD_eq_getElem?_getD, List.getElem?_eq_getElem hjl] using this
 simp [idxOfS, this]
theorem idxOfS_miss (p : List Int → Bool) (l : List (List Int)) (hb : ∀ j : Nat, (j : Int) < (l.length : Int) → p (l.getD j []) = false) : idxOfS p l = -1 := by
 have : l.findIdx? p = none := by
  rw [List.findIdx?_eq_none_iff]
  intro x hx
  obtain ⟨j, hj, rfl⟩ := List.mem_iff_getElem.1 hx
  have := hb j (by omega)
  simpa [List.getD_eq_getElem?_getD, List.getElem?_eq_getElem hj] using this
 simp [idxOfS, this]
theorem idxOfS_any (p : List Int → Bool) (l : List (List Int)) : decide (0 ≤ idxOfS p l) = l.any p := by
 unfold idxOfS
 cases h : l.findIdx? p with
 | none =>
  rw [List.findIdx?_eq_none_iff] at h
  have : l.any p = false := by simpa using h
  simp [this]
 | some i =>
  rw [List.findIdx?_eq_some_iff_getElem] at h
  obtain ⟨hi, hp, _⟩ := h
  have : l.any p = true := by simpa using ⟨_, List.getElem_mem hi, hp⟩
  simp [this]
theorem wrap64_succS {x : Int} {n : Nat} (h0 : 0 ≤ x) (h1 : x < (n : Int)) (hn : n ≤ 9223372036854775807) : wrap64 (x + 1) = x + 1 := by
 unfold wrap64
 omega
set_option maxHeartbeats 8000000 in
set_option maxRecDepth 100000 in
theorem slices_IndexFunc_intS.hof (A0 : Option Addr) (c0 : Nat) (l0 : List (List Int)) (g : Nat) (lb : Array Value) (p : List Int → Bool) (w : World) (hr0 : Kd.C (Kd.slice 3 (Kd.int .i64)) w A0 l0.length l0)
  (eg : ∀ args w, (callFunc g args).run Try.prog w = .ok (.enter g args) w)
  (hp : ∀ (W : World) (A : Option Addr) (c : Nat) (x : List Int), x ∈ l0 → Below w.heap.size w W → Kd.C (Kd.int .i64) W A x.length x → x.length ≤ c → Calls Try.prog g (#[.slice A x.length c] ++ lb) W fun e W' => e = .returned (.bool (p x)) ∧ Below W.heap.size W W') :
  Calls Try.prog 137 #[.slice A0 l0.length c0, .func (.func g) #[] lb] w fun e w' => e = .returned (.int .i64 (idxOfS p l0)) ∧ Below w.heap.size w w' := by
 have hn := hr0.2.1
 have HP := Aside0.mk hp
 have HR := Aside0.mk hr0
 clear hp hr0
 go_enter Try.func137, Try.ntmps137
 go_wp2
 go_loopg [5, 8] l0.length (fun gg _ s8 wr => ∃ x : Int, s8 = .int .i64 x ∧ Aside0 (0 ≤ x ∧ x ≤ (l0.length : Int) ∧ (l0.length : Int) - x ≤ (gg : Int)) ∧ Aside0 (Below w.heap.size w wr) ∧ Aside0 (∀ j : Nat, (j : Int) < x → p (l0.getD j []) = false))
 case atStart => exact ⟨0, rfl, ⟨by omega⟩, ⟨Below.refl _ _⟩, ⟨fun j hj => by omega⟩⟩
 case round =>
  obtain ⟨x, rfl, HX, HB, HA⟩ := hrel
  have h0 : 0 ≤ x := HX.out.1
  by_cases hlt : x < (l0.length : Int)
  ·obtain ⟨ad, cs, ea, _, hK, hcs⟩ := ReadsRow.get_ (Kd.C_below HR.out HB.out) ([] : List Int) x h0 hlt
   obtain ⟨Ax, cx, rfl, hcx, hCx⟩ := hK
   cases ea
   have hcell : wr.cell? (ad.add x.toNat) = some (.slice Ax (rdOf [] l0 x).length cx) := by
    have := hcs 0 _ rfl
    simpa [rdOf, Kd.slice] using this
   have HCX := Aside0.mk hCx
   have HCL := Aside0.mk hcx
   clear hCx hcx hcs
   have hw1 := wrap64_succS h0 hlt hn
   have HW1 := Aside0.mk hw1
   clear hw1
   have c4b0 : decide (x < (l0.length : Int)) = true := decide_eq_true hlt
   have HLT := Aside0.mk hlt
   have H0 := Aside0.mk h0
   have hmem : rdOf [] l0 x ∈ l0 := by
    have hk : x.toNat < l0.length := by omega
    simp only [rdOf, List.getD_eq_getElem?_getD, List.getElem?_eq_getElem hk, Option.getD_some]
    exact List.getElem_mem hk
   have hcall := HP.out wr Ax cx (rdOf [] l0 x) hmem HB.out HCX.out HCL.out
   have HC := Aside0.mk hcall
   clear hcall hmem
   have p5 := eq_true h0
   have q5 := eq_true hlt
   clear h0 hlt hn
   cases hq : p (rdOf [] l0 x) with
   | true =>
    have HQ := Aside0.mk hq
    have HCT := Aside0.mk (show Calls Try.prog g (#[.slice Ax (rdOf [] l0 x).length cx] ++ lb) wr fun e W' => e = .returned (.bool true) ∧ Below wr.heap.size wr W' from by have := HC.out; rwa [hq] at this)
    clear hq HC
    go_wp2_with fail
    refine (HCT.out).mono ?_
    rintro e w' ⟨rfl, hb⟩
    have HBN := Aside0.mk (HB.out.trans (hb.mono HB.out.size))
    clear hb
    go_wp2
    go_ret
    exact ⟨by rw [idxOfS_hit p l0 x H0.out HLT.out HQ.out HA.out]; first | rfl | (simp; done), HBN.out⟩
   | false =>
    have HQ := Aside0.mk hq
    have HCT := Aside0.mk (show Calls Try.prog g (#[.slice Ax (rdOf [] l0 x).length cx] ++ lb) wr fun e W' => e = .returned (.bool false) ∧ Below wr.heap.size wr W' from by have := HC.out; rwa [hq] at this)
    clear hq HC
    go_wp2_with fail
    refine (HCT.out).mono ?_
    rintro e w' ⟨rfl, hb⟩
    have HBN := Aside0.mk (HB.out.trans (hb.mono HB.out.size))
    clear hb
    go_wp2
    go_roundg (gk - 1)
    case measure => have := HX.out; have := HLT.out; omega
    case rel =>
     refine ⟨x + 1, by rw [HW1.out], ⟨by have := HX.out; have := HLT.out; omega⟩, ⟨HBN.out⟩, ⟨fun j hj => ?_⟩⟩
     by_cases e : (j : Int) = x
     ·subst e
      exact HQ.out
     ·exact HA.out j (by omega)
  ·have c4b0 : decide (x < (l0.length : Int)) = false := decide_eq_false hlt
   have HLT := Aside0.mk hlt
   clear hlt hn
   go_wp2
   go_ret
   exact ⟨by rw [idxOfS_miss p l0 (fun j hj => HA.out j (by have := HX.out; have := HLT.out; omega))]; first | rfl | (simp; done), HB.out⟩
set_option maxHeartbeats 8000000 in
set_option maxRecDepth 100000 in
theorem slices_ContainsFunc_intS.hof (A0 : Option Addr) (c0 : Nat) (l0 : List (List Int)) (g : Nat) (lb : Array Value) (p : List Int → Bool) (w : World) (hr0 : Kd.C (Kd.slice 3 (Kd.int .i64)) w A0 l0.length l0)
  (eg : ∀ args w, (callFunc g args).run Try.prog w = .ok (.enter g args) w)
  (hp : ∀ (W : World) (A : Option Addr) (c : Nat) (x : List Int), x ∈ l0 → Below w.heap.size w W → Kd.C (Kd.int .i64) W A x.length x → x.length ≤ c → Calls Try.prog g (#[.slice A x.length c] ++ lb) W fun e W' => e = .returned (.bool (p x)) ∧ Below W.heap.size W W') :
  Calls Try.prog 104 #[.slice A0 l0.length c0, .func (.func g) #[] lb] w fun e w' => e = .returned (.bool (l0.any p)) ∧ Below w.heap.size w w' := by
 have HI := Aside0.mk (slices_IndexFunc_intS.hof A0 c0 l0 g lb p w hr0 eg hp)
 clear hp hr0
 go_enter Try.func104, Try.ntmps104
 go_wp2_with (go_at_call 137; refine (HI.out).mono ?_; rintro e w' ⟨rfl, hb⟩)
 go_ret
 exact ⟨by rw [← idxOfS_any]; first | rfl | (simp; done), hb⟩
def impl_areIn.f (l0 : List Int) (a1 : Int) (a2 : Int) : Option (Bool) := some (l0.all fun x => decide (a1 ≤ x) && decide (x ≤ a2))
set_option maxHeartbeats 8000000 in
set_option maxRecDepth 100000 in
theorem impl_areIn_1.clo (n lo hi : Int) (B1 B2 : Nat) (W : World) (h1 : W.cell? ⟨B1, 0, none⟩ = some (.int .i64 lo)) (h2 : W.cell? ⟨B2, 0, none⟩ = some (.int .i64 hi)) :
  Calls Try.prog 140 #[.int .i64 n, .pointer (some ⟨B1, 0, none⟩), .pointer (some ⟨B2, 0, none⟩)] W fun e W' => e = .returned (.bool (!(decide (lo ≤ n) && decide (n ≤ hi)))) ∧ Below W.heap.size W W' := by
 have hv : ∃ b, impl_within.f n lo hi = some b ∧ b = (decide (lo ≤ n) && decide (n ≤ hi)) := by
  unfold impl_within.f
  by_cases h : n ≥ lo
  ·exact ⟨_, by rw [if_pos h], by simp [show lo ≤ n from h]⟩
  ·exact ⟨_, by rw [if_neg h], by simp [show ¬ lo ≤ n from h]⟩
 obtain ⟨b, hb, eb⟩ := hv
 have HV := Aside0.mk hb
 clear hb
 rw [← eb]
 clear eb
 go_enter Try.func140, Try.ntmps140
 go_wp2_with (go_at_call 66; refine (impl_within.calls n lo hi b _ HV.out).mono ?_; rintro e w' ⟨rfl, ⟨nd, rfl⟩⟩)
 go_ret
 exact ⟨rfl, pw_below_drewN (Below.refl _ _) _⟩
set_option maxHeartbeats 8000000 in
set_option maxRecDepth 100000 in
theorem impl_areIn.calls (A0 : Option Addr) (c0 : Nat) (l0 : List Int) (a1 : Int) (a2 : Int) (r : Bool) (w : World) (hr0 : Kd.C (Kd.int .i64) w A0 l0.length l0) (hc0 : l0.length ≤ c0) (h : impl_areIn.f l0 a1 a2 = some r) :
  Calls Try.prog 114 #[.slice A0 l0.length c0, .int .i64 a1, .int .i64 a2] w fun e w' => e = .returned (.bool r) ∧ Below w.heap.size w w' := by
 have eg : ∀ args w, (callFunc 140 args).run Try.prog w = .ok (.enter 140 args) w := enters_of Try.func140 (by kernel_rfl) rfl
 have hmf : ∀ (fn : Fn) (first cap : Array Value) (w : World), (Instr.makeFunc fn first cap).run Try.prog w = .ok (.func fn first cap) w := fun _ _ _ _ => rfl
 have HR := Aside0.mk hr0
 have hres : r = !(l0.any fun x => !(decide (a1 ≤ x) && decide (x ≤ a2))) := by
  have := Option.some.inj h
  rw [← this]
  simp [List.all_eq_not_any_not]
 have HRES := Aside0.mk hres
 clear hr0 hres h
 go_enter Try.func114, Try.ntmps114
 go_wp2_with fail
 refine (slices_ContainsFunc_int.hof A0 c0 l0 140 #[.pointer (some ⟨w.heap.size, 0, none⟩), .pointer (some ⟨w.heap.size + 1, 0, none⟩)] (fun x => !(decide (a1 ≤ x) && decide (x ≤ a2))) _ ?_ eg ?_).mono ?_
 ·exact Kd.C_below HR.out (((Below.refl _ _).alloc (Nat.le_refl _) _).alloc (by simp) _)
 ·intro W x _ hb
  refine impl_areIn_1.clo x a1 a2 w.heap.size (w.heap.size + 1) W ?_ ?_
  ·rw [hb.cell (p := ⟨w.heap.size, 0, none⟩) (by simp; omega)]
   simp [go_sem]
  ·rw [hb.cell (p := ⟨w.heap.size + 1, 0, none⟩) (by simp)]
   simp [go_sem]
 ·rintro e w' ⟨rfl, hb⟩
  go_wp2
  go_ret
  exact ⟨by rw [HRES.out]; first | rfl | (simp; done), (((Below.refl _ _).alloc (Nat.le_refl _) _).alloc (by simp) _).trans (hb.mono (by simp; omega))⟩
def impl_isIncreasing.l0 : Nat → List Int → Int → Int → Option (Bool)
 | 0, _, _, _ => none
 | k + 1, x0, x5, x6 => if x6 < x5 then (if x6 > 0 then (if 0 ≤ x6 then (if x6 < (x0.length : Int) then (if 0 ≤ (wrap64 (x6 - 1)) then (if (wrap64 (x6 - 1)) < (x0.length : Int) then (if (rd x0 x6) ≤ (rd x0 (wrap64 (x6 - 1))) then (some false) else (impl_isIncreasing.l0 k x0 x5 (wrap64 (x6 + 1)))) else (none)) else (none)) else (none)) else (none)) else (impl_isIncreasing.l0 k x0 x5 (wrap64 (x6 + 1)))) else (some true)
def impl_isIncreasing.f (k : Nat) (l0 : List Int) : Option (Bool) := impl_isIncreasing.l0 k l0 (l0.length : Int) 0
set_option maxHeartbeats 8000000 in
set_option maxRecDepth 100000 in
theorem impl_isIncreasing.calls (k : Nat) (A0 : Option Addr) (c0 : Nat) (l0 : List Int) (r : Bool) (w : World) (hr0 : Kd.C (Kd.int .i64) w A0 l0.length l0) (hc0 : l0.length ≤ c0) (h : impl_isIncreasing.f k l0 = some r) :
  Calls Try.prog 138 #[.slice A0 l0.length c0] w fun e w' => e = .returned (.bool r) ∧ Drawn0 w w' := by
 have HR0 := Aside0.mk hr0
 have HC0 := Aside0.mk hc0
 clear hr0 hc0
 have H : (impl_isIncreasing.l0 k l0 (l0.length : Int) 0) = some r := h
 clear h
 have H' := Aside0.mk H
 clear H
 go_enter Try.func138, Try.ntmps138
 go_wp2
 repeat (go_quiet (fail); try go_wp2)
 go_loopg [6] k (fun kq v6 w' => ∃ (x6_1 : Int), v6 = .int .i64 x6_1 ∧ Aside0 (impl_isIncreasing.l0 kq l0 (l0.length : Int) x6_1 = some r) ∧ Aside0 (kq ≤ k) ∧ Drawn0 w w')
 case atStart => exact ⟨(0), (by first | rfl | (simp; done) | (simp [*]; done)), H', ⟨Nat.le_refl _⟩, by repeat (first | exact Drawn0.refl _ | apply Drawn0.step)⟩
 case round =>
  clear H'
  try clear c1
  obtain ⟨x6_1, rfl, HA, HK1, ⟨m1, rfl⟩⟩ := hrel
  cases gk with
  | zero => exact absurd HA.out (by simp [impl_isIncreasing.l0])
  | succ k1 =>
   have H := HA.out
   clear HA
   simp only [impl_isIncreasing.l0] at H
   by_cases c2 : x6_1 < (l0.length : Int)
   ·rw [if_pos c2] at H
    have c2b0 : decide (x6_1 < (l0.length : Int)) = true := decide_eq_true c2
    clear c2
    by_cases c3 : x6_1 > 0
    ·rw [if_pos c3] at H
     have c3b0 : decide (0 < x6_1) = true := decide_eq_true c3
     clear c3
     by_cases c4 : 0 ≤ x6_1
     ·rw [if_pos c4] at H
      have c4b0 : decide (0 ≤ x6_1) = true := decide_eq_true c4
      clear c4
      by_cases c5 : x6_1 < (l0.length : Int)
      ·rw [if_pos c5] at H
       have c5b0 : decide (x6_1 < (l0.length : Int)) = true := decide_eq_true c5
       clear c5
       obtain ⟨ji6, hji6⟩ : ∃ j_ : Int, (wrap64 (x6_1 - 1)) = j_ := ⟨_, rfl⟩
       replace H : (if 0 ≤ (ji6) then (if (ji6) < (l0.length : Int) then (if (rd l0 x6_1) ≤ (rd l0 (ji6)) then (some false) else (impl_isIncreasing.l0 k1 l0 (l0.length : Int) (wrap64 (x6_1 + 1)))) else (none)) else (none)) = some r := by first | (rw [hji6] at H; exact H) | (simp only [hji6] at H ⊢; exact H)
       have hji6w : (IntKind.i64.wrap (x6_1 - 1)) = ji6 := (i64_w _).trans hji6
       by_cases c7 : 0 ≤ (ji6)
       ·rw [if_pos c7] at H
        have c7b0 : decide (0 ≤ (ji6)) = true := decide_eq_true c7
        clear c7
        by_cases c8 : (ji6) < (l0.length : Int)
        ·rw [if_pos c8] at H
         have c8b0 : decide ((ji6) < (l0.length : Int)) = true := decide_eq_true c8
         clear c8
         by_cases c9 : (rd l0 x6_1) ≤ (rd l0 (ji6))
         ·rw [if_pos c9] at H
          have c9b0 : decide ((rd l0 x6_1) ≤ (rd l0 (ji6))) = true := decide_eq_true c9
          clear c9
          obtain rfl := Option.some.inj H
          have p101 : 0 ≤ (x6_1 : Int) := of_decide_eq_true (by first | (with_reducible assumption) | assumption)
          have q101 : x6_1 < (l0.length : Int) := of_decide_eq_true (by first | (with_reducible assumption) | assumption)
          obtain ⟨ad101, e101, hx101_0⟩ := Kd.at_int HR0.out x6_1 p101 q101
          cases e101
          replace p101 := eq_true p101
          replace q101 := eq_true q101
          have p102 : 0 ≤ ((ji6) : Int) := of_decide_eq_true (by first | (with_reducible assumption) | assumption)
          have q102 : (ji6) < (l0.length : Int) := of_decide_eq_true (by first | (with_reducible assumption) | assumption)
          obtain ⟨ad102, e102, hx102_0⟩ := Kd.at_int HR0.out (ji6) p102 q102
          obtain rfl : ad101 = ad102 := (by injection e102)
          replace p102 := eq_true p102
          replace q102 := eq_true q102
          go_wp2
          repeat (go_quiet (fail); try go_wp2)
          go_ret
          exact ⟨by first | rfl | (simp; done) | (simp only [← hji6] <;> (first | rfl | simp)) | (simp [*]; done), by repeat (first | exact Drawn0.refl _ | apply Drawn0.step)⟩
         ·rw [if_neg c9] at H
          have c9b0 : decide ((rd l0 x6_1) ≤ (rd l0 (ji6))) = false := decide_eq_false c9
          clear c9
          have H' := Aside0.mk H
          clear H
          have p101 : 0 ≤ (x6_1 : Int) := of_decide_eq_true (by first | (with_reducible assumption) | assumption)
          have q101 : x6_1 < (l0.length : Int) := of_decide_eq_true (by first | (with_reducible assumption) | assumption)
          obtain ⟨ad101, e101, hx101_0⟩ := Kd.at_int HR0.out x6_1 p101 q101
          cases e101
          replace p101 := eq_true p101
          replace q101 := eq_true q101
          have p102 : 0 ≤ ((ji6) : Int) := of_decide_eq_true (by first | (with_reducible assumption) | assumption)
          have q102 : (ji6) < (l0.length : Int) := of_decide_eq_true (by first | (with_reducible assumption) | assumption)
          obtain ⟨ad102, e102, hx102_0⟩ := Kd.at_int HR0.out (ji6) p102 q102
          obtain rfl : ad101 = ad102 := (by injection e102)
          replace p102 := eq_true p102
          replace q102 := eq_true q102
          go_wp2
          repeat (go_quiet (fail); try go_wp2)
          go_roundg k1
          case measure => have := HK1.out; omega
          case rel => exact ⟨(wrap64 (x6_1 + 1)), (by first | rfl | (simp; done) | (simp [*]; done)), H', ⟨by have := HK1.out; omega⟩, by repeat (first | exact Drawn0.refl _ | apply Drawn0.step)⟩
        ·rw [if_neg c8] at H
         exact absurd H (by simp)
       ·rw [if_neg c7] at H
        exact absurd H (by simp)
      ·rw [if_neg c5] at H
       exact absurd H (by simp)
     ·rw [if_neg c4] at H
      exact absurd H (by simp)
    ·rw [if_neg c3] at H
     have c3b0 : decide (0 < x6_1) = false := decide_eq_false c3
     clear c3
     have H' := Aside0.mk H
     clear H
     go_wp2
     repeat (go_quiet (fail); try go_wp2)
     go_roundg k1
     case measure => have := HK1.out; omega
     case rel => exact ⟨(wrap64 (x6_1 + 1)), (by first | rfl | (simp; done) | (simp [*]; done)), H', ⟨by have := HK1.out; omega⟩, by repeat (first | exact Drawn0.refl _ | apply Drawn0.step)⟩
   ·rw [if_neg c2] at H
    have c2b0 : decide (x6_1 < (l0.length : Int)) = false := decide_eq_false c2
    clear c2
    obtain rfl := Option.some.inj H
    go_wp2
    repeat (go_quiet (fail); try go_wp2)
    go_ret
    exact ⟨by first | rfl | (simp; done) | (simp [*]; done), by repeat (first | exact Drawn0.refl _ | apply Drawn0.step)⟩
def impl_isSet.f (k : Nat) (l0 : List Int) (a1 : Int) : Option (Bool) := (impl_areIn.f l0 0 (wrap64 (a1 - 1))).bind fun t101 => (if t101 = true then ((impl_isIncreasing.f k l0).bind fun t102 => (some t102)) else (some false))
set_option maxHeartbeats 8000000 in
set_option maxRecDepth 100000 in
theorem impl_isSet.calls (k : Nat) (A0 : Option Addr) (c0 : Nat) (l0 : List Int) (a1 : Int) (r : Bool) (w : World) (hr0 : Kd.C (Kd.int .i64) w A0 l0.length l0) (hc0 : l0.length ≤ c0) (h : impl_isSet.f k l0 a1 = some r) :
  Calls Try.prog 106 #[.slice A0 l0.length c0, .int .i64 a1] w fun e w' => e = .returned (.bool r) ∧ Below w.heap.size w w' := by
 have HR0 := Aside0.mk hr0
 have HC0 := Aside0.mk hc0
 clear hr0 hc0
 have HB := Aside0.mk (Below.refl w.heap.size w)
 have H : ((impl_areIn.f l0 0 (wrap64 (a1 - 1))).bind fun t101 => (if t101 = true then ((impl_isIncreasing.f k l0).bind fun t102 => (some t102)) else (some false))) = some r := h
 clear h
 replace H := oB H
 obtain ⟨t101, A30, H⟩ := H
 replace H : (if t101 = true then ((impl_isIncreasing.f k l0).bind fun t102 => (some t102)) else (some false)) = some r := H
 have A3 := Aside0.mk A30
 clear A30
 by_cases c4 : t101 = true
 ·subst c4
  have H1 : ((impl_isIncreasing.f k l0).bind fun t102 => (some t102)) = some r := by rw [if_pos rfl] at H; exact H
  clear H
  have H := H1
  clear H1
  replace H := oB H
  obtain ⟨t102, A50, H⟩ := H
  replace H : (some t102) = some r := H
  have A5 := Aside0.mk A50
  clear A50
  obtain rfl := Option.some.inj H
  go_enter Try.func106, Try.ntmps106
  go_wp2_with (first | ((with_reducible refine gate_callee (f := 114) rfl ?_); refine goesL_ (some 8) rfl rfl Try.func114 (by kernel_rfl) rfl #[.slice A0 l0.length c0, .int .i64 0, .int .i64 (wrap64 (a1 - 1))] rfl (by (try simp only [mA, mC, mN]); first | done | rfl | (simp only [List.length_drop, List.length_take]; rfl)) ?_; (with_reducible refine (impl_areIn.calls _ _ l0 0 (wrap64 (a1 - 1)) true _ ?side1 ?side2 A3.out).mono ?_); (case side1 => repeat (first | exact HR0.out | (with_reducible refine Kd.C_alloc ?_ _) | (with_reducible refine Kd.C_drewN ?_ _) | (with_reducible refine Kd.C_drew ?_))); (case side2 => exact HC0.out); rintro e w6 ⟨rfl, hb⟩; refine ⟨_, rfl, ?_⟩; have n0_ := Aside0.mk (below_step (by repeat (first | (with_reducible first | exact HB.out | apply ba | apply bd | apply be) | exact HB.out)) hb); clear HB; have HB := n0_; clear n0_; (try clear hb); (try clear hb2); (try clear hk); (try clear hi)) | (go_at_call 138; (with_reducible refine (impl_isIncreasing.calls k _ _ l0 t102 _ ?side1 ?side2 A5.out).mono ?_); (case side1 => repeat (first | exact (Kd.C_below HR0.out HB.out) | (with_reducible refine Kd.C_alloc ?_ _) | (with_reducible refine Kd.C_drewN ?_ _) | (with_reducible refine Kd.C_drew ?_))); (case side2 => exact HC0.out); rintro e w' ⟨rfl, ⟨nd, rfl⟩⟩))
  go_ret
  exact ⟨by first | rfl | (simp <;> rfl) | (simp [*] <;> rfl), by repeat (first | (with_reducible first | exact HB.out | apply ba | apply bd | apply be) | exact HB.out)⟩
 ·replace c4 := Bool.eq_false_iff.mpr c4
  subst c4
  have H1 : (some false) = some r := by rw [if_neg (show ¬ (false = true) by decide)] at H; exact H
  clear H
  have H := H1
  clear H1
  obtain rfl := Option.some.inj H
  go_enter Try.func106, Try.ntmps106
  go_wp2_with (first | ((with_reducible refine gate_callee (f := 114) rfl ?_); refine goesL_ (some 8) rfl rfl Try.func114 (by kernel_rfl) rfl #[.slice A0 l0.length c0, .int .i64 0, .int .i64 (wrap64 (a1 - 1))] rfl (by (try simp only [mA, mC, mN]); first | done | rfl | (simp only [List.length_drop, List.length_take]; rfl)) ?_; (with_reducible refine (impl_areIn.calls _ _ l0 0 (wrap64 (a1 - 1)) false _ ?side1 ?side2 A3.out).mono ?_); (case side1 => repeat (first | exact HR0.out | (with_reducible refine Kd.C_alloc ?_ _) | (with_reducible refine Kd.C_drewN ?_ _) | (with_reducible refine Kd.C_drew ?_))); (case side2 => exact HC0.out); rintro e w7 ⟨rfl, hb⟩; refine ⟨_, rfl, ?_⟩; have n0_ := Aside0.mk (below_step (by repeat (first | (with_reducible first | exact HB.out | apply ba | apply bd | apply be) | exact HB.out)) hb); clear HB; have HB := n0_; clear n0_; (try clear hb); (try clear hb2); (try clear hk); (try clear hi)))
  go_ret
  exact ⟨by first | rfl | (simp <;> rfl) | (simp [*] <;> rfl), by repeat (first | (with_reducible first | exact HB.out | apply ba | apply bd | apply be) | exact HB.out)⟩
def impl_areSets_1.f (k : Nat) (n : Int) (x : List Int) : Option Bool := if (x.length : Int) = 0 then some true else (impl_isSet.f k x n).bind fun b => some (!b)
def impl_areSets.f (k : Nat) (l0 : List (List Int)) (a1 : Int) : Option (Bool) := (Go.Proofs.YtmmmblfghhcndaaM.anyO (impl_areSets_1.f k a1) l0).bind fun b => some (!b)
set_option maxHeartbeats 8000000 in
set_option maxRecDepth 100000 in
theorem impl_areSets_1.clo (k : Nat) (n : Int) (A : Option Addr) (c : Nat) (x : List Int) (B : Nat) (b : Bool) (W : World) (hlt : B < W.heap.size) (h0 : W.cell? ⟨B, 0, none⟩ = some (.int .i64 n))
  (hr : Kd.C (Kd.int .i64) W A x.length x) (hc : x.length ≤ c) (h : impl_areSets_1.f k n x = some b) :
  Calls Try.prog 105 #[.slice A x.length c, .pointer (some ⟨B, 0, none⟩)] W fun e W' => e = .returned (.bool b) ∧ Below W.heap.size W W' := by
 have HR := Aside0.mk hr
 have HC := Aside0.mk hc
 have HLT := Aside0.mk hlt
 clear hr hc hlt
 unfold impl_areSets_1.f at h
 by_cases h2 : (x.length : Int) = 0
 ·rw [if_pos h2] at h
  obtain rfl := Option.some.inj h
  have c4b0 : ((x.length : Int) == 0) = true := beq_iff_eq.mpr h2
  have c4b1 : ((x.length : Int) != 0) = false := bne_eq_false_iff_eq.mpr h2
  clear h
  go_enter Try.func105, Try.ntmps105
  go_wp2
  go_ret
  exact ⟨rfl, Below.refl _ _⟩
 ·rw [if_neg h2] at h
  obtain ⟨s, hs, hb⟩ := oB h
  obtain rfl := Option.some.inj hb
  have c4b0 : ((x.length : Int) == 0) = false := beq_eq_false_iff_ne.mpr h2
  have c4b1 : ((x.length : Int) != 0) = true := bne_iff_ne.mpr h2
  have c4b2 : ¬ (x = []) := fun h_ => h2 (by rw [h_]; rfl)
  have HS := Aside0.mk hs
  clear h hb hs
  go_enter Try.func105, Try.ntmps105
  go_wp2_with (go_at_call 106; refine (impl_isSet.calls k A c x n s _ HR.out HC.out HS.out).mono ?_; rintro e w' ⟨rfl, hb⟩)
  go_ret
  exact ⟨rfl, hb⟩
set_option maxHeartbeats 8000000 in
set_option maxRecDepth 100000 in
theorem impl_areSets.calls (k : Nat) (A0 : Option Addr) (c0 : Nat) (l0 : List (List Int)) (a1 : Int) (r : Bool) (w : World) (hr0 : Kd.C (Kd.slice 3 (Kd.int .i64)) w A0 l0.length l0) (hc0 : l0.length ≤ c0) (h : impl_areSets.f k l0 a1 = some r) :
  Calls Try.prog 67 #[.slice A0 l0.length c0, .int .i64 a1] w fun e w' => e = .returned (.bool r) ∧ Below w.heap.size w w' := by
 have eg : ∀ args w, (callFunc 105 args).run Try.prog w = .ok (.enter 105 args) w := enters_of Try.func105 (by kernel_rfl) rfl
 have hmf : ∀ (fn : Fn) (first cap : Array Value) (w : World), (Instr.makeFunc fn first cap).run Try.prog w = .ok (.func fn first cap) w := fun _ _ _ _ => rfl
 have HR := Aside0.mk hr0
 obtain ⟨s, hs, hb⟩ := oB h
 obtain rfl := Option.some.inj hb
 obtain ⟨hall, hany⟩ := Go.Proofs.YtmmmblfghhcndaaM.anyO_some hs
 have HALL := Aside0.mk hall
 have HANY := Aside0.mk hany
 clear hr0 h hs hb hall hany
 go_enter Try.func67, Try.ntmps67
 go_wp2_with fail
 refine (slices_ContainsFunc_intS.hof A0 c0 l0 105 #[.pointer (some ⟨w.heap.size, 0, none⟩)] (fun x => (impl_areSets_1.f k a1 x).getD false) _ ?_ eg ?_).mono ?_
 ·exact Kd.C_below HR.out ((Below.refl _ _).alloc (Nat.le_refl _) _)
 ·intro W A c x hx hb hC hc
  refine impl_areSets_1.clo k a1 A c x w.heap.size _ W (Nat.lt_of_lt_of_le (by simp) hb.size) ?_ hC hc ?_
  ·rw [hb.cell (p := ⟨w.heap.size, 0, none⟩) (by simp)]
   simp [go_sem]
  ·obtain ⟨b, hb2⟩ := HALL.out x hx
   rw [hb2]
   rfl
 ·rintro e w' ⟨rfl, hb⟩
  go_wp2
  go_ret
  exact ⟨by rw [HANY.out]; first | rfl | (simp; done), ((Below.refl _ _).alloc (Nat.le_refl _) _).trans (hb.mono (by simp))⟩
mutual
def impl_IsGame.j0 : Nat → Bool → Int → List (List Int) → Option (Bool)
 | 0, _, _, _ => none
 | k + 1, x24, x102000, x102001 => if x24 = true then (some false) else (impl_IsGame.l0 k x102001 (x102001.length : Int) 0 x102000 x102001)
def impl_IsGame.l0 : Nat → List (List Int) → Int → Int → Int → List (List Int) → Option (Bool)
 | 0, _, _, _, _, _ => none
 | k + 1, x26, x27, x28, x102000, x102001 => if x28 < x27 then (if 0 ≤ x28 then (if x28 < (x26.length : Int) then (if x28 > 0 then (if 0 ≤ (wrap64 (x28 - 1)) then (if (wrap64 (x28 - 1)) < (x102001.length : Int) then ((slices_Compare_int_int.f k (rd_L2 x102001 (wrap64 (x28 - 1))) (rd_L2 x26 x28)).bind fun t106 => (impl_IsGame.j2 k x28 (rd_L2 x26 x28) x26 x27 x28 (decide (t106 ≥ 0)) x102000 x102001)) else (none)) else (none)) else (impl_IsGame.j2 k x28 (rd_L2 x26 x28) x26 x27 x28 false x102000 x102001)) else (none)) else (none)) else (some true)
def impl_IsGame.j2 : Nat → Int → List Int → List (List Int) → Int → Int → Bool → Int → List (List Int) → Option (Bool)
 | 0, _, _, _, _, _, _, _, _ => none
 | k + 1, x3, x4, x26, x27, x28, x45, x102000, x102001 => if x45 = true then (some false) else (impl_IsGame.l1 k x3 x4 x26 x27 x28 x102001 (x102001.length : Int) 0 x102000 x102001)
def impl_IsGame.l1 : Nat → Int → List Int → List (List Int) → Int → Int → List (List Int) → Int → Int → Int → List (List Int) → Option (Bool)
 | 0, _, _, _, _, _, _, _, _, _, _ => none
 | k + 1, x3, x4, x26, x27, x28, x47, x48, x49, x102000, x102001 => if x49 < x48 then (if 0 ≤ x49 then (if x49 < (x47.length : Int) then (if x49 = x3 then (impl_IsGame.l1 k x3 x4 x26 x27 x28 x47 x48 (wrap64 (x49 + 1)) x102000 x102001) else ((impl_maskOf.f k x4).bind fun t108 => ((impl_maskOf.f k (rd_L2 x47 x49)).bind fun t109 => ((impl_maskOf.f k (rd_L2 x47 x49)).bind fun t110 => (if (Go.bits .and .i64 t108 t109) = t110 then (some false) else (impl_IsGame.l1 k x3 x4 x26 x27 x28 x47 x48 (wrap64 (x49 + 1)) x102000 x102001)))))) else (none)) else (none)) else (impl_IsGame.l0 k x26 x27 (wrap64 (x28 + 1)) x102000 x102001)
end
def impl_IsGame.f (k : Nat) (a0_0 : Int) (l0_1 : List (List Int)) : Option (Bool) := (impl_within.f a0_0 1 9).bind fun t102 => (if t102 = true then (if (l0_1.length : Int) = 0 then (impl_IsGame.j0 k true a0_0 l0_1) else ((impl_areSets.f k l0_1 a0_0).bind fun t103 => (impl_IsGame.j0 k (!t103) a0_0 l0_1))) else (impl_IsGame.j0 k true a0_0 l0_1))
set_option maxHeartbeats 8000000 in
set_option maxRecDepth 100000 in
theorem impl_IsGame.calls (k : Nat) (a0_0 : Int) (A0_1 : Option Addr) (c0_1 : Nat) (l0_1 : List (List Int)) (r : Bool) (w : World) (hr0_1 : Kd.C (Kd.slice 3 (Kd.int .i64)) w A0_1 l0_1.length l0_1) (hc0_1 : l0_1.length ≤ c0_1) (h : impl_IsGame.f k a0_0 l0_1 = some r) :
  Calls Try.prog 79 #[.agg #[.int .i64 a0_0, .slice A0_1 l0_1.length c0_1]] w fun e w' => e = .returned (.bool r) ∧ Below w.heap.size w w' := by
 have hu28 := Try.underlying28
 have HR0_1 := Aside0.mk hr0_1
 have HC0_1 := Aside0.mk hc0_1
 clear hr0_1 hc0_1
 have HB := Aside0.mk (Below.refl w.heap.size w)
 have H : ((impl_within.f a0_0 1 9).bind fun t102 => (if t102 = true then (if (l0_1.length : Int) = 0 then (impl_IsGame.j0 k true a0_0 l0_1) else ((impl_areSets.f k l0_1 a0_0).bind fun t103 => (impl_IsGame.j0 k (!t103) a0_0 l0_1))) else (impl_IsGame.j0 k true a0_0 l0_1))) = some r := h
 clear h
 have HC2 := Aside0.mk H
 clear H
 go_enter Try.func79, Try.ntmps79
 go_upto_region 1 with (first | ((with_reducible refine gate_dst (N := 1) rfl ?_); (try (refine gate_guard (by rfl) ?_; dsimp only)); refine box_event ?hg (N := 1) ?hd (cs := #[.int .i64 a0_0, .slice A0_1 l0_1.length c0_1]) (t := 28) ?hr ?_; (case hd => rfl); (case hg => rfl); (case hr => first | (go_simp; done) | (go_simp; rfl)); intro gb101 hg w3 hbox hb; have n0_ := Aside0.mk (below_step (by repeat (first | (with_reducible first | exact HB.out | apply ba | apply bd | apply be) | exact HB.out)) hb); have n1_ := Aside0.mk (hbox); have n2_ := Aside0.mk ((by rw [hg]; exact (below_size (by repeat (first | (with_reducible first | exact HB.out | apply ba | apply bd | apply be) | exact HB.out))) : w.heap.size ≤ gb101)); have n3_ := Aside0.mk ((by rw [hg]; exact (below_size (by repeat (first | (with_reducible first | exact HB.out | apply ba | apply bd | apply be) | exact HB.out))) : w.heap.size ≤ gb101)); clear HB; have HB := n0_; have BK101 := n1_; have GW101 := n2_; have GE101 := n3_; clear n0_ n1_ n2_ n3_; clear hb hbox hg))
 (try simp only [Act.put, sA, sZ, sS])
 go_cut [24] (fun v24 wc => ∃ (kq : Nat) (x24_1 : Bool), v24 = .bool x24_1 ∧ Aside0 (impl_IsGame.j0 kq x24_1 a0_0 l0_1 = some r) ∧ Aside0 (kq ≤ k) ∧ Aside0 (wc.heap[gb101]? = some (.cells #[.int .i64 a0_0, (.slice A0_1 l0_1.length c0_1)] 28 (0, 0))) ∧ Aside0 (Below w.heap.size w wc))
 case first =>
  have H := HC2.out
  clear HC2
  replace H := oB H
  obtain ⟨t102, A40, H⟩ := H
  replace H : (if t102 = true then (if (l0_1.length : Int) = 0 then (impl_IsGame.j0 k true a0_0 l0_1) else ((impl_areSets.f k l0_1 a0_0).bind fun t103 => (impl_IsGame.j0 k (!t103) a0_0 l0_1))) else (impl_IsGame.j0 k true a0_0 l0_1)) = some r := H
  have A4 := Aside0.mk A40
  clear A40
  by_cases c5 : t102 = true
  ·subst c5
   have H1 : (if (l0_1.length : Int) = 0 then (impl_IsGame.j0 k true a0_0 l0_1) else ((impl_areSets.f k l0_1 a0_0).bind fun t103 => (impl_IsGame.j0 k (!t103) a0_0 l0_1))) = some r := by rw [if_pos rfl] at H; exact H
   clear H
   have H := H1
   clear H1
   by_cases c6 : (l0_1.length : Int) = 0
   ·rw [if_pos c6] at H
    have c6b0 : ((l0_1.length : Int) == 0) = true := beq_iff_eq.mpr c6
    have c6b1 : ((l0_1.length : Int) != 0) = false := bne_eq_false_iff_eq.mpr c6
    clear c6
    (first | rw [c6b0] | (simp only [i64_w, i32_w]; rw [c6b0]) | skip)
    have H' := Aside0.mk H
    clear H
    have hcz7_0 : w3.cell? ⟨gb101, 0, none⟩ = some (.int .i64 a0_0) := (blk_cell BK101.out 0).trans rfl
    have hcz7_1 : w3.cell? ⟨gb101, 1, none⟩ = some (.slice A0_1 l0_1.length c0_1) := (blk_cell BK101.out 1).trans rfl
    have hfz7_0 := blk_frozen BK101.out 0
    have hfz7_1 := blk_frozen BK101.out 1
    go_wp2_with (first | ((with_reducible refine gate_callee (f := 66) rfl ?_); refine goesL_ (some 9) rfl rfl Try.func66 (by kernel_rfl) rfl #[.int .i64 a0_0, .int .i64 1, .int .i64 9] rfl (by (try simp only [mA, mC, mN]); first | done | rfl | (simp only [List.length_drop, List.length_take]; rfl)) ?_; (with_reducible refine (impl_within.calls a0_0 1 9 true _ A4.out).mono ?_); rintro e w' ⟨rfl, ⟨nd, rfl⟩⟩; refine ⟨_, rfl, ?_⟩))
    go_meet
    case rel => exact ⟨_, (true), (by first | rfl | (simp; done) | (simp [*]; done)), H', ⟨by first | omega | exact Nat.le_refl _⟩, ⟨by (first | exact bp BK101.out | exact BK101.out)⟩, ⟨by repeat (first | (with_reducible first | exact HB.out | apply ba | apply bd | apply be | refine bs ?_ GE101.out) | exact HB.out)⟩⟩
   ·rw [if_neg c6] at H
    have c6b0 : ((l0_1.length : Int) == 0) = false := beq_eq_false_iff_ne.mpr c6
    have c6b1 : ((l0_1.length : Int) != 0) = true := bne_iff_ne.mpr c6
    have c6b2 : ¬ (l0_1 = []) := fun h_ => c6 (by rw [h_]; rfl)
    (first | rw [c6b0] | (simp only [i64_w, i32_w]; rw [c6b0]) | skip)
    replace H := oB H
    obtain ⟨t103, A80, H⟩ := H
    replace H : (impl_IsGame.j0 k (!t103) a0_0 l0_1) = some r := H
    have A8 := Aside0.mk A80
    clear A80
    have H' := Aside0.mk H
    clear H
    have hcz9_0 : w3.cell? ⟨gb101, 0, none⟩ = some (.int .i64 a0_0) := (blk_cell BK101.out 0).trans rfl
    have hcz9_1 : w3.cell? ⟨gb101, 1, none⟩ = some (.slice A0_1 l0_1.length c0_1) := (blk_cell BK101.out 1).trans rfl
    have hfz9_0 := blk_frozen BK101.out 0
    have hfz9_1 := blk_frozen BK101.out 1
    go_wp2_with (first | ((with_reducible refine gate_callee (f := 66) rfl ?_); refine goesL_ (some 9) rfl rfl Try.func66 (by kernel_rfl) rfl #[.int .i64 a0_0, .int .i64 1, .int .i64 9] rfl (by (try simp only [mA, mC, mN]); first | done | rfl | (simp only [List.length_drop, List.length_take]; rfl)) ?_; (with_reducible refine (impl_within.calls a0_0 1 9 true _ A4.out).mono ?_); rintro e w' ⟨rfl, ⟨nd, rfl⟩⟩; refine ⟨_, rfl, ?_⟩) | (go_at_call 67; (with_reducible refine (impl_areSets.calls k _ _ l0_1 a0_0 t103 _ ?side1 ?side2 A8.out).mono ?_); (case side1 => repeat (first | exact (Kd.C_below HR0_1.out (by repeat (first | (with_reducible first | exact HB.out | apply ba | apply bd | apply be | refine bs ?_ GE101.out) | exact HB.out))) | (with_reducible refine Kd.C_alloc ?_ _) | (with_reducible refine Kd.C_drewN ?_ _) | (with_reducible refine Kd.C_drew ?_))); (case side2 => exact HC0_1.out); rintro e w10 ⟨rfl, hb⟩; have n0_ := Aside0.mk (blk_below (g := gb101) (o := .cells #[.int .i64 a0_0, .slice A0_1 l0_1.length c0_1] 28 (0, 0)) (by (first | exact bp BK101.out | exact BK101.out)) hb); have n1_ := Aside0.mk (below_step (by repeat (first | (with_reducible first | exact HB.out | apply ba | apply bd | apply be | refine bs ?_ GE101.out) | exact HB.out)) hb); clear BK101; clear HB; have BK101 := n0_; have HB := n1_; clear n0_ n1_; (try clear hb); (try clear hb2); (try clear hk); (try clear hi)))
    go_meet
    case rel => exact ⟨_, (!t103), (by first | rfl | (simp; done) | (simp [*]; done)), H', ⟨by first | omega | exact Nat.le_refl _⟩, ⟨by (first | exact bp BK101.out | exact BK101.out)⟩, ⟨by repeat (first | (with_reducible first | exact HB.out | apply ba | apply bd | apply be | refine bs ?_ GE101.out) | exact HB.out)⟩⟩
  ·replace c5 := Bool.eq_false_iff.mpr c5
   subst c5
   have H1 : (impl_IsGame.j0 k true a0_0 l0_1) = some r := by rw [if_neg (show ¬ (false = true) by decide)] at H; exact H
   clear H
   have H := H1
   clear H1
   have H' := Aside0.mk H
   clear H
   have hcz11_0 : w3.cell? ⟨gb101, 0, none⟩ = some (.int .i64 a0_0) := (blk_cell BK101.out 0).trans rfl
   have hcz11_1 : w3.cell? ⟨gb101, 1, none⟩ = some (.slice A0_1 l0_1.length c0_1) := (blk_cell BK101.out 1).trans rfl
   have hfz11_0 := blk_frozen BK101.out 0
   have hfz11_1 := blk_frozen BK101.out 1
   go_wp2_with (first | ((with_reducible refine gate_callee (f := 66) rfl ?_); refine goesL_ (some 9) rfl rfl Try.func66 (by kernel_rfl) rfl #[.int .i64 a0_0, .int .i64 1, .int .i64 9] rfl (by (try simp only [mA, mC, mN]); first | done | rfl | (simp only [List.length_drop, List.length_take]; rfl)) ?_; (with_reducible refine (impl_within.calls a0_0 1 9 false _ A4.out).mono ?_); rintro e w' ⟨rfl, ⟨nd, rfl⟩⟩; refine ⟨_, rfl, ?_⟩))
   go_meet
   case rel => exact ⟨_, (true), (by first | rfl | (simp; done) | (simp [*]; done)), H', ⟨by first | omega | exact Nat.le_refl _⟩, ⟨by (first | exact bp BK101.out | exact BK101.out)⟩, ⟨by repeat (first | (with_reducible first | exact HB.out | apply ba | apply bd | apply be | refine bs ?_ GE101.out) | exact HB.out)⟩⟩
 case rest =>
  clear HC2
  try clear p2
  try clear c5
  try clear c6
  try clear c6b0
  try clear c6b1
  try clear c6b2
  try clear c7
  try clear hcz11_0
  try clear hcz11_1
  try clear hcz7_0
  try clear hcz7_1
  try clear hcz9_0
  try clear hcz9_1
  try clear hfz11_0
  try clear hfz11_1
  try clear hfz7_0
  try clear hfz7_1
  try clear hfz9_0
  try clear hfz9_1
  obtain ⟨kq, x24_1, rfl, HA, HJ1, BK101, HB⟩ := hcut
  cases kq with
  | zero => exact absurd HA.out (by simp [impl_IsGame.j0])
  | succ kj1 =>
   have H := HA.out
   clear HA
   simp only [impl_IsGame.j0] at H
   by_cases c12 : x24_1 = true
   ·subst c12
    have H1 : (some false) = some r := by rw [if_pos rfl] at H; exact H
    clear H
    have H := H1
    clear H1
    obtain rfl := Option.some.inj H
    go_wp2
    go_ret
    exact ⟨by first | rfl | (simp <;> rfl) | (simp [*] <;> rfl), by repeat (first | (with_reducible first | exact HB.out | apply ba | apply bd | apply be | refine bs ?_ GE101.out) | exact HB.out)⟩
   ·replace c12 := Bool.eq_false_iff.mpr c12
    subst c12
    have H1 : (impl_IsGame.l0 kj1 l0_1 (l0_1.length : Int) 0 a0_0 l0_1) = some r := by rw [if_neg (show ¬ (false = true) by decide)] at H; exact H
    clear H
    have H := H1
    clear H1
    have H' := Aside0.mk H
    clear H
    have hcz13_0 : wc.cell? ⟨gb101, 0, none⟩ = some (.int .i64 a0_0) := (blk_cell BK101.out 0).trans rfl
    have hcz13_1 : wc.cell? ⟨gb101, 1, none⟩ = some (.slice A0_1 l0_1.length c0_1) := (blk_cell BK101.out 1).trans rfl
    have hfz13_0 := blk_frozen BK101.out 0
    have hfz13_1 := blk_frozen BK101.out 1
    go_wp2
    go_loopg [28] kj1 (fun kq v28 w' => ∃ (x28_2 : Int), v28 = .int .i64 x28_2 ∧ Aside0 (impl_IsGame.l0 kq l0_1 (l0_1.length : Int) x28_2 a0_0 l0_1 = some r) ∧ Aside0 (kq ≤ kj1) ∧ Aside0 (w'.heap[gb101]? = some (.cells #[.int .i64 a0_0, (.slice A0_1 l0_1.length c0_1)] 28 (0, 0))) ∧ Aside0 (Below w.heap.size w w'))
    case atStart => exact ⟨(0), (by first | rfl | (simp; done) | (simp [*]; done)), H', ⟨Nat.le_refl _⟩, ⟨by (first | exact bp BK101.out | exact BK101.out)⟩, ⟨by repeat (first | (with_reducible first | exact HB.out | apply ba | apply bd | apply be | refine bs ?_ GE101.out) | exact HB.out)⟩⟩
    case round =>
     clear H'
     try clear c1
     try clear p2
     try clear c5
     try clear c6
     try clear c6b0
     try clear c6b1
     try clear c6b2
     try clear c7
     try clear c12
     try clear hcz11_0
     try clear hcz11_1
     try clear hcz13_0
     try clear hcz13_1
     try clear hcz7_0
     try clear hcz7_1
     try clear hcz9_0
     try clear hcz9_1
     try clear hfz11_0
     try clear hfz11_1
     try clear hfz13_0
     try clear hfz13_1
     try clear hfz7_0
     try clear hfz7_1
     try clear hfz9_0
     try clear hfz9_1
     try clear p2
     obtain ⟨x28_2, rfl, HA, HK2, BK101, HB⟩ := hrel
     cases gk with
     | zero => exact absurd HA.out (by simp [impl_IsGame.l0])
     | succ k2 =>
      have H := HA.out
      clear HA
      simp only [impl_IsGame.l0] at H
      by_cases c14 : x28_2 < (l0_1.length : Int)
      ·rw [if_pos c14] at H
       have c14b0 : decide (x28_2 < (l0_1.length : Int)) = true := decide_eq_true c14
       clear c14
       by_cases c15 : 0 ≤ x28_2
       ·rw [if_pos c15] at H
        have c15b0 : decide (0 ≤ x28_2) = true := decide_eq_true c15
        clear c15
        by_cases c16 : x28_2 < (l0_1.length : Int)
        ·rw [if_pos c16] at H
         have c16b0 : decide (x28_2 < (l0_1.length : Int)) = true := decide_eq_true c16
         clear c16
         have HC17 := Aside0.mk H
         clear H
         have p104 : 0 ≤ (x28_2 : Int) := of_decide_eq_true (by first | (with_reducible assumption) | assumption)
         have q104 : x28_2 < (l0_1.length : Int) := of_decide_eq_true (by first | (with_reducible assumption) | assumption)
         obtain ⟨ad104, A104_0, c104_0, e104, hx104_0, hl104_0, hi104_0⟩ := at_L2 HR0_1.out x28_2 p104 q104
         cases e104
         replace hx104_0 := (HB.out.cell (World.block_lt_of_cell? w _ hx104_0)).trans hx104_0
         have HR104_0 := Aside0.mk hi104_0
         have HC104_0 := Aside0.mk hl104_0
         clear hi104_0 hl104_0
         replace p104 := eq_true p104
         replace q104 := eq_true q104
         go_upto_region 6 with (fail)
         go_cut [45] (fun v45 wc => ∃ (kq : Nat) (x45_16 : Bool), v45 = .bool x45_16 ∧ Aside0 (impl_IsGame.j2 kq x28_2 (rd_L2 l0_1 x28_2) l0_1 (l0_1.length : Int) x28_2 x45_16 a0_0 l0_1 = some r) ∧ Aside0 (kq ≤ k2) ∧ Aside0 (wc.heap[gb101]? = some (.cells #[.int .i64 a0_0, (.slice (some ad104) l0_1.length c0_1)] 28 (0, 0))) ∧ Aside0 (Below w.heap.size w wc))
         case first =>
          have H := HC17.out
          clear HC17
          by_cases c18 : x28_2 > 0
          ·rw [if_pos c18] at H
           have c18b0 : decide (0 < x28_2) = true := decide_eq_true c18
           clear c18
           (first | rw [c18b0] | (simp only [i64_w, i32_w]; rw [c18b0]) | skip)
           obtain ⟨ji19, hji19⟩ : ∃ j_ : Int, (wrap64 (x28_2 - 1)) = j_ := ⟨_, rfl⟩
           replace H : (if 0 ≤ (ji19) then (if (ji19) < (l0_1.length : Int) then ((slices_Compare_int_int.f k2 (rd_L2 l0_1 (ji19)) (rd_L2 l0_1 x28_2)).bind fun t106 => (impl_IsGame.j2 k2 x28_2 (rd_L2 l0_1 x28_2) l0_1 (l0_1.length : Int) x28_2 (decide (t106 ≥ 0)) a0_0 l0_1)) else (none)) else (none)) = some r := by first | (rw [hji19] at H; exact H) | (simp only [hji19] at H ⊢; exact H)
           have hji19w : (IntKind.i64.wrap (x28_2 - 1)) = ji19 := (i64_w _).trans hji19
           by_cases c20 : 0 ≤ (ji19)
           ·rw [if_pos c20] at H
            have c20b0 : decide (0 ≤ (ji19)) = true := decide_eq_true c20
            clear c20
            by_cases c21 : (ji19) < (l0_1.length : Int)
            ·rw [if_pos c21] at H
             have c21b0 : decide ((ji19) < (l0_1.length : Int)) = true := decide_eq_true c21
             clear c21
             replace H := oB H
             obtain ⟨t106, A220, H⟩ := H
             replace H : (impl_IsGame.j2 k2 x28_2 (rd_L2 l0_1 x28_2) l0_1 (l0_1.length : Int) x28_2 (decide (t106 ≥ 0)) a0_0 l0_1) = some r := H
             have A22 := Aside0.mk A220
             clear A220
             have H' := Aside0.mk H
             clear H
             have hcz23_0 : wr.cell? ⟨gb101, 0, none⟩ = some (.int .i64 a0_0) := (blk_cell BK101.out 0).trans rfl
             have hcz23_1 : wr.cell? ⟨gb101, 1, none⟩ = some (.slice (some ad104) l0_1.length c0_1) := (blk_cell BK101.out 1).trans rfl
             have hfz23_0 := blk_frozen BK101.out 0
             have hfz23_1 := blk_frozen BK101.out 1
             have p105 : 0 ≤ ((ji19) : Int) := of_decide_eq_true (by first | (with_reducible assumption) | assumption)
             have q105 : (ji19) < (l0_1.length : Int) := of_decide_eq_true (by first | (with_reducible assumption) | assumption)
             obtain ⟨ad105, A105_0, c105_0, e105, hx105_0, hl105_0, hi105_0⟩ := at_L2 HR0_1.out (ji19) p105 q105
             obtain rfl : ad104 = ad105 := (by injection e105)
             replace hx105_0 := (HB.out.cell (World.block_lt_of_cell? w _ hx105_0)).trans hx105_0
             have HR105_0 := Aside0.mk hi105_0
             have HC105_0 := Aside0.mk hl105_0
             clear hi105_0 hl105_0
             replace p105 := eq_true p105
             replace q105 := eq_true q105
             go_wp2_with (first | (go_at_call 118; (with_reducible refine (slices_Compare_int_int.calls k2 _ _ (rd_L2 l0_1 (ji19)) _ _ (rd_L2 l0_1 x28_2) t106 _ ?side1 ?side2 ?side3 ?side4 A22.out).mono ?_); (case side1 => repeat (first | exact (Kd.C_below HR105_0.out HB.out) | (with_reducible refine Kd.C_alloc ?_ _) | (with_reducible refine Kd.C_drewN ?_ _) | (with_reducible refine Kd.C_drew ?_))); (case side2 => exact HC105_0.out); (case side3 => repeat (first | exact (Kd.C_below HR104_0.out HB.out) | (with_reducible refine Kd.C_alloc ?_ _) | (with_reducible refine Kd.C_drewN ?_ _) | (with_reducible refine Kd.C_drew ?_))); (case side4 => exact HC104_0.out); rintro e w' ⟨rfl, ⟨nd, rfl⟩⟩))
             go_meet
             case rel => exact ⟨_, (decide (t106 ≥ 0)), (by first | rfl | (simp; done) | (simp [*]; done)), H', ⟨by have := HJ1.out; have := HK2.out; first | omega | exact Nat.le_refl _⟩, ⟨by (first | exact bp BK101.out | exact BK101.out)⟩, ⟨by repeat (first | (with_reducible first | exact HB.out | apply ba | apply bd | apply be | refine bs ?_ GE101.out) | exact HB.out)⟩⟩
            ·rw [if_neg c21] at H
             exact absurd H (by simp)
           ·rw [if_neg c20] at H
            exact absurd H (by simp)
          ·rw [if_neg c18] at H
           have c18b0 : decide (0 < x28_2) = false := decide_eq_false c18
           clear c18
           (first | rw [c18b0] | (simp only [i64_w, i32_w]; rw [c18b0]) | skip)
           have H' := Aside0.mk H
           clear H
           go_wp2
           go_meet
           case rel => exact ⟨_, (false), (by first | rfl | (simp; done) | (simp [*]; done)), H', ⟨by have := HJ1.out; have := HK2.out; first | omega | exact Nat.le_refl _⟩, ⟨by (first | exact bp BK101.out | exact BK101.out)⟩, ⟨by repeat (first | (with_reducible first | exact HB.out | apply ba | apply bd | apply be | refine bs ?_ GE101.out) | exact HB.out)⟩⟩
         case rest =>
          clear HC17
          try clear c1
          try clear p1
          try clear q1
          try clear hx1
          try clear c2
          try clear p2
          try clear c5
          try clear c6
          try clear c6b0
          try clear c6b1
          try clear c6b2
          try clear p6
          try clear c7
          try clear c10
          try clear p10
          try clear q10
          try clear hx10
          try clear c12
          try clear c14
          try clear c14b0
          try clear c15
          try clear c15b0
          try clear c16
          try clear c16b0
          try clear c18
          try clear c18b0
          try clear c20
          try clear c20b0
          try clear c21
          try clear c21b0
          try clear hcz11_0
          try clear hcz11_1
          try clear hcz13_0
          try clear hcz13_1
          try clear hcz23_0
          try clear hcz23_1
          try clear hcz7_0
          try clear hcz7_1
          try clear hcz9_0
          try clear hcz9_1
          try clear hfz11_0
          try clear hfz11_1
          try clear hfz13_0
          try clear hfz13_1
          try clear hfz23_0
          try clear hfz23_1
          try clear hfz7_0
          try clear hfz7_1
          try clear hfz9_0
          try clear hfz9_1
          try clear hx104_0
          try clear hx105_0
          try clear p104
          try clear p105
          try clear p2
          try clear q104
          try clear q105
          obtain ⟨kq, x45_16, rfl, HA, HJ16, BK101, HB⟩ := hcut
          cases kq with
          | zero => exact absurd HA.out (by simp [impl_IsGame.j2])
          | succ kj16 =>
           have H := HA.out
           clear HA
           simp only [impl_IsGame.j2] at H
           by_cases c24 : x45_16 = true
           ·subst c24
            have H1 : (some false) = some r := by rw [if_pos rfl] at H; exact H
            clear H
            have H := H1
            clear H1
            obtain rfl := Option.some.inj H
            go_wp2
            go_ret
            exact ⟨by first | rfl | (simp <;> rfl) | (simp [*] <;> rfl), by repeat (first | (with_reducible first | exact HB.out | apply ba | apply bd | apply be | refine bs ?_ GE101.out) | exact HB.out)⟩
           ·replace c24 := Bool.eq_false_iff.mpr c24
            subst c24
            have H1 : (impl_IsGame.l1 kj16 x28_2 (rd_L2 l0_1 x28_2) l0_1 (l0_1.length : Int) x28_2 l0_1 (l0_1.length : Int) 0 a0_0 l0_1) = some r := by rw [if_neg (show ¬ (false = true) by decide)] at H; exact H
            clear H
            have H := H1
            clear H1
            have H' := Aside0.mk H
            clear H
            have hcz25_0 : wc.cell? ⟨gb101, 0, none⟩ = some (.int .i64 a0_0) := (blk_cell BK101.out 0).trans rfl
            have hcz25_1 : wc.cell? ⟨gb101, 1, none⟩ = some (.slice (some ad104) l0_1.length c0_1) := (blk_cell BK101.out 1).trans rfl
            have hfz25_0 := blk_frozen BK101.out 0
            have hfz25_1 := blk_frozen BK101.out 1
            go_wp2
            go_loopg [49] kj16 (fun kq v49 w' => ∃ (x49_4 : Int), v49 = .int .i64 x49_4 ∧ Aside0 (impl_IsGame.l1 kq x28_2 (rd_L2 l0_1 x28_2) l0_1 (l0_1.length : Int) x28_2 l0_1 (l0_1.length : Int) x49_4 a0_0 l0_1 = some r) ∧ Aside0 (kq ≤ kj16) ∧ Aside0 (w'.heap[gb101]? = some (.cells #[.int .i64 a0_0, (.slice (some ad104) l0_1.length c0_1)] 28 (0, 0))) ∧ Aside0 (Below w.heap.size w w'))
            case atStart => exact ⟨(0), (by first | rfl | (simp; done) | (simp [*]; done)), H', ⟨Nat.le_refl _⟩, ⟨by (first | exact bp BK101.out | exact BK101.out)⟩, ⟨by repeat (first | (with_reducible first | exact HB.out | apply ba | apply bd | apply be | refine bs ?_ GE101.out) | exact HB.out)⟩⟩
            case round =>
             clear H'
             try clear c1
             try clear p1
             try clear q1
             try clear hx1
             try clear c2
             try clear p2
             try clear c5
             try clear c6
             try clear c6b0
             try clear c6b1
             try clear c6b2
             try clear p6
             try clear c7
             try clear c10
             try clear p10
             try clear q10
             try clear hx10
             try clear c12
             try clear c14
             try clear c14b0
             try clear c15
             try clear c15b0
             try clear c16
             try clear c16b0
             try clear c18
             try clear c18b0
             try clear c20
             try clear c20b0
             try clear c21
             try clear c21b0
             try clear c24
             try clear hcz11_0
             try clear hcz11_1
             try clear hcz13_0
             try clear hcz13_1
             try clear hcz23_0
             try clear hcz23_1
             try clear hcz25_0
             try clear hcz25_1
             try clear hcz7_0
             try clear hcz7_1
             try clear hcz9_0
             try clear hcz9_1
             try clear hfz11_0
             try clear hfz11_1
             try clear hfz13_0
             try clear hfz13_1
             try clear hfz23_0
             try clear hfz23_1
             try clear hfz25_0
             try clear hfz25_1
             try clear hfz7_0
             try clear hfz7_1
             try clear hfz9_0
             try clear hfz9_1
             try clear hx104_0
             try clear hx105_0
             try clear p1
             try clear p10
             try clear p104
             try clear p105
             try clear p2
             try clear p6
             try clear q1
             try clear q10
             try clear q104
             try clear q105
             obtain ⟨x49_4, rfl, HA, HK4, BK101, HB⟩ := hrel
             cases gk with
             | zero => exact absurd HA.out (by simp [impl_IsGame.l1])
             | succ k4 =>
              have H := HA.out
              clear HA
              simp only [impl_IsGame.l1] at H
              by_cases c26 : x49_4 < (l0_1.length : Int)
              ·rw [if_pos c26] at H
               have c26b0 : decide (x49_4 < (l0_1.length : Int)) = true := decide_eq_true c26
               clear c26
               by_cases c27 : 0 ≤ x49_4
               ·rw [if_pos c27] at H
                have c27b0 : decide (0 ≤ x49_4) = true := decide_eq_true c27
                clear c27
                by_cases c28 : x49_4 < (l0_1.length : Int)
                ·rw [if_pos c28] at H
                 have c28b0 : decide (x49_4 < (l0_1.length : Int)) = true := decide_eq_true c28
                 clear c28
                 by_cases c29 : x49_4 = x28_2
                 ·rw [if_pos c29] at H
                  have c29b0 : (x49_4 == x28_2) = true := beq_iff_eq.mpr c29
                  have c29b1 : (x49_4 != x28_2) = false := bne_eq_false_iff_eq.mpr c29
                  clear c29
                  have H' := Aside0.mk H
                  clear H
                  have p107 : 0 ≤ (x49_4 : Int) := of_decide_eq_true (by first | (with_reducible assumption) | assumption)
                  have q107 : x49_4 < (l0_1.length : Int) := of_decide_eq_true (by first | (with_reducible assumption) | assumption)
                  obtain ⟨ad107, A107_0, c107_0, e107, hx107_0, hl107_0, hi107_0⟩ := at_L2 HR0_1.out x49_4 p107 q107
                  obtain rfl : ad104 = ad107 := (by injection e107)
                  replace hx107_0 := (HB.out.cell (World.block_lt_of_cell? w _ hx107_0)).trans hx107_0
                  have HR107_0 := Aside0.mk hi107_0
                  have HC107_0 := Aside0.mk hl107_0
                  clear hi107_0 hl107_0
                  replace p107 := eq_true p107
                  replace q107 := eq_true q107
                  go_wp2
                  go_roundg k4
                  case measure => have := HJ1.out; have := HK2.out; have := HJ16.out; have := HK4.out; omega
                  case rel => exact ⟨(wrap64 (x49_4 + 1)), (by first | rfl | (simp; done) | (simp [*]; done)), H', ⟨by have := HJ1.out; have := HK2.out; have := HJ16.out; have := HK4.out; omega⟩, ⟨by (first | exact bp BK101.out | exact BK101.out)⟩, ⟨by repeat (first | (with_reducible first | exact HB.out | apply ba | apply bd | apply be | refine bs ?_ GE101.out) | exact HB.out)⟩⟩
                 ·rw [if_neg c29] at H
                  have c29b0 : (x49_4 == x28_2) = false := beq_eq_false_iff_ne.mpr c29
                  have c29b1 : (x49_4 != x28_2) = true := bne_iff_ne.mpr c29
                  replace H := oB H
                  obtain ⟨t108, A300, H⟩ := H
                  replace H : ((impl_maskOf.f k4 (rd_L2 l0_1 x49_4)).bind fun t109 => ((impl_maskOf.f k4 (rd_L2 l0_1 x49_4)).bind fun t110 => (if (Go.bits .and .i64 t108 t109) = t110 then (some false) else (impl_IsGame.l1 k4 x28_2 (rd_L2 l0_1 x28_2) l0_1 (l0_1.length : Int) x28_2 l0_1 (l0_1.length : Int) (wrap64 (x49_4 + 1)) a0_0 l0_1)))) = some r := H
                  have A30 := Aside0.mk A300
                  clear A300
                  replace H := oB H
                  obtain ⟨t109, A310, H⟩ := H
                  replace H : ((impl_maskOf.f k4 (rd_L2 l0_1 x49_4)).bind fun t110 => (if (Go.bits .and .i64 t108 t109) = t110 then (some false) else (impl_IsGame.l1 k4 x28_2 (rd_L2 l0_1 x28_2) l0_1 (l0_1.length : Int) x28_2 l0_1 (l0_1.length : Int) (wrap64 (x49_4 + 1)) a0_0 l0_1))) = some r := H
                  have A31 := Aside0.mk A310
                  clear A310
                  replace H := oB H
                  obtain ⟨t110, A320, H⟩ := H
                  replace H : (if (Go.bits .and .i64 t108 t109) = t110 then (some false) else (impl_IsGame.l1 k4 x28_2 (rd_L2 l0_1 x28_2) l0_1 (l0_1.length : Int) x28_2 l0_1 (l0_1.length : Int) (wrap64 (x49_4 + 1)) a0_0 l0_1)) = some r := H
                  have A32 := Aside0.mk A320
                  clear A320
                  obtain rfl : t109 = t110 := Option.some.inj (A31.out.symm.trans A32.out)
                  by_cases c33 : (Go.bits .and .i64 t108 t109) = t109
                  ·rw [if_pos c33] at H
                   have c33b0 : ((Go.bits .and .i64 t108 t109) == t109) = true := beq_iff_eq.mpr c33
                   have c33b1 : ((Go.bits .and .i64 t108 t109) != t109) = false := bne_eq_false_iff_eq.mpr c33
                   clear c33
                   obtain rfl := Option.some.inj H
                   have p107 : 0 ≤ (x49_4 : Int) := of_decide_eq_true (by first | (with_reducible assumption) | assumption)
                   have q107 : x49_4 < (l0_1.length : Int) := of_decide_eq_true (by first | (with_reducible assumption) | assumption)
                   obtain ⟨ad107, A107_0, c107_0, e107, hx107_0, hl107_0, hi107_0⟩ := at_L2 HR0_1.out x49_4 p107 q107
                   obtain rfl : ad104 = ad107 := (by injection e107)
                   replace hx107_0 := (HB.out.cell (World.block_lt_of_cell? w _ hx107_0)).trans hx107_0
                   have HR107_0 := Aside0.mk hi107_0
                   have HC107_0 := Aside0.mk hl107_0
                   clear hi107_0 hl107_0
                   replace p107 := eq_true p107
                   replace q107 := eq_true q107
                   go_wp2_with (first | (go_at_call 107; (with_reducible refine (impl_maskOf.calls k4 _ _ (rd_L2 l0_1 x28_2) t108 _ ?side1 ?side2 A30.out).mono ?_); (case side1 => repeat (first | exact (Kd.C_below HR104_0.out HB.out) | (with_reducible refine Kd.C_alloc ?_ _) | (with_reducible refine Kd.C_drewN ?_ _) | (with_reducible refine Kd.C_drew ?_))); (case side2 => exact HC104_0.out); rintro e w' ⟨rfl, ⟨nd, rfl⟩⟩) | (go_at_call 107; (with_reducible refine (impl_maskOf.calls k4 _ _ (rd_L2 l0_1 x49_4) t109 _ ?side1 ?side2 A31.out).mono ?_); (case side1 => repeat (first | exact (Kd.C_below HR107_0.out (by repeat (first | (with_reducible first | exact HB.out | apply ba | apply bd | apply be | refine bs ?_ GE101.out) | exact HB.out))) | (with_reducible refine Kd.C_alloc ?_ _) | (with_reducible refine Kd.C_drewN ?_ _) | (with_reducible refine Kd.C_drew ?_))); (case side2 => exact HC107_0.out); rintro e w' ⟨rfl, ⟨nd, rfl⟩⟩) | (go_at_call 107; (with_reducible refine (impl_maskOf.calls k4 _ _ (rd_L2 l0_1 x49_4) t109 _ ?side1 ?side2 A32.out).mono ?_); (case side1 => repeat (first | exact (Kd.C_below HR107_0.out (by repeat (first | (with_reducible first | exact HB.out | apply ba | apply bd | apply be | refine bs ?_ GE101.out) | exact HB.out))) | (with_reducible refine Kd.C_alloc ?_ _) | (with_reducible refine Kd.C_drewN ?_ _) | (with_reducible refine Kd.C_drew ?_))); (case side2 => exact HC107_0.out); rintro e w' ⟨rfl, ⟨nd, rfl⟩⟩))
                   go_ret
                   exact ⟨by first | rfl | (simp <;> rfl) | (simp [*] <;> rfl), by repeat (first | (with_reducible first | exact HB.out | apply ba | apply bd | apply be | refine bs ?_ GE101.out) | exact HB.out)⟩
                  ·rw [if_neg c33] at H
                   have c33b0 : ((Go.bits .and .i64 t108 t109) == t109) = false := beq_eq_false_iff_ne.mpr c33
                   have c33b1 : ((Go.bits .and .i64 t108 t109) != t109) = true := bne_iff_ne.mpr c33
                   have H' := Aside0.mk H
                   clear H
                   have p107 : 0 ≤ (x49_4 : Int) := of_decide_eq_true (by first | (with_reducible assumption) | assumption)
                   have q107 : x49_4 < (l0_1.length : Int) := of_decide_eq_true (by first | (with_reducible assumption) | assumption)
                   obtain ⟨ad107, A107_0, c107_0, e107, hx107_0, hl107_0, hi107_0⟩ := at_L2 HR0_1.out x49_4 p107 q107
                   obtain rfl : ad104 = ad107 := (by injection e107)
                   replace hx107_0 := (HB.out.cell (World.block_lt_of_cell? w _ hx107_0)).trans hx107_0
                   have HR107_0 := Aside0.mk hi107_0
                   have HC107_0 := Aside0.mk hl107_0
                   clear hi107_0 hl107_0
                   replace p107 := eq_true p107
                   replace q107 := eq_true q107
                   go_wp2_with (first | (go_at_call 107; (with_reducible refine (impl_maskOf.calls k4 _ _ (rd_L2 l0_1 x28_2) t108 _ ?side1 ?side2 A30.out).mono ?_); (case side1 => repeat (first | exact (Kd.C_below HR104_0.out HB.out) | (with_reducible refine Kd.C_alloc ?_ _) | (with_reducible refine Kd.C_drewN ?_ _) | (with_reducible refine Kd.C_drew ?_))); (case side2 => exact HC104_0.out); rintro e w' ⟨rfl, ⟨nd, rfl⟩⟩) | (go_at_call 107; (with_reducible refine (impl_maskOf.calls k4 _ _ (rd_L2 l0_1 x49_4) t109 _ ?side1 ?side2 A31.out).mono ?_); (case side1 => repeat (first | exact (Kd.C_below HR107_0.out (by repeat (first | (with_reducible first | exact HB.out | apply ba | apply bd | apply be | refine bs ?_ GE101.out) | exact HB.out))) | (with_reducible refine Kd.C_alloc ?_ _) | (with_reducible refine Kd.C_drewN ?_ _) | (with_reducible refine Kd.C_drew ?_))); (case side2 => exact HC107_0.out); rintro e w' ⟨rfl, ⟨nd, rfl⟩⟩) | (go_at_call 107; (with_reducible refine (impl_maskOf.calls k4 _ _ (rd_L2 l0_1 x49_4) t109 _ ?side1 ?side2 A32.out).mono ?_); (case side1 => repeat (first | exact (Kd.C_below HR107_0.out (by repeat (first | (with_reducible first | exact HB.out | apply ba | apply bd | apply be | refine bs ?_ GE101.out) | exact HB.out))) | (with_reducible refine Kd.C_alloc ?_ _) | (with_reducible refine Kd.C_drewN ?_ _) | (with_reducible refine Kd.C_drew ?_))); (case side2 => exact HC107_0.out); rintro e w' ⟨rfl, ⟨nd, rfl⟩⟩))
                   go_roundg k4
                   case measure => have := HJ1.out; have := HK2.out; have := HJ16.out; have := HK4.out; omega
                   case rel => exact ⟨(wrap64 (x49_4 + 1)), (by first | rfl | (simp; done) | (simp [*]; done)), H', ⟨by have := HJ1.out; have := HK2.out; have := HJ16.out; have := HK4.out; omega⟩, ⟨by (first | exact bp BK101.out | exact BK101.out)⟩, ⟨by repeat (first | (with_reducible first | exact HB.out | apply ba | apply bd | apply be | refine bs ?_ GE101.out) | exact HB.out)⟩⟩
                ·rw [if_neg c28] at H
                 exact absurd H (by simp)
               ·rw [if_neg c27] at H
                exact absurd H (by simp)
              ·rw [if_neg c26] at H
               have c26b0 : decide (x49_4 < (l0_1.length : Int)) = false := decide_eq_false c26
               clear c26
               have H' := Aside0.mk H
               clear H
               go_wp2
               go_roundg k4
               case measure => have := HJ1.out; have := HK2.out; have := HJ16.out; have := HK4.out; omega
               case rel => exact ⟨(wrap64 (x28_2 + 1)), (by first | rfl | (simp; done) | (simp [*]; done)), H', ⟨by have := HJ1.out; have := HK2.out; have := HJ16.out; have := HK4.out; omega⟩, ⟨by (first | exact bp BK101.out | exact BK101.out)⟩, ⟨by repeat (first | (with_reducible first | exact HB.out | apply ba | apply bd | apply be | refine bs ?_ GE101.out) | exact HB.out)⟩⟩
        ·rw [if_neg c16] at H
         exact absurd H (by simp)
       ·rw [if_neg c15] at H
        exact absurd H (by simp)
      ·rw [if_neg c14] at H
       have c14b0 : decide (x28_2 < (l0_1.length : Int)) = false := decide_eq_false c14
       clear c14
       obtain rfl := Option.some.inj H
       go_wp2
       go_ret
       exact ⟨by first | rfl | (simp <;> rfl) | (simp [*] <;> rfl), by repeat (first | (with_reducible first | exact HB.out | apply ba | apply bd | apply be | refine bs ?_ GE101.out) | exact HB.out)⟩
def impl_joinGames_1.f (p : Bool → Bool → Bool) (n : Int) (vs us : List Bool) (x : Int) : Option Bool := (impl_votes_all.f n vs).bind fun t => if 0 ≤ (Go.bits .and .i64 x t) then (if (Go.bits .and .i64 x t) < (vs.length : Int) then (if 0 ≤ n then (if 0 ≤ (shr .i64 x n) then (if (shr .i64 x n) < (us.length : Int) then some (p (rdOf false vs (Go.bits .and .i64 x t)) (rdOf false us (shr .i64 x n))) else none) else none) else none) else none) else none
def impl_joinGames.g (k : Nat) (p : Bool → Bool → Bool) (n1 : Int) (l1 : List (List Int)) (n2 : Int) (l2 : List (List Int)) : Option (Int × List (List Int) × Bool) := (impl_IsGame.f k n1 l1).bind fun t1 => if t1 = true then ((impl_IsGame.f k n2 l2).bind fun t2 => if t2 = true then (if wrap64 (n1 + n2) > 9 then some (0, [], false) else (impl_Game_votes.f k n1 l1).bind fun v => (impl_Game_votes.f k n2 l2).bind fun u => (impl_votesOf.f k (wrap64 (v.1 + u.1)) (impl_joinGames_1.f p v.1 v.2 u.2)).bind fun o => (impl_votes_game.f k o.1 o.2).bind fun r => some (r.1, r.2, true)) else some (0, [], false)) else some (0, [], false)
def impl_joinGames.T3 : Bool × List (List Nat × List Nat) := (true, [([], []), ([0], [0]), ([], []), ([2, 1], [2]), ([], []), ([], []), ([4, 1, 3, 0, 1, 4, 5], [1, 4]), ([5, 3, 6, 0, 1, 2, 3, 4, 5, 6], [3, 5])])
def impl_joinGames.B3 : List Nat := [0, 1, 0, 7, 0, 0, 63, 127]
theorem impl_joinGames.tab3 : rtab .any (opsOf Try.f94 3) = impl_joinGames.T3 := by kernel_rfl
theorem impl_joinGames.bits3 : waitsOk impl_joinGames.T3.2 impl_joinGames.B3 = true := by kernel_rfl
def impl_joinGames.Clo (p : Bool → Bool → Bool) (g : Nat) : Prop := ∀ (n m : Int) (vs us : List Bool) (x : Int) (b : Bool) (A A' : Option Addr) (c c' BF BV BW : Nat) (W : World), W.cell? ⟨BF, 0, none⟩ = some (.func (.func g) #[] #[]) → W.cell? ⟨BV, 0, none⟩ = some (.int .i64 n) → W.cell? ⟨BV, 1, none⟩ = some (.slice A vs.length c) → W.cell? ⟨BW, 0, none⟩ = some (.int .i64 m) → W.cell? ⟨BW, 1, none⟩ = some (.slice A' us.length c') → Kd.C Kd.bool W A vs.length vs → vs.length ≤ c → Kd.C Kd.bool W A' us.length us → impl_joinGames_1.f p n vs us x = some b → Calls Try.prog 129 #[.int .i64 x, .pointer (some ⟨BF, 0, none⟩), .pointer (some ⟨BV, 0, none⟩), .pointer (some ⟨BW, 0, none⟩)] W fun e W' => e = .returned (.bool b) ∧ Below W.heap.size W W'
set_option maxHeartbeats 16000000 in
set_option maxRecDepth 100000 in
theorem impl_joinGames.hof (k : Nat) (p : Bool → Bool → Bool) (g : Nat) (n1 : Int) (A1 : Option Addr) (c1 : Nat) (l1 : List (List Int)) (n2 : Int) (A2 : Option Addr) (c2 : Nat) (l2 : List (List Int)) (r1 : Int) (r2 : List (List Int)) (r3 : Bool) (w : World) (hcl : impl_joinGames.Clo p g) (hr1 : Kd.C (Kd.slice 3 (Kd.int .i64)) w A1 l1.length l1) (hc1 : l1.length ≤ c1) (hr2 : Kd.C (Kd.slice 3 (Kd.int .i64)) w A2 l2.length l2) (hc2 : l2.length ≤ c2) (h : impl_joinGames.g k p n1 l1 n2 l2 = some (r1, r2, r3)) :
  Calls Try.prog 94 #[.agg #[.int .i64 n1, .slice A1 l1.length c1], .agg #[.int .i64 n2, .slice A2 l2.length c2], .func (.func g) #[] #[]] w fun e w' => ∃ v1_ : Value, e = .returned (.tuple #[.agg #[.int .i64 r1, v1_], .bool r3]) ∧ Kd.S (Kd.slice 3 (Kd.int .i64)) 36 w' w.heap.size (fun _ => True) v1_ r2 ∧ Below w.heap.size w w' := by
 have eg : ∀ args w, (callFunc 129 args).run Try.prog w = .ok (.enter 129 args) w := enters_of Try.func129 (by kernel_rfl) rfl
 have hmf : ∀ (fn : Fn) (first cap : Array Value) (w : World), (Instr.makeFunc fn first cap).run Try.prog w = .ok (.func fn first cap) w := fun _ _ _ _ => rfl
 have huG := Try.underlying28
 have huV := Try.underlying69
 have h4 := Go.Proofs.YtmmmblfghhcndaaX.news4 w (.cells #[.int .i64 n1, .slice A1 l1.length c1] 28) (.cells #[.int .i64 n2, .slice A2 l2.length c2] 28) (.cells #[.func (.func g) #[] #[]] 98) (.cells #[.int .i64 0, .slice none 0 0] 28)
 have HB := Aside0.mk (h4.1)
 have BG := Aside0.mk (h4.2.1)
 have BH := Aside0.mk (h4.2.2.1)
 have BF := Aside0.mk (h4.2.2.2.1)
 have BO := Aside0.mk (h4.2.2.2.2)
 have HCL := Aside0.mk (hcl)
 have HR1 := Aside0.mk (hr1)
 have HC1 := Aside0.mk (hc1)
 have HR2 := Aside0.mk (hr2)
 have HC2 := Aside0.mk (hc2)
 have GE := Aside0.mk (show w.heap.size ≤ w.heap.size + 3 by omega)
 clear h4 hcl hr1 hc1 hr2 hc2
 simp only [impl_joinGames.g] at h
 obtain ⟨t1, ht1, h⟩ := oB h
 have FT1 := Aside0.mk ht1
 clear ht1
 cases t1 with
 | false =>
  rw [if_neg (by decide)] at h
  simp only [Option.some.injEq, Prod.mk.injEq] at h
  obtain ⟨rfl, rfl, rfl⟩ := h
  go_enter Try.func94, Try.ntmps94
  go_wp2_with fail
  refine (impl_IsGame.calls k n1 A1 c1 l1 false _ (Kd.C_below HR1.out HB.out) HC1.out FT1.out).mono ?_
  rintro e w1 ⟨rfl, hb⟩
  replace HB := Aside0.mk (HB.out.trans (hb.mono HB.out.size))
  replace BG := Aside0.mk (blk_below BG.out hb)
  replace BH := Aside0.mk (blk_below BH.out hb)
  replace BF := Aside0.mk (blk_below BF.out hb)
  replace BO := Aside0.mk (blk_below BO.out hb)
  clear hb
  have zo0 := (blk_cell BO.out 0).trans rfl
  have zo1 := (blk_cell BO.out 1).trans rfl
  have f0 := blk_frozen BO.out 0
  have f1 := blk_frozen BO.out 1
  go_wp2
  refine bodyPost_ret (results_ct rfl _ _ (w.heap.size + 3) 28 #[.int .i64 0, .slice none 0 0] (0, 0) _ rfl (by refine blk_put (cs := #[.int .i64 0, .slice none 0 0]) ?_ 1 _ rfl; refine blk_put (cs := #[.int .i64 0, .slice none 0 0]) ?_ 0 _ rfl; exact BO.out) Try.underlying28 rfl (by kernel_rfl)) rfl ?_
  exact ⟨_, rfl, Kd.S_nil _ _ _ _ _, below_set (below_set HB.out GE.out) GE.out⟩
 | true =>
  rw [if_pos rfl] at h
  obtain ⟨t2, ht2, h⟩ := oB h
  have FT2 := Aside0.mk ht2
  clear ht2
  cases t2 with
  | false =>
   rw [if_neg (by decide)] at h
   simp only [Option.some.injEq, Prod.mk.injEq] at h
   obtain ⟨rfl, rfl, rfl⟩ := h
   go_enter Try.func94, Try.ntmps94
   go_wp2_with fail
   refine (impl_IsGame.calls k n1 A1 c1 l1 true _ (Kd.C_below HR1.out HB.out) HC1.out FT1.out).mono ?_
   rintro e w1 ⟨rfl, hb⟩
   replace HB := Aside0.mk (HB.out.trans (hb.mono HB.out.size))
   replace BG := Aside0.mk (blk_below BG.out hb)
   replace BH := Aside0.mk (blk_below BH.out hb)
   replace BF := Aside0.mk (blk_below BF.out hb)
   replace BO := Aside0.mk (blk_below BO.out hb)
   clear hb
   have h_0 := (blk_cell BH.out 0).trans rfl
   have h_1 := (blk_cell BH.out 1).trans rfl
   go_wp2_with fail
   refine (impl_IsGame.calls k n2 A2 c2 l2 false _ (Kd.C_below HR2.out HB.out) HC2.out FT2.out).mono ?_
   rintro e w2 ⟨rfl, hb⟩
   replace HB := Aside0.mk (HB.out.trans (hb.mono HB.out.size))
   replace BG := Aside0.mk (blk_below BG.out hb)
   replace BH := Aside0.mk (blk_below BH.out hb)
   replace BF := Aside0.mk (blk_below BF.out hb)
   replace BO := Aside0.mk (blk_below BO.out hb)
   clear hb
   clear h_0 h_1
   have zo0 := (blk_cell BO.out 0).trans rfl
   have zo1 := (blk_cell BO.out 1).trans rfl
   have f0 := blk_frozen BO.out 0
   have f1 := blk_frozen BO.out 1
   go_wp2
   refine bodyPost_ret (results_ct rfl _ _ (w.heap.size + 3) 28 #[.int .i64 0, .slice none 0 0] (0, 0) _ rfl (by refine blk_put (cs := #[.int .i64 0, .slice none 0 0]) ?_ 1 _ rfl; refine blk_put (cs := #[.int .i64 0, .slice none 0 0]) ?_ 0 _ rfl; exact BO.out) Try.underlying28 rfl (by kernel_rfl)) rfl ?_
   exact ⟨_, rfl, Kd.S_nil _ _ _ _ _, below_set (below_set HB.out GE.out) GE.out⟩
  | true =>
   rw [if_pos rfl] at h
   obtain ⟨sm, hsm⟩ : ∃ s : Int, wrap64 (n1 + n2) = s := ⟨_, rfl⟩
   rw [hsm] at h
   have hsmw : IntKind.i64.wrap (n1 + n2) = sm := (i64_w _).trans hsm
   by_cases c9 : sm > 9
   ·rw [if_pos c9] at h
    simp only [Option.some.injEq, Prod.mk.injEq] at h
    obtain ⟨rfl, rfl, rfl⟩ := h
    have c9b : decide (9 < sm) = true := decide_eq_true c9
    clear c9
    go_enter Try.func94, Try.ntmps94
    go_wp2_with fail
    refine (impl_IsGame.calls k n1 A1 c1 l1 true _ (Kd.C_below HR1.out HB.out) HC1.out FT1.out).mono ?_
    rintro e w1 ⟨rfl, hb⟩
    replace HB := Aside0.mk (HB.out.trans (hb.mono HB.out.size))
    replace BG := Aside0.mk (blk_below BG.out hb)
    replace BH := Aside0.mk (blk_below BH.out hb)
    replace BF := Aside0.mk (blk_below BF.out hb)
    replace BO := Aside0.mk (blk_below BO.out hb)
    clear hb
    have h_0 := (blk_cell BH.out 0).trans rfl
    have h_1 := (blk_cell BH.out 1).trans rfl
    go_wp2_with fail
    refine (impl_IsGame.calls k n2 A2 c2 l2 true _ (Kd.C_below HR2.out HB.out) HC2.out FT2.out).mono ?_
    rintro e w2 ⟨rfl, hb⟩
    replace HB := Aside0.mk (HB.out.trans (hb.mono HB.out.size))
    replace BG := Aside0.mk (blk_below BG.out hb)
    replace BH := Aside0.mk (blk_below BH.out hb)
    replace BF := Aside0.mk (blk_below BF.out hb)
    replace BO := Aside0.mk (blk_below BO.out hb)
    clear hb
    clear h_0 h_1
    have g_0 := (blk_cell BG.out 0).trans rfl
    have g_1 := (blk_cell BG.out 1).trans rfl
    have h_0 := (blk_cell BH.out 0).trans rfl
    have h_1 := (blk_cell BH.out 1).trans rfl
    have zo0 := (blk_cell BO.out 0).trans rfl
    have zo1 := (blk_cell BO.out 1).trans rfl
    have f0 := blk_frozen BO.out 0
    have f1 := blk_frozen BO.out 1
    go_wp2
    refine bodyPost_ret (results_ct rfl _ _ (w.heap.size + 3) 28 #[.int .i64 0, .slice none 0 0] (0, 0) _ rfl (by refine blk_put (cs := #[.int .i64 0, .slice none 0 0]) ?_ 1 _ rfl; refine blk_put (cs := #[.int .i64 0, .slice none 0 0]) ?_ 0 _ rfl; exact BO.out) Try.underlying28 rfl (by kernel_rfl)) rfl ?_
    exact ⟨_, rfl, Kd.S_nil _ _ _ _ _, below_set (below_set HB.out GE.out) GE.out⟩
   rw [if_neg c9] at h
   have c9b : decide (9 < sm) = false := decide_eq_false c9
   clear c9
   obtain ⟨⟨v1, v2⟩, hv, h⟩ := oB h
   obtain ⟨⟨u1, u2⟩, hu, h⟩ := oB h
   obtain ⟨⟨o1, o2⟩, ho, h⟩ := oB h
   obtain ⟨⟨p1, p2⟩, hp, h⟩ := oB h
   simp only [Option.some.injEq, Prod.mk.injEq] at h
   obtain ⟨rfl, rfl, rfl⟩ := h
   have FV := Aside0.mk hv
   have FU := Aside0.mk hu
   have FO := Aside0.mk ho
   have FP := Aside0.mk hp
   clear hv hu ho hp
   go_enter Try.func94, Try.ntmps94
   go_wp2_with fail
   refine (impl_IsGame.calls k n1 A1 c1 l1 true _ (Kd.C_below HR1.out HB.out) HC1.out FT1.out).mono ?_
   rintro e w1 ⟨rfl, hb⟩
   replace HB := Aside0.mk (HB.out.trans (hb.mono HB.out.size))
   replace BG := Aside0.mk (blk_below BG.out hb)
   replace BH := Aside0.mk (blk_below BH.out hb)
   replace BF := Aside0.mk (blk_below BF.out hb)
   replace BO := Aside0.mk (blk_below BO.out hb)
   clear hb
   have h_0 := (blk_cell BH.out 0).trans rfl
   have h_1 := (blk_cell BH.out 1).trans rfl
   go_wp2_with fail
   refine (impl_IsGame.calls k n2 A2 c2 l2 true _ (Kd.C_below HR2.out HB.out) HC2.out FT2.out).mono ?_
   rintro e w2 ⟨rfl, hb⟩
   replace HB := Aside0.mk (HB.out.trans (hb.mono HB.out.size))
   replace BG := Aside0.mk (blk_below BG.out hb)
   replace BH := Aside0.mk (blk_below BH.out hb)
   replace BF := Aside0.mk (blk_below BF.out hb)
   replace BO := Aside0.mk (blk_below BO.out hb)
   clear hb
   clear h_0 h_1
   have g_0 := (blk_cell BG.out 0).trans rfl
   have g_1 := (blk_cell BG.out 1).trans rfl
   have h_0 := (blk_cell BH.out 0).trans rfl
   have h_1 := (blk_cell BH.out 1).trans rfl
   go_wp2
   clear g_0 g_1 h_0 h_1
   have n0_ := Aside0.mk (below_drew1 HB.out)
   have n1_ := Aside0.mk (blk_drew BG.out)
   have n2_ := Aside0.mk (blk_drew BH.out)
   have n3_ := Aside0.mk (blk_drew BF.out)
   have n4_ := Aside0.mk (blk_drew BO.out)
   clear HB BG BH BF BO
   have HB := n0_
   have BG := n1_
   have BH := n2_
   have BF := n3_
   have BO := n4_
   clear n0_ n1_ n2_ n3_ n4_
   refine start_ (n := 8) (S := fun w' => w'.cell? ⟨w.heap.size, 0, none⟩ = some (.int .i64 n1) ∧ w'.cell? ⟨w.heap.size, 1, none⟩ = some (.slice A1 l1.length c1) ∧ w'.cell? ⟨w.heap.size + 1, 0, none⟩ = some (.int .i64 n2) ∧ w'.cell? ⟨w.heap.size + 1, 1, none⟩ = some (.slice A2 l2.length c2)) (ds := []) #[false, false, false, false, false, false, false, false] (by kernel_rfl) rfl rfl ⟨(blk_cell BG.out 0).trans rfl, (blk_cell BG.out 1).trans rfl, (blk_cell BH.out 0).trans rfl, (blk_cell BH.out 1).trans rfl⟩ (fun hHeld => ?_); refine with_tabW impl_joinGames.tab3 impl_joinGames.bits3 (fun HT_ HW_ => ?_)
   generalize w2.drew = wj0 at HB BG BH BF BO hHeld ⊢
   have HW0 := Aside0.mk (Below.refl wj0.heap.size wj0)
   have HG0 := Aside0.mk (show w.heap.size + 3 < wj0.heap.size from blk_lt BO.out)
   refine take_ (i := 0) (N := some 27) (v := ?_) (a' := ?_) #[true, false, false, false, false, false, false, false] rfl rfl (take_ofW HT_.out HW_.out (by kernel_rfl)) (fun _ _ _ h => h) (Or.inl ⟨by rfl, ?_⟩) hHeld ?_ ?_
   rotate_left
   ·rintro w' ⟨s0, s1, s2, s3⟩
    go_simp
    with_reducible rfl
   rotate_left
   ·simp only [putAll, Act.put, sA, sZ, sS, i64_w, i32_w]
    rfl
   refine take_ (i := 2) (N := some 29) (v := ?_) (a' := ?_) #[true, false, true, false, false, false, false, false] rfl rfl (take_ofW HT_.out HW_.out (by kernel_rfl)) (fun _ _ _ h => h) (Or.inl ⟨by rfl, ?_⟩) hHeld ?_ ?_
   rotate_left
   ·rintro w' ⟨s0, s1, s2, s3⟩
    go_simp
    with_reducible rfl
   rotate_left
   ·simp only [putAll, Act.put, sA, sZ, sS, i64_w, i32_w]
    rfl
   refine join_ (σ := (Option Addr) × (Nat) × (Option Addr) × (Nat) × (Nat) × (Nat) × Unit) 2 #[true, true, true, true, true, true, false, false] (fun s_ => match s_ with | (AV, cV, AU, cU, b8, b9, _u) => [(28, .agg #[.int .i64 v1, .slice AV v2.length cV]), (30, .agg #[.int .i64 u1, .slice AU u2.length cU]), (8, .pointer (some ⟨b8, 0, none⟩)), (9, .pointer (some ⟨b9, 0, none⟩))]) (fun s_ w' => match s_ with | (AV, cV, AU, cU, b8, b9, _u) => (Aside0 (Below wj0.heap.size wj0 w') ∧ Aside0 (Kd.R Kd.bool 4 w' w.heap.size (fun _ => True) (.slice AV v2.length cV) v2) ∧ Aside0 (Kd.R Kd.bool 4 w' w.heap.size (fun _ => True) (.slice AU u2.length cU) u2) ∧ Aside0 (w'.heap[b8]? = some (.cells #[.int .i64 0, .slice none 0 0] 69 (0, 0))) ∧ Aside0 (wj0.heap.size ≤ b8) ∧ Aside0 (w'.heap[b9]? = some (.cells #[.int .i64 0, .slice none 0 0] 69 (0, 0))) ∧ Aside0 (wj0.heap.size ≤ b9) ∧ Aside0 (b8 ≠ b9))) ?_ ?_
   rotate_left
   ·intro hCj_2_01
    refine join_ (σ := (Option Addr) × (Nat) × (Nat) × (Nat) × Unit) 3 #[true, true, true, false, true, true, false, false] (fun s_ => match s_ with | (AV, cV, b8, b9, _u) => [(28, .agg #[.int .i64 v1, .slice AV v2.length cV]), (8, .pointer (some ⟨b8, 0, none⟩)), (9, .pointer (some ⟨b9, 0, none⟩))]) (fun s_ w' => match s_ with | (AV, cV, b8, b9, _u) => (Aside0 (Below wj0.heap.size wj0 w') ∧ Aside0 (Kd.R Kd.bool 4 w' w.heap.size (fun _ => True) (.slice AV v2.length cV) v2) ∧ Aside0 (w'.heap[b8]? = some (.cells #[.int .i64 0, .slice none 0 0] 69 (0, 0))) ∧ Aside0 (wj0.heap.size ≤ b8) ∧ Aside0 (w'.heap[b9]? = some (.cells #[.int .i64 0, .slice none 0 0] 69 (0, 0))) ∧ Aside0 (wj0.heap.size ≤ b9) ∧ Aside0 (b8 ≠ b9))) ?_ ?_
    ·skip
     clear HW0
     rintro ⟨AV, cV, b8, b9, _u⟩ wjj1_01 ⟨HW0, OV, BK_b8, GE_b8, BK_b9, GE_b9, NE_b8_b9⟩
     refine norm_ (a' := ?_) ?_ ?_
     rotate_left
     ·simp only [putAll, Act.put, sA, sZ, sS, i64_w, i32_w]
      rfl
     refine one_ (i := 3) (N := some 30) #[true, true, true, true, true, true, false, false] rfl rfl (one_of HT_.out (by kernel_rfl)) (by decide) (fun K hK => ?_)
     refine goes_ Try.func59 (by kernel_rfl) rfl #[.agg #[.int .i64 n2, .slice A2 l2.length c2]] (by rfl) rfl rfl (by (try simp only [mA, mC, mN]); first | done | rfl) ?_
     refine (impl_Game_votes.calls k n2 A2 c2 l2 u1 u2 _ (Kd.C_below HR2.out (HB.out.trans (HW0.out.mono HB.out.size))) HC2.out FU.out).mono ?_
     rintro e wjj1_01c ⟨u_, rfl, hO, hb⟩
     obtain ⟨AU, cU, rfl⟩ := Kd.R_slice hO
     refine ⟨_, rfl, ?_⟩
     have OU := Aside0.mk (Kd.R_lower hO (HB.out.trans (HW0.out.mono HB.out.size)).size)
     replace HW0 := Aside0.mk (HW0.out.trans (hb.mono HW0.out.size))
     replace OV := Aside0.mk (Kd.R_below OV.out hb)
     replace BK_b8 := Aside0.mk (blk_below BK_b8.out hb)
     replace BK_b9 := Aside0.mk (blk_below BK_b9.out hb)
     clear hb hO
     refine hK.out _ _ ⟨(blk_cell (blk_below BG.out HW0.out) 0).trans rfl, (blk_cell (blk_below BG.out HW0.out) 1).trans rfl, (blk_cell (blk_below BH.out HW0.out) 0).trans rfl, (blk_cell (blk_below BH.out HW0.out) 1).trans rfl⟩ (fun _ => ?_)
     clear hK K
     refine norm_ (a' := ?_) ?_ ?_
     rotate_left
     ·show Act.put _ (some 30) _ = _
      simp only [putAll, Act.put, sA, sZ, sS, i64_w, i32_w]
      rfl
     exact norm_ (by simp only [putAll, Act.put, sA, sZ, sS, i64_w, i32_w]) (hCj_2_01 (AV, cV, AU, cU, b8, b9, ()) _ ⟨HW0, OV, OU, BK_b8, GE_b8, BK_b9, GE_b9, NE_b8_b9⟩)
    intro hCj_1_01
    refine join_ (σ := (Option Addr) × (Nat) × (Option Addr) × (Nat) × (Nat) × Unit) 3 #[true, true, true, true, true, false, false, false] (fun s_ => match s_ with | (AV, cV, AU, cU, b8, _u) => [(28, .agg #[.int .i64 v1, .slice AV v2.length cV]), (30, .agg #[.int .i64 u1, .slice AU u2.length cU]), (8, .pointer (some ⟨b8, 0, none⟩))]) (fun s_ w' => match s_ with | (AV, cV, AU, cU, b8, _u) => (Aside0 (Below wj0.heap.size wj0 w') ∧ Aside0 (Kd.R Kd.bool 4 w' w.heap.size (fun _ => True) (.slice AV v2.length cV) v2) ∧ Aside0 (Kd.R Kd.bool 4 w' w.heap.size (fun _ => True) (.slice AU u2.length cU) u2) ∧ Aside0 (w'.heap[b8]? = some (.cells #[.int .i64 0, .slice none 0 0] 69 (0, 0))) ∧ Aside0 (wj0.heap.size ≤ b8))) ?_ ?_
    ·skip
     clear HW0
     rintro ⟨AV, cV, AU, cU, b8, _u⟩ wjj2_0 ⟨HW0, OV, OU, BK_b8, GE_b8⟩
     refine norm_ (a' := ?_) ?_ ?_
     rotate_left
     ·simp only [putAll, Act.put, sA, sZ, sS, i64_w, i32_w]
      rfl
     refine one_ (i := 5) (N := some 9) #[true, true, true, true, true, true, false, false] rfl rfl (one_of HT_.out (by kernel_rfl)) (by decide) (fun K hK => ?_)
     refine box_step ?hg (N := 9) ?hd (cs := #[.int .i64 0, .slice none 0 0]) (t := 69) ?hr ?_; (case hd => rfl); (case hg => rfl); (case hr => first | (go_simp; done) | (go_simp; rfl))
     intro b9 hg wjj2_0b hbox hb
     have BK_b9 := Aside0.mk hbox
     have GE_b9 : Aside0 (wj0.heap.size ≤ b9) := ⟨by rw [hg]; exact HW0.out.size⟩
     have NE_b8_b9 : Aside0 (b8 ≠ b9) := ⟨by rw [hg]; exact Nat.ne_of_lt (blk_lt BK_b8.out)⟩
     replace HW0 := Aside0.mk (HW0.out.trans (hb.mono HW0.out.size))
     replace OV := Aside0.mk (Kd.R_below OV.out hb)
     replace OU := Aside0.mk (Kd.R_below OU.out hb)
     replace BK_b8 := Aside0.mk (blk_below BK_b8.out hb)
     clear hb hbox hg
     refine hK.out _ _ ⟨(blk_cell (blk_below BG.out HW0.out) 0).trans rfl, (blk_cell (blk_below BG.out HW0.out) 1).trans rfl, (blk_cell (blk_below BH.out HW0.out) 0).trans rfl, (blk_cell (blk_below BH.out HW0.out) 1).trans rfl⟩ (fun _ => ?_)
     clear hK K
     refine norm_ (a' := ?_) ?_ ?_
     rotate_left
     ·show Act.put _ (some 9) _ = _
      simp only [putAll, Act.put, sA, sZ, sS, i64_w, i32_w]
      rfl
     exact norm_ (by simp only [putAll, Act.put, sA, sZ, sS, i64_w, i32_w]) (hCj_2_01 (AV, cV, AU, cU, b8, b9, ()) _ ⟨HW0, OV, OU, BK_b8, GE_b8, BK_b9, GE_b9, NE_b8_b9⟩)
    intro hCj_2_0
    refine join_ (σ := (Option Addr) × (Nat) × (Option Addr) × (Nat) × (Nat) × Unit) 3 #[true, true, true, true, false, true, false, false] (fun s_ => match s_ with | (AV, cV, AU, cU, b9, _u) => [(28, .agg #[.int .i64 v1, .slice AV v2.length cV]), (30, .agg #[.int .i64 u1, .slice AU u2.length cU]), (9, .pointer (some ⟨b9, 0, none⟩))]) (fun s_ w' => match s_ with | (AV, cV, AU, cU, b9, _u) => (Aside0 (Below wj0.heap.size wj0 w') ∧ Aside0 (Kd.R Kd.bool 4 w' w.heap.size (fun _ => True) (.slice AV v2.length cV) v2) ∧ Aside0 (Kd.R Kd.bool 4 w' w.heap.size (fun _ => True) (.slice AU u2.length cU) u2) ∧ Aside0 (w'.heap[b9]? = some (.cells #[.int .i64 0, .slice none 0 0] 69 (0, 0))) ∧ Aside0 (wj0.heap.size ≤ b9))) ?_ ?_
    ·skip
     clear HW0
     rintro ⟨AV, cV, AU, cU, b9, _u⟩ wjj2_1 ⟨HW0, OV, OU, BK_b9, GE_b9⟩
     refine norm_ (a' := ?_) ?_ ?_
     rotate_left
     ·simp only [putAll, Act.put, sA, sZ, sS, i64_w, i32_w]
      rfl
     refine one_ (i := 4) (N := some 8) #[true, true, true, true, true, true, false, false] rfl rfl (one_of HT_.out (by kernel_rfl)) (by decide) (fun K hK => ?_)
     refine box_step ?hg (N := 8) ?hd (cs := #[.int .i64 0, .slice none 0 0]) (t := 69) ?hr ?_; (case hd => rfl); (case hg => rfl); (case hr => first | (go_simp; done) | (go_simp; rfl))
     intro b8 hg wjj2_1b hbox hb
     have BK_b8 := Aside0.mk hbox
     have GE_b8 : Aside0 (wj0.heap.size ≤ b8) := ⟨by rw [hg]; exact HW0.out.size⟩
     have NE_b8_b9 : Aside0 (b8 ≠ b9) := ⟨by rw [hg]; exact Nat.ne_of_gt (blk_lt BK_b9.out)⟩
     replace HW0 := Aside0.mk (HW0.out.trans (hb.mono HW0.out.size))
     replace OV := Aside0.mk (Kd.R_below OV.out hb)
     replace OU := Aside0.mk (Kd.R_below OU.out hb)
     replace BK_b9 := Aside0.mk (blk_below BK_b9.out hb)
     clear hb hbox hg
     refine hK.out _ _ ⟨(blk_cell (blk_below BG.out HW0.out) 0).trans rfl, (blk_cell (blk_below BG.out HW0.out) 1).trans rfl, (blk_cell (blk_below BH.out HW0.out) 0).trans rfl, (blk_cell (blk_below BH.out HW0.out) 1).trans rfl⟩ (fun _ => ?_)
     clear hK K
     refine norm_ (a' := ?_) ?_ ?_
     rotate_left
     ·show Act.put _ (some 8) _ = _
      simp only [putAll, Act.put, sA, sZ, sS, i64_w, i32_w]
      rfl
     exact norm_ (by simp only [putAll, Act.put, sA, sZ, sS, i64_w, i32_w]) (hCj_2_01 (AV, cV, AU, cU, b8, b9, ()) _ ⟨HW0, OV, OU, BK_b8, GE_b8, BK_b9, GE_b9, NE_b8_b9⟩)
    intro hCj_2_1
    refine join_ (σ := (Nat) × (Nat) × Unit) 4 #[true, false, true, false, true, true, false, false] (fun s_ => match s_ with | (b8, b9, _u) => [(8, .pointer (some ⟨b8, 0, none⟩)), (9, .pointer (some ⟨b9, 0, none⟩))]) (fun s_ w' => match s_ with | (b8, b9, _u) => (Aside0 (Below wj0.heap.size wj0 w') ∧ Aside0 (w'.heap[b8]? = some (.cells #[.int .i64 0, .slice none 0 0] 69 (0, 0))) ∧ Aside0 (wj0.heap.size ≤ b8) ∧ Aside0 (w'.heap[b9]? = some (.cells #[.int .i64 0, .slice none 0 0] 69 (0, 0))) ∧ Aside0 (wj0.heap.size ≤ b9) ∧ Aside0 (b8 ≠ b9))) ?_ ?_
    ·skip
     clear HW0
     rintro ⟨b8, b9, _u⟩ wjj0_01 ⟨HW0, BK_b8, GE_b8, BK_b9, GE_b9, NE_b8_b9⟩
     refine norm_ (a' := ?_) ?_ ?_
     rotate_left
     ·simp only [putAll, Act.put, sA, sZ, sS, i64_w, i32_w]
      rfl
     refine one_ (i := 1) (N := some 28) #[true, true, true, false, true, true, false, false] rfl rfl (one_of HT_.out (by kernel_rfl)) (by decide) (fun K hK => ?_)
     refine goes_ Try.func59 (by kernel_rfl) rfl #[.agg #[.int .i64 n1, .slice A1 l1.length c1]] (by rfl) rfl rfl (by (try simp only [mA, mC, mN]); first | done | rfl) ?_
     refine (impl_Game_votes.calls k n1 A1 c1 l1 v1 v2 _ (Kd.C_below HR1.out (HB.out.trans (HW0.out.mono HB.out.size))) HC1.out FV.out).mono ?_
     rintro e wjj0_01c ⟨u_, rfl, hO, hb⟩
     obtain ⟨AV, cV, rfl⟩ := Kd.R_slice hO
     refine ⟨_, rfl, ?_⟩
     have OV := Aside0.mk (Kd.R_lower hO (HB.out.trans (HW0.out.mono HB.out.size)).size)
     replace HW0 := Aside0.mk (HW0.out.trans (hb.mono HW0.out.size))
     replace BK_b8 := Aside0.mk (blk_below BK_b8.out hb)
     replace BK_b9 := Aside0.mk (blk_below BK_b9.out hb)
     clear hb hO
     refine hK.out _ _ ⟨(blk_cell (blk_below BG.out HW0.out) 0).trans rfl, (blk_cell (blk_below BG.out HW0.out) 1).trans rfl, (blk_cell (blk_below BH.out HW0.out) 0).trans rfl, (blk_cell (blk_below BH.out HW0.out) 1).trans rfl⟩ (fun _ => ?_)
     clear hK K
     refine norm_ (a' := ?_) ?_ ?_
     rotate_left
     ·show Act.put _ (some 28) _ = _
      simp only [putAll, Act.put, sA, sZ, sS, i64_w, i32_w]
      rfl
     exact norm_ (by simp only [putAll, Act.put, sA, sZ, sS, i64_w, i32_w]) (hCj_1_01 (AV, cV, b8, b9, ()) _ ⟨HW0, OV, BK_b8, GE_b8, BK_b9, GE_b9, NE_b8_b9⟩)
    intro hCj_0_01
    refine join_ (σ := (Option Addr) × (Nat) × (Nat) × Unit) 4 #[true, true, true, false, true, false, false, false] (fun s_ => match s_ with | (AV, cV, b8, _u) => [(28, .agg #[.int .i64 v1, .slice AV v2.length cV]), (8, .pointer (some ⟨b8, 0, none⟩))]) (fun s_ w' => match s_ with | (AV, cV, b8, _u) => (Aside0 (Below wj0.heap.size wj0 w') ∧ Aside0 (Kd.R Kd.bool 4 w' w.heap.size (fun _ => True) (.slice AV v2.length cV) v2) ∧ Aside0 (w'.heap[b8]? = some (.cells #[.int .i64 0, .slice none 0 0] 69 (0, 0))) ∧ Aside0 (wj0.heap.size ≤ b8))) ?_ ?_
    ·skip
     clear HW0
     rintro ⟨AV, cV, b8, _u⟩ wjj1_0 ⟨HW0, OV, BK_b8, GE_b8⟩
     refine norm_ (a' := ?_) ?_ ?_
     rotate_left
     ·simp only [putAll, Act.put, sA, sZ, sS, i64_w, i32_w]
      rfl
     refine two_ (i := 3) (j := 5) (Ni := some 30) (Nj := some 9) #[true, true, true, true, true, false, false, false] #[true, true, true, false, true, true, false, false] rfl rfl rfl rfl (two_of HT_.out (by kernel_rfl)) (by decide) (by decide) (fun K hK => ?_) (fun K hK => ?_)
     ·skip
      refine goes_ Try.func59 (by kernel_rfl) rfl #[.agg #[.int .i64 n2, .slice A2 l2.length c2]] (by rfl) rfl rfl (by (try simp only [mA, mC, mN]); first | done | rfl) ?_
      refine (impl_Game_votes.calls k n2 A2 c2 l2 u1 u2 _ (Kd.C_below HR2.out (HB.out.trans (HW0.out.mono HB.out.size))) HC2.out FU.out).mono ?_
      rintro e wjj1_0c ⟨u_, rfl, hO, hb⟩
      obtain ⟨AU, cU, rfl⟩ := Kd.R_slice hO
      refine ⟨_, rfl, ?_⟩
      have OU := Aside0.mk (Kd.R_lower hO (HB.out.trans (HW0.out.mono HB.out.size)).size)
      replace HW0 := Aside0.mk (HW0.out.trans (hb.mono HW0.out.size))
      replace OV := Aside0.mk (Kd.R_below OV.out hb)
      replace BK_b8 := Aside0.mk (blk_below BK_b8.out hb)
      clear hb hO
      refine hK.out _ _ ⟨(blk_cell (blk_below BG.out HW0.out) 0).trans rfl, (blk_cell (blk_below BG.out HW0.out) 1).trans rfl, (blk_cell (blk_below BH.out HW0.out) 0).trans rfl, (blk_cell (blk_below BH.out HW0.out) 1).trans rfl⟩ (fun _ => ?_)
      clear hK K
      refine norm_ (a' := ?_) ?_ ?_
      rotate_left
      ·show Act.put _ (some 30) _ = _
       simp only [putAll, Act.put, sA, sZ, sS, i64_w, i32_w]
       rfl
      exact norm_ (by simp only [putAll, Act.put, sA, sZ, sS, i64_w, i32_w]) (hCj_2_0 (AV, cV, AU, cU, b8, ()) _ ⟨HW0, OV, OU, BK_b8, GE_b8⟩)
     ·skip
      refine box_step ?hg (N := 9) ?hd (cs := #[.int .i64 0, .slice none 0 0]) (t := 69) ?hr ?_; (case hd => rfl); (case hg => rfl); (case hr => first | (go_simp; done) | (go_simp; rfl))
      intro b9 hg wjj1_0b hbox hb
      have BK_b9 := Aside0.mk hbox
      have GE_b9 : Aside0 (wj0.heap.size ≤ b9) := ⟨by rw [hg]; exact HW0.out.size⟩
      have NE_b8_b9 : Aside0 (b8 ≠ b9) := ⟨by rw [hg]; exact Nat.ne_of_lt (blk_lt BK_b8.out)⟩
      replace HW0 := Aside0.mk (HW0.out.trans (hb.mono HW0.out.size))
      replace OV := Aside0.mk (Kd.R_below OV.out hb)
      replace BK_b8 := Aside0.mk (blk_below BK_b8.out hb)
      clear hb hbox hg
      refine hK.out _ _ ⟨(blk_cell (blk_below BG.out HW0.out) 0).trans rfl, (blk_cell (blk_below BG.out HW0.out) 1).trans rfl, (blk_cell (blk_below BH.out HW0.out) 0).trans rfl, (blk_cell (blk_below BH.out HW0.out) 1).trans rfl⟩ (fun _ => ?_)
      clear hK K
      refine norm_ (a' := ?_) ?_ ?_
      rotate_left
      ·show Act.put _ (some 9) _ = _
       simp only [putAll, Act.put, sA, sZ, sS, i64_w, i32_w]
       rfl
      exact norm_ (by simp only [putAll, Act.put, sA, sZ, sS, i64_w, i32_w]) (hCj_1_01 (AV, cV, b8, b9, ()) _ ⟨HW0, OV, BK_b8, GE_b8, BK_b9, GE_b9, NE_b8_b9⟩)
    intro hCj_1_0
    refine join_ (σ := (Option Addr) × (Nat) × (Nat) × Unit) 4 #[true, true, true, false, false, true, false, false] (fun s_ => match s_ with | (AV, cV, b9, _u) => [(28, .agg #[.int .i64 v1, .slice AV v2.length cV]), (9, .pointer (some ⟨b9, 0, none⟩))]) (fun s_ w' => match s_ with | (AV, cV, b9, _u) => (Aside0 (Below wj0.heap.size wj0 w') ∧ Aside0 (Kd.R Kd.bool 4 w' w.heap.size (fun _ => True) (.slice AV v2.length cV) v2) ∧ Aside0 (w'.heap[b9]? = some (.cells #[.int .i64 0, .slice none 0 0] 69 (0, 0))) ∧ Aside0 (wj0.heap.size ≤ b9))) ?_ ?_
    ·skip
     clear HW0
     rintro ⟨AV, cV, b9, _u⟩ wjj1_1 ⟨HW0, OV, BK_b9, GE_b9⟩
     refine norm_ (a' := ?_) ?_ ?_
     rotate_left
     ·simp only [putAll, Act.put, sA, sZ, sS, i64_w, i32_w]
      rfl
     refine two_ (i := 3) (j := 4) (Ni := some 30) (Nj := some 8) #[true, true, true, true, false, true, false, false] #[true, true, true, false, true, true, false, false] rfl rfl rfl rfl (two_of HT_.out (by kernel_rfl)) (by decide) (by decide) (fun K hK => ?_) (fun K hK => ?_)
     ·skip
      refine goes_ Try.func59 (by kernel_rfl) rfl #[.agg #[.int .i64 n2, .slice A2 l2.length c2]] (by rfl) rfl rfl (by (try simp only [mA, mC, mN]); first | done | rfl) ?_
      refine (impl_Game_votes.calls k n2 A2 c2 l2 u1 u2 _ (Kd.C_below HR2.out (HB.out.trans (HW0.out.mono HB.out.size))) HC2.out FU.out).mono ?_
      rintro e wjj1_1c ⟨u_, rfl, hO, hb⟩
      obtain ⟨AU, cU, rfl⟩ := Kd.R_slice hO
      refine ⟨_, rfl, ?_⟩
      have OU := Aside0.mk (Kd.R_lower hO (HB.out.trans (HW0.out.mono HB.out.size)).size)
      replace HW0 := Aside0.mk (HW0.out.trans (hb.mono HW0.out.size))
      replace OV := Aside0.mk (Kd.R_below OV.out hb)
      replace BK_b9 := Aside0.mk (blk_below BK_b9.out hb)
      clear hb hO
      refine hK.out _ _ ⟨(blk_cell (blk_below BG.out HW0.out) 0).trans rfl, (blk_cell (blk_below BG.out HW0.out) 1).trans rfl, (blk_cell (blk_below BH.out HW0.out) 0).trans rfl, (blk_cell (blk_below BH.out HW0.out) 1).trans rfl⟩ (fun _ => ?_)
      clear hK K
      refine norm_ (a' := ?_) ?_ ?_
      rotate_left
      ·show Act.put _ (some 30) _ = _
       simp only [putAll, Act.put, sA, sZ, sS, i64_w, i32_w]
       rfl
      exact norm_ (by simp only [putAll, Act.put, sA, sZ, sS, i64_w, i32_w]) (hCj_2_1 (AV, cV, AU, cU, b9, ()) _ ⟨HW0, OV, OU, BK_b9, GE_b9⟩)
     ·skip
      refine box_step ?hg (N := 8) ?hd (cs := #[.int .i64 0, .slice none 0 0]) (t := 69) ?hr ?_; (case hd => rfl); (case hg => rfl); (case hr => first | (go_simp; done) | (go_simp; rfl))
      intro b8 hg wjj1_1b hbox hb
      have BK_b8 := Aside0.mk hbox
      have GE_b8 : Aside0 (wj0.heap.size ≤ b8) := ⟨by rw [hg]; exact HW0.out.size⟩
      have NE_b8_b9 : Aside0 (b8 ≠ b9) := ⟨by rw [hg]; exact Nat.ne_of_gt (blk_lt BK_b9.out)⟩
      replace HW0 := Aside0.mk (HW0.out.trans (hb.mono HW0.out.size))
      replace OV := Aside0.mk (Kd.R_below OV.out hb)
      replace BK_b9 := Aside0.mk (blk_below BK_b9.out hb)
      clear hb hbox hg
      refine hK.out _ _ ⟨(blk_cell (blk_below BG.out HW0.out) 0).trans rfl, (blk_cell (blk_below BG.out HW0.out) 1).trans rfl, (blk_cell (blk_below BH.out HW0.out) 0).trans rfl, (blk_cell (blk_below BH.out HW0.out) 1).trans rfl⟩ (fun _ => ?_)
      clear hK K
      refine norm_ (a' := ?_) ?_ ?_
      rotate_left
      ·show Act.put _ (some 8) _ = _
       simp only [putAll, Act.put, sA, sZ, sS, i64_w, i32_w]
       rfl
      exact norm_ (by simp only [putAll, Act.put, sA, sZ, sS, i64_w, i32_w]) (hCj_1_01 (AV, cV, b8, b9, ()) _ ⟨HW0, OV, BK_b8, GE_b8, BK_b9, GE_b9, NE_b8_b9⟩)
    intro hCj_1_1
    refine join_ (σ := (Option Addr) × (Nat) × (Option Addr) × (Nat) × Unit) 4 #[true, true, true, true, false, false, false, false] (fun s_ => match s_ with | (AV, cV, AU, cU, _u) => [(28, .agg #[.int .i64 v1, .slice AV v2.length cV]), (30, .agg #[.int .i64 u1, .slice AU u2.length cU])]) (fun s_ w' => match s_ with | (AV, cV, AU, cU, _u) => (Aside0 (Below wj0.heap.size wj0 w') ∧ Aside0 (Kd.R Kd.bool 4 w' w.heap.size (fun _ => True) (.slice AV v2.length cV) v2) ∧ Aside0 (Kd.R Kd.bool 4 w' w.heap.size (fun _ => True) (.slice AU u2.length cU) u2))) ?_ ?_
    ·skip
     clear HW0
     rintro ⟨AV, cV, AU, cU, _u⟩ wjj2_ ⟨HW0, OV, OU⟩
     refine norm_ (a' := ?_) ?_ ?_
     rotate_left
     ·simp only [putAll, Act.put, sA, sZ, sS, i64_w, i32_w]
      rfl
     refine two_ (i := 4) (j := 5) (Ni := some 8) (Nj := some 9) #[true, true, true, true, true, false, false, false] #[true, true, true, true, false, true, false, false] rfl rfl rfl rfl (two_of HT_.out (by kernel_rfl)) (by decide) (by decide) (fun K hK => ?_) (fun K hK => ?_)
     ·skip
      refine box_step ?hg (N := 8) ?hd (cs := #[.int .i64 0, .slice none 0 0]) (t := 69) ?hr ?_; (case hd => rfl); (case hg => rfl); (case hr => first | (go_simp; done) | (go_simp; rfl))
      intro b8 hg wjj2_b hbox hb
      have BK_b8 := Aside0.mk hbox
      have GE_b8 : Aside0 (wj0.heap.size ≤ b8) := ⟨by rw [hg]; exact HW0.out.size⟩
      replace HW0 := Aside0.mk (HW0.out.trans (hb.mono HW0.out.size))
      replace OV := Aside0.mk (Kd.R_below OV.out hb)
      replace OU := Aside0.mk (Kd.R_below OU.out hb)
      clear hb hbox hg
      refine hK.out _ _ ⟨(blk_cell (blk_below BG.out HW0.out) 0).trans rfl, (blk_cell (blk_below BG.out HW0.out) 1).trans rfl, (blk_cell (blk_below BH.out HW0.out) 0).trans rfl, (blk_cell (blk_below BH.out HW0.out) 1).trans rfl⟩ (fun _ => ?_)
      clear hK K
      refine norm_ (a' := ?_) ?_ ?_
      rotate_left
      ·show Act.put _ (some 8) _ = _
       simp only [putAll, Act.put, sA, sZ, sS, i64_w, i32_w]
       rfl
      exact norm_ (by simp only [putAll, Act.put, sA, sZ, sS, i64_w, i32_w]) (hCj_2_0 (AV, cV, AU, cU, b8, ()) _ ⟨HW0, OV, OU, BK_b8, GE_b8⟩)
     ·skip
      refine box_step ?hg (N := 9) ?hd (cs := #[.int .i64 0, .slice none 0 0]) (t := 69) ?hr ?_; (case hd => rfl); (case hg => rfl); (case hr => first | (go_simp; done) | (go_simp; rfl))
      intro b9 hg wjj2_b hbox hb
      have BK_b9 := Aside0.mk hbox
      have GE_b9 : Aside0 (wj0.heap.size ≤ b9) := ⟨by rw [hg]; exact HW0.out.size⟩
      replace HW0 := Aside0.mk (HW0.out.trans (hb.mono HW0.out.size))
      replace OV := Aside0.mk (Kd.R_below OV.out hb)
      replace OU := Aside0.mk (Kd.R_below OU.out hb)
      clear hb hbox hg
      refine hK.out _ _ ⟨(blk_cell (blk_below BG.out HW0.out) 0).trans rfl, (blk_cell (blk_below BG.out HW0.out) 1).trans rfl, (blk_cell (blk_below BH.out HW0.out) 0).trans rfl, (blk_cell (blk_below BH.out HW0.out) 1).trans rfl⟩ (fun _ => ?_)
      clear hK K
      refine norm_ (a' := ?_) ?_ ?_
      rotate_left
      ·show Act.put _ (some 9) _ = _
       simp only [putAll, Act.put, sA, sZ, sS, i64_w, i32_w]
       rfl
      exact norm_ (by simp only [putAll, Act.put, sA, sZ, sS, i64_w, i32_w]) (hCj_2_1 (AV, cV, AU, cU, b9, ()) _ ⟨HW0, OV, OU, BK_b9, GE_b9⟩)
    intro hCj_2_
    refine join_ (σ := (Nat) × Unit) 5 #[true, false, true, false, true, false, false, false] (fun s_ => match s_ with | (b8, _u) => [(8, .pointer (some ⟨b8, 0, none⟩))]) (fun s_ w' => match s_ with | (b8, _u) => (Aside0 (Below wj0.heap.size wj0 w') ∧ Aside0 (w'.heap[b8]? = some (.cells #[.int .i64 0, .slice none 0 0] 69 (0, 0))) ∧ Aside0 (wj0.heap.size ≤ b8))) ?_ ?_
    ·skip
     clear HW0
     rintro ⟨b8, _u⟩ wjj0_0 ⟨HW0, BK_b8, GE_b8⟩
     refine norm_ (a' := ?_) ?_ ?_
     rotate_left
     ·simp only [putAll, Act.put, sA, sZ, sS, i64_w, i32_w]
      rfl
     refine two_ (i := 1) (j := 5) (Ni := some 28) (Nj := some 9) #[true, true, true, false, true, false, false, false] #[true, false, true, false, true, true, false, false] rfl rfl rfl rfl (two_of HT_.out (by kernel_rfl)) (by decide) (by decide) (fun K hK => ?_) (fun K hK => ?_)
     ·skip
      refine goes_ Try.func59 (by kernel_rfl) rfl #[.agg #[.int .i64 n1, .slice A1 l1.length c1]] (by rfl) rfl rfl (by (try simp only [mA, mC, mN]); first | done | rfl) ?_
      refine (impl_Game_votes.calls k n1 A1 c1 l1 v1 v2 _ (Kd.C_below HR1.out (HB.out.trans (HW0.out.mono HB.out.size))) HC1.out FV.out).mono ?_
      rintro e wjj0_0c ⟨u_, rfl, hO, hb⟩
      obtain ⟨AV, cV, rfl⟩ := Kd.R_slice hO
      refine ⟨_, rfl, ?_⟩
      have OV := Aside0.mk (Kd.R_lower hO (HB.out.trans (HW0.out.mono HB.out.size)).size)
      replace HW0 := Aside0.mk (HW0.out.trans (hb.mono HW0.out.size))
      replace BK_b8 := Aside0.mk (blk_below BK_b8.out hb)
      clear hb hO
      refine hK.out _ _ ⟨(blk_cell (blk_below BG.out HW0.out) 0).trans rfl, (blk_cell (blk_below BG.out HW0.out) 1).trans rfl, (blk_cell (blk_below BH.out HW0.out) 0).trans rfl, (blk_cell (blk_below BH.out HW0.out) 1).trans rfl⟩ (fun _ => ?_)
      clear hK K
      refine norm_ (a' := ?_) ?_ ?_
      rotate_left
      ·show Act.put _ (some 28) _ = _
       simp only [putAll, Act.put, sA, sZ, sS, i64_w, i32_w]
       rfl
      exact norm_ (by simp only [putAll, Act.put, sA, sZ, sS, i64_w, i32_w]) (hCj_1_0 (AV, cV, b8, ()) _ ⟨HW0, OV, BK_b8, GE_b8⟩)
     ·skip
      refine box_step ?hg (N := 9) ?hd (cs := #[.int .i64 0, .slice none 0 0]) (t := 69) ?hr ?_; (case hd => rfl); (case hg => rfl); (case hr => first | (go_simp; done) | (go_simp; rfl))
      intro b9 hg wjj0_0b hbox hb
      have BK_b9 := Aside0.mk hbox
      have GE_b9 : Aside0 (wj0.heap.size ≤ b9) := ⟨by rw [hg]; exact HW0.out.size⟩
      have NE_b8_b9 : Aside0 (b8 ≠ b9) := ⟨by rw [hg]; exact Nat.ne_of_lt (blk_lt BK_b8.out)⟩
      replace HW0 := Aside0.mk (HW0.out.trans (hb.mono HW0.out.size))
      replace BK_b8 := Aside0.mk (blk_below BK_b8.out hb)
      clear hb hbox hg
      refine hK.out _ _ ⟨(blk_cell (blk_below BG.out HW0.out) 0).trans rfl, (blk_cell (blk_below BG.out HW0.out) 1).trans rfl, (blk_cell (blk_below BH.out HW0.out) 0).trans rfl, (blk_cell (blk_below BH.out HW0.out) 1).trans rfl⟩ (fun _ => ?_)
      clear hK K
      refine norm_ (a' := ?_) ?_ ?_
      rotate_left
      ·show Act.put _ (some 9) _ = _
       simp only [putAll, Act.put, sA, sZ, sS, i64_w, i32_w]
       rfl
      exact norm_ (by simp only [putAll, Act.put, sA, sZ, sS, i64_w, i32_w]) (hCj_0_01 (b8, b9, ()) _ ⟨HW0, BK_b8, GE_b8, BK_b9, GE_b9, NE_b8_b9⟩)
    intro hCj_0_0
    refine join_ (σ := (Nat) × Unit) 5 #[true, false, true, false, false, true, false, false] (fun s_ => match s_ with | (b9, _u) => [(9, .pointer (some ⟨b9, 0, none⟩))]) (fun s_ w' => match s_ with | (b9, _u) => (Aside0 (Below wj0.heap.size wj0 w') ∧ Aside0 (w'.heap[b9]? = some (.cells #[.int .i64 0, .slice none 0 0] 69 (0, 0))) ∧ Aside0 (wj0.heap.size ≤ b9))) ?_ ?_
    ·skip
     clear HW0
     rintro ⟨b9, _u⟩ wjj0_1 ⟨HW0, BK_b9, GE_b9⟩
     refine norm_ (a' := ?_) ?_ ?_
     rotate_left
     ·simp only [putAll, Act.put, sA, sZ, sS, i64_w, i32_w]
      rfl
     refine two_ (i := 1) (j := 4) (Ni := some 28) (Nj := some 8) #[true, true, true, false, false, true, false, false] #[true, false, true, false, true, true, false, false] rfl rfl rfl rfl (two_of HT_.out (by kernel_rfl)) (by decide) (by decide) (fun K hK => ?_) (fun K hK => ?_)
     ·skip
      refine goes_ Try.func59 (by kernel_rfl) rfl #[.agg #[.int .i64 n1, .slice A1 l1.length c1]] (by rfl) rfl rfl (by (try simp only [mA, mC, mN]); first | done | rfl) ?_
      refine (impl_Game_votes.calls k n1 A1 c1 l1 v1 v2 _ (Kd.C_below HR1.out (HB.out.trans (HW0.out.mono HB.out.size))) HC1.out FV.out).mono ?_
      rintro e wjj0_1c ⟨u_, rfl, hO, hb⟩
      obtain ⟨AV, cV, rfl⟩ := Kd.R_slice hO
      refine ⟨_, rfl, ?_⟩
      have OV := Aside0.mk (Kd.R_lower hO (HB.out.trans (HW0.out.mono HB.out.size)).size)
      replace HW0 := Aside0.mk (HW0.out.trans (hb.mono HW0.out.size))
      replace BK_b9 := Aside0.mk (blk_below BK_b9.out hb)
      clear hb hO
      refine hK.out _ _ ⟨(blk_cell (blk_below BG.out HW0.out) 0).trans rfl, (blk_cell (blk_below BG.out HW0.out) 1).trans rfl, (blk_cell (blk_below BH.out HW0.out) 0).trans rfl, (blk_cell (blk_below BH.out HW0.out) 1).trans rfl⟩ (fun _ => ?_)
      clear hK K
      refine norm_ (a' := ?_) ?_ ?_
      rotate_left
      ·show Act.put _ (some 28) _ = _
       simp only [putAll, Act.put, sA, sZ, sS, i64_w, i32_w]
       rfl
      exact norm_ (by simp only [putAll, Act.put, sA, sZ, sS, i64_w, i32_w]) (hCj_1_1 (AV, cV, b9, ()) _ ⟨HW0, OV, BK_b9, GE_b9⟩)
     ·skip
      refine box_step ?hg (N := 8) ?hd (cs := #[.int .i64 0, .slice none 0 0]) (t := 69) ?hr ?_; (case hd => rfl); (case hg => rfl); (case hr => first | (go_simp; done) | (go_simp; rfl))
      intro b8 hg wjj0_1b hbox hb
      have BK_b8 := Aside0.mk hbox
      have GE_b8 : Aside0 (wj0.heap.size ≤ b8) := ⟨by rw [hg]; exact HW0.out.size⟩
      have NE_b8_b9 : Aside0 (b8 ≠ b9) := ⟨by rw [hg]; exact Nat.ne_of_gt (blk_lt BK_b9.out)⟩
      replace HW0 := Aside0.mk (HW0.out.trans (hb.mono HW0.out.size))
      replace BK_b9 := Aside0.mk (blk_below BK_b9.out hb)
      clear hb hbox hg
      refine hK.out _ _ ⟨(blk_cell (blk_below BG.out HW0.out) 0).trans rfl, (blk_cell (blk_below BG.out HW0.out) 1).trans rfl, (blk_cell (blk_below BH.out HW0.out) 0).trans rfl, (blk_cell (blk_below BH.out HW0.out) 1).trans rfl⟩ (fun _ => ?_)
      clear hK K
      refine norm_ (a' := ?_) ?_ ?_
      rotate_left
      ·show Act.put _ (some 8) _ = _
       simp only [putAll, Act.put, sA, sZ, sS, i64_w, i32_w]
       rfl
      exact norm_ (by simp only [putAll, Act.put, sA, sZ, sS, i64_w, i32_w]) (hCj_0_01 (b8, b9, ()) _ ⟨HW0, BK_b8, GE_b8, BK_b9, GE_b9, NE_b8_b9⟩)
    intro hCj_0_1
    refine join_ (σ := (Option Addr) × (Nat) × Unit) 5 #[true, true, true, false, false, false, false, false] (fun s_ => match s_ with | (AV, cV, _u) => [(28, .agg #[.int .i64 v1, .slice AV v2.length cV])]) (fun s_ w' => match s_ with | (AV, cV, _u) => (Aside0 (Below wj0.heap.size wj0 w') ∧ Aside0 (Kd.R Kd.bool 4 w' w.heap.size (fun _ => True) (.slice AV v2.length cV) v2))) ?_ ?_
    ·skip
     clear HW0
     rintro ⟨AV, cV, _u⟩ wjj1_ ⟨HW0, OV⟩
     refine norm_ (a' := ?_) ?_ ?_
     rotate_left
     ·simp only [putAll, Act.put, sA, sZ, sS, i64_w, i32_w]
      rfl
     refine three_ (i := 3) (j := 4) (k := 5) (Ni := some 30) (Nj := some 8) (Nk := some 9) #[true, true, true, true, false, false, false, false] #[true, true, true, false, true, false, false, false] #[true, true, true, false, false, true, false, false] rfl rfl rfl rfl rfl rfl (three_of HT_.out (by kernel_rfl)) (by decide) (by decide) (by decide) (fun K hK => ?_) (fun K hK => ?_) (fun K hK => ?_)
     ·skip
      refine goes_ Try.func59 (by kernel_rfl) rfl #[.agg #[.int .i64 n2, .slice A2 l2.length c2]] (by rfl) rfl rfl (by (try simp only [mA, mC, mN]); first | done | rfl) ?_
      refine (impl_Game_votes.calls k n2 A2 c2 l2 u1 u2 _ (Kd.C_below HR2.out (HB.out.trans (HW0.out.mono HB.out.size))) HC2.out FU.out).mono ?_
      rintro e wjj1_c ⟨u_, rfl, hO, hb⟩
      obtain ⟨AU, cU, rfl⟩ := Kd.R_slice hO
      refine ⟨_, rfl, ?_⟩
      have OU := Aside0.mk (Kd.R_lower hO (HB.out.trans (HW0.out.mono HB.out.size)).size)
      replace HW0 := Aside0.mk (HW0.out.trans (hb.mono HW0.out.size))
      replace OV := Aside0.mk (Kd.R_below OV.out hb)
      clear hb hO
      refine hK.out _ _ ⟨(blk_cell (blk_below BG.out HW0.out) 0).trans rfl, (blk_cell (blk_below BG.out HW0.out) 1).trans rfl, (blk_cell (blk_below BH.out HW0.out) 0).trans rfl, (blk_cell (blk_below BH.out HW0.out) 1).trans rfl⟩ (fun _ => ?_)
      clear hK K
      refine norm_ (a' := ?_) ?_ ?_
      rotate_left
      ·show Act.put _ (some 30) _ = _
       simp only [putAll, Act.put, sA, sZ, sS, i64_w, i32_w]
       rfl
      exact norm_ (by simp only [putAll, Act.put, sA, sZ, sS, i64_w, i32_w]) (hCj_2_ (AV, cV, AU, cU, ()) _ ⟨HW0, OV, OU⟩)
     ·skip
      refine box_step ?hg (N := 8) ?hd (cs := #[.int .i64 0, .slice none 0 0]) (t := 69) ?hr ?_; (case hd => rfl); (case hg => rfl); (case hr => first | (go_simp; done) | (go_simp; rfl))
      intro b8 hg wjj1_b hbox hb
      have BK_b8 := Aside0.mk hbox
      have GE_b8 : Aside0 (wj0.heap.size ≤ b8) := ⟨by rw [hg]; exact HW0.out.size⟩
      replace HW0 := Aside0.mk (HW0.out.trans (hb.mono HW0.out.size))
      replace OV := Aside0.mk (Kd.R_below OV.out hb)
      clear hb hbox hg
      refine hK.out _ _ ⟨(blk_cell (blk_below BG.out HW0.out) 0).trans rfl, (blk_cell (blk_below BG.out HW0.out) 1).trans rfl, (blk_cell (blk_below BH.out HW0.out) 0).trans rfl, (blk_cell (blk_below BH.out HW0.out) 1).trans rfl⟩ (fun _ => ?_)
      clear hK K
      refine norm_ (a' := ?_) ?_ ?_
      rotate_left
      ·show Act.put _ (some 8) _ = _
       simp only [putAll, Act.put, sA, sZ, sS, i64_w, i32_w]
       rfl
      exact norm_ (by simp only [putAll, Act.put, sA, sZ, sS, i64_w, i32_w]) (hCj_1_0 (AV, cV, b8, ()) _ ⟨HW0, OV, BK_b8, GE_b8⟩)
     ·skip
      refine box_step ?hg (N := 9) ?hd (cs := #[.int .i64 0, .slice none 0 0]) (t := 69) ?hr ?_; (case hd => rfl); (case hg => rfl); (case hr => first | (go_simp; done) | (go_simp; rfl))
      intro b9 hg wjj1_b hbox hb
      have BK_b9 := Aside0.mk hbox
      have GE_b9 : Aside0 (wj0.heap.size ≤ b9) := ⟨by rw [hg]; exact HW0.out.size⟩
      replace HW0 := Aside0.mk (HW0.out.trans (hb.mono HW0.out.size))
      replace OV := Aside0.mk (Kd.R_below OV.out hb)
      clear hb hbox hg
      refine hK.out _ _ ⟨(blk_cell (blk_below BG.out HW0.out) 0).trans rfl, (blk_cell (blk_below BG.out HW0.out) 1).trans rfl, (blk_cell (blk_below BH.out HW0.out) 0).trans rfl, (blk_cell (blk_below BH.out HW0.out) 1).trans rfl⟩ (fun _ => ?_)
      clear hK K
      refine norm_ (a' := ?_) ?_ ?_
      rotate_left
      ·show Act.put _ (some 9) _ = _
       simp only [putAll, Act.put, sA, sZ, sS, i64_w, i32_w]
       rfl
      exact norm_ (by simp only [putAll, Act.put, sA, sZ, sS, i64_w, i32_w]) (hCj_1_1 (AV, cV, b9, ()) _ ⟨HW0, OV, BK_b9, GE_b9⟩)
    intro hCj_1_
    refine three_ (i := 1) (j := 4) (k := 5) (Ni := some 28) (Nj := some 8) (Nk := some 9) #[true, true, true, false, false, false, false, false] #[true, false, true, false, true, false, false, false] #[true, false, true, false, false, true, false, false] rfl rfl rfl rfl rfl rfl (three_of HT_.out (by kernel_rfl)) (by decide) (by decide) (by decide) (fun K hK => ?_) (fun K hK => ?_) (fun K hK => ?_)
    ·skip
     refine goes_ Try.func59 (by kernel_rfl) rfl #[.agg #[.int .i64 n1, .slice A1 l1.length c1]] (by rfl) rfl rfl (by (try simp only [mA, mC, mN]); first | done | rfl) ?_
     refine (impl_Game_votes.calls k n1 A1 c1 l1 v1 v2 _ (Kd.C_below HR1.out (HB.out.trans (HW0.out.mono HB.out.size))) HC1.out FV.out).mono ?_
     rintro e wj0c ⟨u_, rfl, hO, hb⟩
     obtain ⟨AV, cV, rfl⟩ := Kd.R_slice hO
     refine ⟨_, rfl, ?_⟩
     have OV := Aside0.mk (Kd.R_lower hO (HB.out.trans (HW0.out.mono HB.out.size)).size)
     replace HW0 := Aside0.mk (HW0.out.trans (hb.mono HW0.out.size))
     clear hb hO
     refine hK.out _ _ ⟨(blk_cell (blk_below BG.out HW0.out) 0).trans rfl, (blk_cell (blk_below BG.out HW0.out) 1).trans rfl, (blk_cell (blk_below BH.out HW0.out) 0).trans rfl, (blk_cell (blk_below BH.out HW0.out) 1).trans rfl⟩ (fun _ => ?_)
     clear hK K
     refine norm_ (a' := ?_) ?_ ?_
     rotate_left
     ·show Act.put _ (some 28) _ = _
      simp only [putAll, Act.put, sA, sZ, sS, i64_w, i32_w]
      rfl
     exact norm_ (by simp only [putAll, Act.put, sA, sZ, sS, i64_w, i32_w]) (hCj_1_ (AV, cV, ()) _ ⟨HW0, OV⟩)
    ·skip
     refine box_step ?hg (N := 8) ?hd (cs := #[.int .i64 0, .slice none 0 0]) (t := 69) ?hr ?_; (case hd => rfl); (case hg => rfl); (case hr => first | (go_simp; done) | (go_simp; rfl))
     intro b8 hg wj0b hbox hb
     have BK_b8 := Aside0.mk hbox
     have GE_b8 : Aside0 (wj0.heap.size ≤ b8) := ⟨by rw [hg]; exact HW0.out.size⟩
     replace HW0 := Aside0.mk (HW0.out.trans (hb.mono HW0.out.size))
     clear hb hbox hg
     refine hK.out _ _ ⟨(blk_cell (blk_below BG.out HW0.out) 0).trans rfl, (blk_cell (blk_below BG.out HW0.out) 1).trans rfl, (blk_cell (blk_below BH.out HW0.out) 0).trans rfl, (blk_cell (blk_below BH.out HW0.out) 1).trans rfl⟩ (fun _ => ?_)
     clear hK K
     refine norm_ (a' := ?_) ?_ ?_
     rotate_left
     ·show Act.put _ (some 8) _ = _
      simp only [putAll, Act.put, sA, sZ, sS, i64_w, i32_w]
      rfl
     exact norm_ (by simp only [putAll, Act.put, sA, sZ, sS, i64_w, i32_w]) (hCj_0_0 (b8, ()) _ ⟨HW0, BK_b8, GE_b8⟩)
    ·skip
     refine box_step ?hg (N := 9) ?hd (cs := #[.int .i64 0, .slice none 0 0]) (t := 69) ?hr ?_; (case hd => rfl); (case hg => rfl); (case hr => first | (go_simp; done) | (go_simp; rfl))
     intro b9 hg wj0b hbox hb
     have BK_b9 := Aside0.mk hbox
     have GE_b9 : Aside0 (wj0.heap.size ≤ b9) := ⟨by rw [hg]; exact HW0.out.size⟩
     replace HW0 := Aside0.mk (HW0.out.trans (hb.mono HW0.out.size))
     clear hb hbox hg
     refine hK.out _ _ ⟨(blk_cell (blk_below BG.out HW0.out) 0).trans rfl, (blk_cell (blk_below BG.out HW0.out) 1).trans rfl, (blk_cell (blk_below BH.out HW0.out) 0).trans rfl, (blk_cell (blk_below BH.out HW0.out) 1).trans rfl⟩ (fun _ => ?_)
     clear hK K
     refine norm_ (a' := ?_) ?_ ?_
     rotate_left
     ·show Act.put _ (some 9) _ = _
      simp only [putAll, Act.put, sA, sZ, sS, i64_w, i32_w]
      rfl
     exact norm_ (by simp only [putAll, Act.put, sA, sZ, sS, i64_w, i32_w]) (hCj_0_1 (b9, ()) _ ⟨HW0, BK_b9, GE_b9⟩)
   clear HW0
   rintro ⟨AV, cV, AU, cU, b8, b9, _u⟩ wjf ⟨HW0, OV, OU, BK_b8, GE_b8, BK_b9, GE_b9, NE_b8_b9⟩
   refine norm_ (a' := ?_) ?_ ?_
   rotate_left
   ·simp only [putAll, Act.put, sA, sZ, sS, i64_w, i32_w]
    rfl
   have hb := HW0.out
   replace HB := Aside0.mk (HB.out.trans (hb.mono HB.out.size))
   replace BG := Aside0.mk (blk_below BG.out hb)
   replace BH := Aside0.mk (blk_below BH.out hb)
   replace BF := Aside0.mk (blk_below BF.out hb)
   replace BO := Aside0.mk (blk_below BO.out hb)
   clear hb
   refine one_ (i := 6) (N := none) #[true, true, true, true, true, true, true, false] rfl rfl (one_of HT_.out (by kernel_rfl)) (by decide) (fun K hK => ?_)
   have hs0 := (blk_cell BK_b8.out 0).trans rfl
   have hs1 := (blk_cell BK_b8.out 1).trans rfl
   have hf0 := blk_frozen BK_b8.out 0
   have hf1 := blk_frozen BK_b8.out 1
   refine skip_ (w1 := ?_) (by rfl) rfl ?_ ?_
   rotate_left
   ·go_simp
    rfl
   clear hs0 hs1 hf0 hf1
   have n0_ := Aside0.mk (below_set (j := 1) (v := .slice AV v2.length cV) (below_set (j := 0) (v := .int .i64 v1) HB.out (Nat.le_trans (by have h1_ := HG0.out; omega) GE_b8.out)) (Nat.le_trans (by have h1_ := HG0.out; omega) GE_b8.out))
   have n1_ := Aside0.mk (blk_far (blk_far BG.out (p := ⟨b8, 0, none⟩) (by have h1_ := HG0.out; have h2_ := GE_b8.out; show w.heap.size ≠ b8; omega) (.int .i64 v1)) (p := ⟨b8, 1, none⟩) (by have h1_ := HG0.out; have h2_ := GE_b8.out; show w.heap.size ≠ b8; omega) (.slice AV v2.length cV))
   have n2_ := Aside0.mk (blk_far (blk_far BH.out (p := ⟨b8, 0, none⟩) (by have h1_ := HG0.out; have h2_ := GE_b8.out; show w.heap.size + 1 ≠ b8; omega) (.int .i64 v1)) (p := ⟨b8, 1, none⟩) (by have h1_ := HG0.out; have h2_ := GE_b8.out; show w.heap.size + 1 ≠ b8; omega) (.slice AV v2.length cV))
   have n3_ := Aside0.mk (blk_far (blk_far BF.out (p := ⟨b8, 0, none⟩) (by have h1_ := HG0.out; have h2_ := GE_b8.out; show w.heap.size + 2 ≠ b8; omega) (.int .i64 v1)) (p := ⟨b8, 1, none⟩) (by have h1_ := HG0.out; have h2_ := GE_b8.out; show w.heap.size + 2 ≠ b8; omega) (.slice AV v2.length cV))
   have n4_ := Aside0.mk (blk_far (blk_far BO.out (p := ⟨b8, 0, none⟩) (by have h1_ := HG0.out; have h2_ := GE_b8.out; show w.heap.size + 3 ≠ b8; omega) (.int .i64 v1)) (p := ⟨b8, 1, none⟩) (by have h1_ := HG0.out; have h2_ := GE_b8.out; show w.heap.size + 3 ≠ b8; omega) (.slice AV v2.length cV))
   have n5_ := Aside0.mk (blk_put (blk_put BK_b8.out 0 (.int .i64 v1) rfl) 1 (.slice AV v2.length cV) rfl)
   have n6_ := Aside0.mk (blk_far (blk_far BK_b9.out (p := ⟨b8, 0, none⟩) (NE_b8_b9.out.symm) (.int .i64 v1)) (p := ⟨b8, 1, none⟩) (NE_b8_b9.out.symm) (.slice AV v2.length cV))
   have n7_ := Aside0.mk (Kd.R_mono (Kd.R_far (p := ⟨b8, 1, none⟩) (Kd.R_far (p := ⟨b8, 0, none⟩) (Kd.R_types OV.out BK_b8.out (by decide)) (fun _ hk => hk.2) (.int .i64 v1)) (fun _ hk => hk.2) (.slice AV v2.length cV)) (fun _ _ => trivial))
   have n8_ := Aside0.mk (Kd.R_mono (Kd.R_far (p := ⟨b8, 1, none⟩) (Kd.R_far (p := ⟨b8, 0, none⟩) (Kd.R_types OU.out BK_b8.out (by decide)) (fun _ hk => hk.2) (.int .i64 v1)) (fun _ hk => hk.2) (.slice AV v2.length cV)) (fun _ _ => trivial))
   clear HW0 HB BG BH BF BO BK_b8 BK_b9 OV OU
   have HB := n0_
   have BG := n1_
   have BH := n2_
   have BF := n3_
   have BO := n4_
   have BK_b8 := n5_
   have BK_b9 := n6_
   have OV := n7_
   have OU := n8_
   clear n0_ n1_ n2_ n3_ n4_ n5_ n6_ n7_ n8_
   generalize (wjf.setCell ⟨b8, 0, none⟩ (.int .i64 v1)).setCell ⟨b8, 1, none⟩ (.slice AV v2.length cV) = ws1 at HB BG BH BF BO BK_b8 BK_b9 OV OU ⊢
   refine hK.out _ _ ⟨(blk_cell BG.out 0).trans rfl, (blk_cell BG.out 1).trans rfl, (blk_cell BH.out 0).trans rfl, (blk_cell BH.out 1).trans rfl⟩ (fun hHeld => ?_)
   clear hK K
   have HW0 := Aside0.mk trivial
   refine one_ (i := 7) (N := none) #[true, true, true, true, true, true, true, true] rfl rfl (one_of HT_.out (by kernel_rfl)) (by decide) (fun K hK => ?_)
   have hs0 := (blk_cell BK_b9.out 0).trans rfl
   have hs1 := (blk_cell BK_b9.out 1).trans rfl
   have hf0 := blk_frozen BK_b9.out 0
   have hf1 := blk_frozen BK_b9.out 1
   refine skip_ (w1 := ?_) (by rfl) rfl ?_ ?_
   rotate_left
   ·go_simp
    rfl
   clear hs0 hs1 hf0 hf1
   have n0_ := Aside0.mk (below_set (j := 1) (v := .slice AU u2.length cU) (below_set (j := 0) (v := .int .i64 u1) HB.out (Nat.le_trans (by have h1_ := HG0.out; omega) GE_b9.out)) (Nat.le_trans (by have h1_ := HG0.out; omega) GE_b9.out))
   have n1_ := Aside0.mk (blk_far (blk_far BG.out (p := ⟨b9, 0, none⟩) (by have h1_ := HG0.out; have h2_ := GE_b9.out; show w.heap.size ≠ b9; omega) (.int .i64 u1)) (p := ⟨b9, 1, none⟩) (by have h1_ := HG0.out; have h2_ := GE_b9.out; show w.heap.size ≠ b9; omega) (.slice AU u2.length cU))
   have n2_ := Aside0.mk (blk_far (blk_far BH.out (p := ⟨b9, 0, none⟩) (by have h1_ := HG0.out; have h2_ := GE_b9.out; show w.heap.size + 1 ≠ b9; omega) (.int .i64 u1)) (p := ⟨b9, 1, none⟩) (by have h1_ := HG0.out; have h2_ := GE_b9.out; show w.heap.size + 1 ≠ b9; omega) (.slice AU u2.length cU))
   have n3_ := Aside0.mk (blk_far (blk_far BF.out (p := ⟨b9, 0, none⟩) (by have h1_ := HG0.out; have h2_ := GE_b9.out; show w.heap.size + 2 ≠ b9; omega) (.int .i64 u1)) (p := ⟨b9, 1, none⟩) (by have h1_ := HG0.out; have h2_ := GE_b9.out; show w.heap.size + 2 ≠ b9; omega) (.slice AU u2.length cU))
   have n4_ := Aside0.mk (blk_far (blk_far BO.out (p := ⟨b9, 0, none⟩) (by have h1_ := HG0.out; have h2_ := GE_b9.out; show w.heap.size + 3 ≠ b9; omega) (.int .i64 u1)) (p := ⟨b9, 1, none⟩) (by have h1_ := HG0.out; have h2_ := GE_b9.out; show w.heap.size + 3 ≠ b9; omega) (.slice AU u2.length cU))
   have n5_ := Aside0.mk (blk_put (blk_put BK_b9.out 0 (.int .i64 u1) rfl) 1 (.slice AU u2.length cU) rfl)
   have n6_ := Aside0.mk (blk_far (blk_far BK_b8.out (p := ⟨b9, 0, none⟩) (NE_b8_b9.out) (.int .i64 u1)) (p := ⟨b9, 1, none⟩) (NE_b8_b9.out) (.slice AU u2.length cU))
   have n7_ := Aside0.mk (Kd.R_mono (Kd.R_far (p := ⟨b9, 1, none⟩) (Kd.R_far (p := ⟨b9, 0, none⟩) (Kd.R_types OV.out BK_b9.out (by decide)) (fun _ hk => hk.2) (.int .i64 u1)) (fun _ hk => hk.2) (.slice AU u2.length cU)) (fun _ _ => trivial))
   have n8_ := Aside0.mk (Kd.R_mono (Kd.R_far (p := ⟨b9, 1, none⟩) (Kd.R_far (p := ⟨b9, 0, none⟩) (Kd.R_types OU.out BK_b9.out (by decide)) (fun _ hk => hk.2) (.int .i64 u1)) (fun _ hk => hk.2) (.slice AU u2.length cU)) (fun _ _ => trivial))
   clear HW0 HB BG BH BF BO BK_b9 BK_b8 OV OU
   have HB := n0_
   have BG := n1_
   have BH := n2_
   have BF := n3_
   have BO := n4_
   have BK_b9 := n5_
   have BK_b8 := n6_
   have OV := n7_
   have OU := n8_
   clear n0_ n1_ n2_ n3_ n4_ n5_ n6_ n7_ n8_
   generalize (ws1.setCell ⟨b9, 0, none⟩ (.int .i64 u1)).setCell ⟨b9, 1, none⟩ (.slice AU u2.length cU) = ws2 at HB BG BH BF BO BK_b8 BK_b9 OV OU ⊢
   refine hK.out _ _ ⟨(blk_cell BG.out 0).trans rfl, (blk_cell BG.out 1).trans rfl, (blk_cell BH.out 0).trans rfl, (blk_cell BH.out 1).trans rfl⟩ (fun hHeld => ?_)
   clear hK K
   have HW0 := Aside0.mk trivial
   refine done_ (done_of HT_.out (by kernel_rfl)) ?_
   clear HW0
   have HCV := Aside0.mk ((Kd.R_reads' OV.out).2.2)
   have HLV := Aside0.mk ((Kd.R_reads' OV.out).2.1)
   have HCU := Aside0.mk ((Kd.R_reads' OU.out).2.2)
   clear OV OU
   obtain ⟨sv, hsv⟩ : ∃ s : Int, wrap64 (v1 + u1) = s := ⟨_, rfl⟩
   have hsvw : IntKind.i64.wrap (v1 + u1) = sv := (i64_w _).trans hsv
   rw [hsv] at FO
   have x_0 := (blk_cell BK_b8.out 0).trans rfl
   have x_1 := (blk_cell BK_b8.out 1).trans rfl
   have y_0 := (blk_cell BK_b9.out 0).trans rfl
   have y_1 := (blk_cell BK_b9.out 1).trans rfl
   go_wp2_with fail
   refine (impl_votesOf.hof k sv (impl_joinGames_1.f p v1 v2 u2) 129 #[.pointer (some ⟨w.heap.size + 2, 0, none⟩), .pointer (some ⟨b8, 0, none⟩), .pointer (some ⟨b9, 0, none⟩)] o1 o2 _ eg ?_ FO.out).mono ?_
   ·intro W x b hb hx
    exact HCL.out v1 u1 v2 u2 x b AV AU cV cU (w.heap.size + 2) b8 b9 W ((blk_cell (blk_below BF.out hb) 0).trans rfl) ((blk_cell (blk_below BK_b8.out hb) 0).trans rfl) ((blk_cell (blk_below BK_b8.out hb) 1).trans rfl) ((blk_cell (blk_below BK_b9.out hb) 0).trans rfl) ((blk_cell (blk_below BK_b9.out hb) 1).trans rfl) (Kd.C_below HCV.out hb) HLV.out (Kd.C_below HCU.out hb) hx
   rintro e w5 ⟨u_, rfl, hO, hb⟩
   obtain ⟨A5, c5, rfl, hl5, hC5⟩ := Kd.R_reads hO
   have HC5 := Aside0.mk hC5
   have HL5 := Aside0.mk hl5
   clear x_0 x_1 y_0 y_1 hO hC5 hl5
   replace HB := Aside0.mk (HB.out.trans (hb.mono HB.out.size))
   replace BG := Aside0.mk (blk_below BG.out hb)
   replace BH := Aside0.mk (blk_below BH.out hb)
   replace BF := Aside0.mk (blk_below BF.out hb)
   replace BO := Aside0.mk (blk_below BO.out hb)
   replace BK_b8 := Aside0.mk (blk_below BK_b8.out hb)
   replace BK_b9 := Aside0.mk (blk_below BK_b9.out hb)
   clear hb
   go_wp2_with fail
   refine (impl_votes_game.calls k o1 A5 c5 o2 p1 p2 _ HC5.out HL5.out FP.out).mono ?_
   rintro e w6 ⟨u_, rfl, hO, hb⟩
   obtain ⟨A6, c6, rfl⟩ := Kd.S_slice hO
   have HO := Aside0.mk (Kd.S_lower hO HB.out.size)
   clear hO HC5
   replace HB := Aside0.mk (HB.out.trans (hb.mono HB.out.size))
   replace BG := Aside0.mk (blk_below BG.out hb)
   replace BH := Aside0.mk (blk_below BH.out hb)
   replace BF := Aside0.mk (blk_below BF.out hb)
   replace BO := Aside0.mk (blk_below BO.out hb)
   replace BK_b8 := Aside0.mk (blk_below BK_b8.out hb)
   replace BK_b9 := Aside0.mk (blk_below BK_b9.out hb)
   clear hb
   have zo0 := (blk_cell BO.out 0).trans rfl
   have zo1 := (blk_cell BO.out 1).trans rfl
   have f0 := blk_frozen BO.out 0
   have f1 := blk_frozen BO.out 1
   go_wp2
   refine bodyPost_ret (results_ct rfl _ _ (w.heap.size + 3) 28 #[.int .i64 p1, .slice A6 p2.length c6] (0, 0) _ rfl (by refine blk_put (cs := #[.int .i64 p1, .slice none 0 0]) ?_ 1 _ rfl; refine blk_put (cs := #[.int .i64 0, .slice none 0 0]) ?_ 0 _ rfl; exact BO.out) Try.underlying28 rfl (by kernel_rfl)) rfl ?_
   exact ⟨_, rfl, Kd.S_mono (Kd.S_far (p := ⟨w.heap.size + 3, 1, none⟩) (Kd.S_far (p := ⟨w.heap.size + 3, 0, none⟩) (Kd.S_types HO.out BO.out (by decide)) (fun _ hk => hk.2) (.int .i64 p1)) (fun _ hk => hk.2) (.slice A6 p2.length c6)) (fun _ _ => trivial), below_set (below_set HB.out GE.out) GE.out⟩
def impl_ProductGames.f (k : Nat) (a0_0 : Int) (l0_1 : List (List Int)) (a1_0 : Int) (l1_1 : List (List Int)) : Option (Int × List (List Int) × Bool) := impl_joinGames.g k (fun a b => a && b) a0_0 l0_1 a1_0 l1_1
set_option maxHeartbeats 8000000 in
set_option maxRecDepth 100000 in
theorem impl_ProductGames_1.clo (a b : Bool) (W : World) : Calls Try.prog 96 #[.bool a, .bool b] W fun e W' => e = .returned (.bool (a && b)) ∧ Below W.heap.size W W' := by
 cases a <;> cases b
 all_goals
  go_enter Try.func96, Try.ntmps96
  go_wp2
  go_ret
  exact ⟨rfl, Below.refl _ _⟩
set_option maxHeartbeats 8000000 in
set_option maxRecDepth 100000 in
theorem impl_ProductGames.join : impl_joinGames.Clo (fun a b => a && b) 96 := by
 intro n m vs us x b A A' c c' BF BV BW W h0 h1 h2 h3 h4 hr hc hr2 h
 have huV := Try.underlying69
 have eg : ∀ args w, (callFunc 96 args).run Try.prog w = .ok (.enter 96 args) w := enters_of Try.func96 (by kernel_rfl) rfl
 obtain ⟨t, ht, h⟩ := oB h
 obtain ⟨J, hJ⟩ : ∃ j_ : Int, Go.bits .and .i64 x t = j_ := ⟨_, rfl⟩
 rw [hJ] at h
 by_cases d1 : 0 ≤ J
 case neg => rw [if_neg d1] at h; cases h
 rw [if_pos d1] at h
 by_cases d2 : J < (vs.length : Int)
 case neg => rw [if_neg d2] at h; cases h
 rw [if_pos d2] at h
 by_cases d3 : 0 ≤ n
 case neg => rw [if_neg d3] at h; cases h
 rw [if_pos d3] at h
 obtain ⟨j2, hj2⟩ : ∃ j_ : Int, shr .i64 x n = j_ := ⟨_, rfl⟩
 rw [hj2] at h
 by_cases d4 : 0 ≤ j2
 case neg => rw [if_neg d4] at h; cases h
 rw [if_pos d4] at h
 by_cases d5 : j2 < (us.length : Int)
 case neg => rw [if_neg d5] at h; cases h
 rw [if_pos d5] at h
 obtain rfl := Option.some.inj h
 obtain ⟨ad, e1, hx⟩ := Kd.at_bool hr J d1 d2
 obtain ⟨ad2, e2, hx2⟩ := Kd.at_bool hr2 j2 d4 d5
 obtain ⟨v, hv⟩ : ∃ v : Bool, v = rdOf false vs J := ⟨_, rfl⟩
 obtain ⟨u, hu⟩ : ∃ u : Bool, u = rdOf false us j2 := ⟨_, rfl⟩
 rw [← hv] at hx ⊢
 rw [← hu] at hx2 ⊢
 cases e1
 cases e2
 have hj2_ : (x / 2 ^ min n.toNat 64) = j2 := hj2
 have hj2z : n ≤ 64 → (x / 2 ^ n.toNat) = j2 := shr_small hj2
 have d1' := eq_true d1
 have d2' := eq_true d2
 have d3' := eq_true d3
 have d3b : decide (0 ≤ n) = true := decide_eq_true d3
 have d4' := eq_true d4
 have d5' := eq_true d5
 have FTT := Aside0.mk ht
 have HR := Aside0.mk (Kd.C_drew hr)
 have HC := Aside0.mk hc
 have HBD := Aside0.mk (show Below W.heap.size W W.drew from below_drew1 (Below.refl _ _))
 have L0 := Aside0.mk (show BF < W.drew.heap.size from World.block_lt_of_cell? W _ h0)
 have L1 := Aside0.mk (show BV < W.drew.heap.size from World.block_lt_of_cell? W _ h1)
 have L2 := Aside0.mk (show BW < W.drew.heap.size from World.block_lt_of_cell? W _ h3)
 have L3 := Aside0.mk (show (ad.add J.toNat).block < W.drew.heap.size from World.block_lt_of_cell? W _ hx)
 have L4 := Aside0.mk (show (ad2.add j2.toNat).block < W.drew.heap.size from World.block_lt_of_cell? W _ hx2)
 have D0 := Aside0.mk (show W.drew.cell? ⟨BF, 0, none⟩ = some (.func (.func 96) #[] #[]) from h0)
 have D1 := Aside0.mk (show W.drew.cell? ⟨BV, 0, none⟩ = some (.int .i64 n) from h1)
 have D2 := Aside0.mk (show W.drew.cell? ⟨BV, 1, none⟩ = some (.slice (some ad) vs.length c) from h2)
 have D3 := Aside0.mk (show W.drew.cell? ⟨BW, 0, none⟩ = some (.int .i64 m) from h3)
 have D4 := Aside0.mk (show W.drew.cell? ⟨BW, 1, none⟩ = some (.slice (some ad2) us.length c') from h4)
 have D5 := Aside0.mk (show W.drew.cell? (ad.add J.toNat) = some (.bool v) from hx)
 have D6 := Aside0.mk (show W.drew.cell? (ad2.add j2.toNat) = some (.bool u) from hx2)
 clear h hv hu d1 d2 d3 d4 d5 ht hr hc hr2 hx hx2 h0 h1 h2 h3 h4
 go_enter Try.func129, Try.ntmps129
 go_wp2
 go_region_held3 (fun w' => w'.cell? ⟨BF, 0, none⟩ = some (.func (.func 96) #[] #[]) ∧ w'.cell? ⟨BV, 0, none⟩ = some (.int .i64 n) ∧ w'.cell? ⟨BV, 1, none⟩ = some (.slice (some ad) vs.length c) ∧ w'.cell? ⟨BW, 0, none⟩ = some (.int .i64 m) ∧ w'.cell? ⟨BW, 1, none⟩ = some (.slice (some ad2) us.length c') ∧ w'.cell? (ad.add J.toNat) = some (.bool v) ∧ w'.cell? (ad2.add j2.toNat) = some (.bool u)) (first | exact ⟨D0.out, D1.out, D2.out, D3.out, D4.out, D5.out, D6.out⟩ | exact ⟨k0, k1, k2, k3, k4, k5, k6⟩ | go_keep)
  (first | (go_at_call 102; refine (impl_votes_all.calls n (some ad) c vs t _ HR.out HC.out FTT.out).mono ?_; rintro e w' ⟨rfl, hb⟩; have k0 := (hb.cell L0.out).trans D0.out; have k1 := (hb.cell (p := ⟨BV, 0, none⟩) L1.out).trans D1.out; have k2 := (hb.cell (p := ⟨BV, 1, none⟩) L1.out).trans D2.out; have k3 := (hb.cell (p := ⟨BW, 0, none⟩) L2.out).trans D3.out; have k4 := (hb.cell (p := ⟨BW, 1, none⟩) L2.out).trans D4.out; have k5 := (hb.cell L3.out).trans D5.out; have k6 := (hb.cell L4.out).trans D6.out; have HBN := Aside0.mk (HBD.out.trans (hb.mono HBD.out.size)); clear hb) | (go_at_call 96; refine (impl_ProductGames_1.clo v u _).mono ?_; rintro e w2' ⟨rfl, hb⟩; have k0 := (hb.cell (World.block_lt_of_cell? _ _ k0)).trans k0; have k1 := (hb.cell (World.block_lt_of_cell? _ _ k1)).trans k1; have k2 := (hb.cell (World.block_lt_of_cell? _ _ k2)).trans k2; have k3 := (hb.cell (World.block_lt_of_cell? _ _ k3)).trans k3; have k4 := (hb.cell (World.block_lt_of_cell? _ _ k4)).trans k4; have k5 := (hb.cell (World.block_lt_of_cell? _ _ k5)).trans k5; have k6 := (hb.cell (World.block_lt_of_cell? _ _ k6)).trans k6; have HBM := Aside0.mk (HBN.out.trans (hb.mono HBN.out.size)); clear hb))
 go_wp2
 go_ret
 exact ⟨rfl, HBM.out⟩
set_option maxHeartbeats 8000000 in
set_option maxRecDepth 100000 in
theorem impl_ProductGames.calls (k : Nat) (a0_0 : Int) (A0_1 : Option Addr) (c0_1 : Nat) (l0_1 : List (List Int)) (a1_0 : Int) (A1_1 : Option Addr) (c1_1 : Nat) (l1_1 : List (List Int)) (r1 : Int) (r2 : List (List Int)) (r3 : Bool) (w : World) (hr0_1 : Kd.C (Kd.slice 3 (Kd.int .i64)) w A0_1 l0_1.length l0_1) (hc0_1 : l0_1.length ≤ c0_1) (hr1_1 : Kd.C (Kd.slice 3 (Kd.int .i64)) w A1_1 l1_1.length l1_1) (hc1_1 : l1_1.length ≤ c1_1) (h : impl_ProductGames.f k a0_0 l0_1 a1_0 l1_1 = some (r1, r2, r3)) :
  Calls Try.prog 50 #[.agg #[.int .i64 a0_0, .slice A0_1 l0_1.length c0_1], .agg #[.int .i64 a1_0, .slice A1_1 l1_1.length c1_1]] w fun e w' => ∃ v1_ : Value, e = .returned (.tuple #[.agg #[.int .i64 r1, v1_], .bool r3]) ∧ Kd.S (Kd.slice 3 (Kd.int .i64)) 36 w' w.heap.size (fun _ => True) v1_ r2 ∧ Below w.heap.size w w' := by
 have huG := Try.underlying28
 have h4 := Go.Proofs.YtmmmblfghhcndaaX.news3 w (.cells #[.int .i64 a0_0, .slice A0_1 l0_1.length c0_1] 28) (.cells #[.int .i64 a1_0, .slice A1_1 l1_1.length c1_1] 28) (.cells #[.int .i64 0, .slice none 0 0] 28)
 have HB := Aside0.mk h4.1
 have BO := Aside0.mk h4.2.2.2
 have GE := Aside0.mk (show w.heap.size ≤ w.heap.size + 2 by omega)
 have HR0 := Aside0.mk hr0_1
 have HR1 := Aside0.mk hr1_1
 have HC0 := Aside0.mk hc0_1
 have HC1 := Aside0.mk hc1_1
 have FF := Aside0.mk h
 clear h4 hr0_1 hr1_1 hc0_1 hc1_1 h
 go_enter Try.func50, Try.ntmps50
 go_wp2_with fail
 refine (impl_joinGames.hof k (fun a b => a && b) 96 a0_0 A0_1 c0_1 l0_1 a1_0 A1_1 c1_1 l1_1 r1 r2 r3 _ impl_ProductGames.join (Kd.C_below HR0.out HB.out) HC0.out (Kd.C_below HR1.out HB.out) HC1.out FF.out).mono ?_
 rintro e w1 ⟨u_, rfl, hO, hb⟩
 obtain ⟨A6, c6, rfl⟩ := Kd.S_slice hO
 have n0_ := Aside0.mk (HB.out.trans (hb.mono HB.out.size))
 have n1_ := Aside0.mk (blk_below BO.out hb)
 have HO := Aside0.mk (Kd.S_lower hO HB.out.size)
 clear HB BO hO hb
 have HB := n0_
 have BO := n1_
 clear n0_ n1_
 have zo0 := (blk_cell BO.out 0).trans rfl
 have zo1 := (blk_cell BO.out 1).trans rfl
 have f0 := blk_frozen BO.out 0
 have f1 := blk_frozen BO.out 1
 go_wp2
 refine bodyPost_ret (results_ct rfl _ _ (w.heap.size + 2) 28 #[.int .i64 r1, .slice A6 r2.length c6] (0, 0) _ rfl (by refine blk_put (cs := #[.int .i64 r1, .slice none 0 0]) ?_ 1 _ rfl; refine blk_put (cs := #[.int .i64 0, .slice none 0 0]) ?_ 0 _ rfl; exact BO.out) Try.underlying28 rfl (by kernel_rfl)) rfl ?_
 exact ⟨_, rfl, Kd.S_mono (Kd.S_far (p := ⟨w.heap.size + 2, 1, none⟩) (Kd.S_far (p := ⟨w.heap.size + 2, 0, none⟩) (Kd.S_types HO.out BO.out (by decide)) (fun _ hk => hk.2) (.int .i64 r1)) (fun _ hk => hk.2) (.slice A6 r2.length c6)) (fun _ _ => trivial), below_set (below_set HB.out GE.out) GE.out⟩
def laws_FnExactProductGames.f (k : Nat) (a0_0 : Int) (l0_1 : List (List Int)) (a1_0 : Int) (l1_1 : List (List Int)) : Option Bool :=
 (laws_szGame.f k a0_0 l0_1 1048576).bind fun t0 => if t0 < 0 then some true else (laws_szGame.f k a1_0 l1_1 t0).bind fun t1 => if t1 < 0 then some true else
 (laws_toGame.f k a0_0 l0_1).bind fun x0 => (laws_toGame.f k a1_0 l1_1).bind fun x1 => (spec_ProductGames.f k x0.1 x0.2 x1.1 x1.2).bind fun s => (impl_ProductGames.f k x0.1 x0.2 x1.1 x1.2).bind fun g => (laws_eqGame.f k g.1 g.2.1 s.1 s.2.1).bind fun e => (laws_eqGame.f k x0.1 x0.2 x0.1 x0.2).bind fun e0 => (laws_eqGame.f k x1.1 x1.2 x1.1 x1.2).bind fun e1 => (laws_markGame.f k x0.1 x0.2 1).bind fun m0 => (laws_markGame.f k x1.1 x1.2 m0.1).bind fun m1 => (laws_markGame.f k g.1 g.2.1 1).bind fun mm => (laws_heldGame.f k g.1 mm.2 1).bind fun hh =>
 if e = true ∧ g.2.2 = s.2.2 ∧ e0 = true ∧ e1 = true ∧ ¬ m1.1 < 0 ∧ ¬ hh < 0 ∧ hh = mm.1 then some true else none
def laws_FnExactProductGames.T8 : Bool × List (List Nat × List Nat) := (true, [([], []), ([0], [0]), ([], []), ([2, 1], [2]), ([1, 3, 3], [1, 3]), ([4], [4]), ([5], [5]), ([5], [5]), ([], []), ([8, 6, 4, 0, 1, 2, 3, 4, 5, 6, 8], [6, 8]), ([7, 9, 0, 1, 2, 3, 4, 5, 6, 7, 8, 9], [7])])
def laws_FnExactProductGames.B8 : List Nat := [0, 1, 0, 7, 15, 31, 63, 63, 0, 383, 1023]
theorem laws_FnExactProductGames.tab8 : rtab .any (opsOf Try.f11 8) = laws_FnExactProductGames.T8 := by kernel_rfl
theorem laws_FnExactProductGames.bits8 : waitsOk laws_FnExactProductGames.T8.2 laws_FnExactProductGames.B8 = true := by kernel_rfl
def laws_FnExactProductGames.T31 : Bool × List (List Nat × List Nat) := (true, [([], []), ([0], [0]), ([], []), ([2, 1], [2]), ([1, 3, 3], [1, 3]), ([4], [4]), ([5], [5]), ([5], [5]), ([], []), ([8, 6, 4, 0, 1, 2, 3, 4, 5, 6, 8], [6, 8]), ([7, 9, 0, 1, 2, 3, 4, 5, 6, 7, 8, 9], [7])])
def laws_FnExactProductGames.B31 : List Nat := [0, 1, 0, 7, 15, 31, 63, 63, 0, 383, 1023]
theorem laws_FnExactProductGames.tab31 : rtab .any (opsOf Try.f11 31) = laws_FnExactProductGames.T31 := by kernel_rfl
theorem laws_FnExactProductGames.bits31 : waitsOk laws_FnExactProductGames.T31.2 laws_FnExactProductGames.B31 = true := by kernel_rfl
set_option maxHeartbeats 8000000 in
set_option maxRecDepth 100000 in
theorem laws_FnExactProductGames.calls (k : Nat) (a0_0 : Int) (A0_1 : Option Addr) (c0_1 : Nat) (l0_1 : List (List Int)) (a1_0 : Int) (A1_1 : Option Addr) (c1_1 : Nat) (l1_1 : List (List Int)) (r : Bool) (w : World) (hr0_1 : Kd.C (Kd.slice 3 (Kd.int .i64)) w A0_1 l0_1.length l0_1) (hc0_1 : l0_1.length ≤ c0_1) (hr1_1 : Kd.C (Kd.slice 3 (Kd.int .i64)) w A1_1 l1_1.length l1_1) (hc1_1 : l1_1.length ≤ c1_1) (h : laws_FnExactProductGames.f k a0_0 l0_1 a1_0 l1_1 = some r) :
  Calls Try.prog 11 #[.agg #[.int .i64 a0_0, .slice A0_1 l0_1.length c0_1], .agg #[.int .i64 a1_0, .slice A1_1 l1_1.length c1_1]] w fun e w' => e = .returned (.bool r) ∧ Below w.heap.size w w' := by
 have huAG := Try.underlying46
 have huIG := Try.underlying28
 have HR0_1 := Aside0.mk hr0_1
 have HC0_1 := Aside0.mk hc0_1
 have HR1_1 := Aside0.mk hr1_1
 have HC1_1 := Aside0.mk hc1_1
 have HB := Aside0.mk (show Below w.heap.size w ((w.alloc (.cells #[.int .i64 a0_0, .slice A0_1 l0_1.length c0_1] 46)).alloc (.cells #[.int .i64 a1_0, .slice A1_1 l1_1.length c1_1] 46)) from below_alloc (below_alloc (Below.refl _ _) _) _)
 have BKA0 := Aside0.mk (blk_alloc (blk_new w (.cells #[.int .i64 a0_0, .slice A0_1 l0_1.length c0_1] 46)) (.cells #[.int .i64 a1_0, .slice A1_1 l1_1.length c1_1] 46))
 have hsz1 : (w.alloc (.cells #[.int .i64 a0_0, .slice A0_1 l0_1.length c0_1] 46)).heap.size = w.heap.size + 1 := by simp
 have hbk1 := blk_new (w.alloc (.cells #[.int .i64 a0_0, .slice A0_1 l0_1.length c0_1] 46)) (.cells #[.int .i64 a1_0, .slice A1_1 l1_1.length c1_1] 46)
 rw [hsz1] at hbk1
 have BKA1 := Aside0.mk hbk1
 clear hsz1 hbk1
 clear hr0_1 hc0_1 hr1_1 hc1_1
 simp only [laws_FnExactProductGames.f] at h
 obtain ⟨t0, ht0, h⟩ := oB h
 have HT0 := Aside0.mk ht0
 clear ht0
 by_cases z0 : t0 < 0
 ·rw [if_pos z0] at h
  obtain rfl := Option.some.inj h
  have z0b : decide (t0 < 0) = true := decide_eq_true z0
  clear z0 h
  go_enter Try.func11, Try.ntmps11
  go_wp2_with fail
  refine (laws_szGame.calls k a0_0 A0_1 c0_1 l0_1 1048576 t0 _ (Kd.C_below HR0_1.out HB.out) HC0_1.out HT0.out).mono ?_
  rintro e w1 ⟨rfl, hb⟩
  have OD0 := Aside0.mk (show w.heap.size + 2 ≤ w1.heap.size from by have h_ := hb.size; (try simp at h_); omega)
  replace HB := Aside0.mk (HB.out.trans (hb.mono HB.out.size))
  replace BKA0 := Aside0.mk (blk_below BKA0.out hb)
  replace BKA1 := Aside0.mk (blk_below BKA1.out hb)
  clear hb
  go_wp2
  go_ret
  exact ⟨rfl, HB.out⟩
 rw [if_neg z0] at h
 have z0b : decide (t0 < 0) = false := decide_eq_false z0
 clear z0
 obtain ⟨t1, ht1, h⟩ := oB h
 have HT1 := Aside0.mk ht1
 clear ht1
 by_cases z1 : t1 < 0
 ·rw [if_pos z1] at h
  obtain rfl := Option.some.inj h
  have z1b : decide (t1 < 0) = true := decide_eq_true z1
  clear z1 h
  go_enter Try.func11, Try.ntmps11
  go_wp2_with fail
  refine (laws_szGame.calls k a0_0 A0_1 c0_1 l0_1 1048576 t0 _ (Kd.C_below HR0_1.out HB.out) HC0_1.out HT0.out).mono ?_
  rintro e w1 ⟨rfl, hb⟩
  have OD0 := Aside0.mk (show w.heap.size + 2 ≤ w1.heap.size from by have h_ := hb.size; (try simp at h_); omega)
  replace HB := Aside0.mk (HB.out.trans (hb.mono HB.out.size))
  replace BKA0 := Aside0.mk (blk_below BKA0.out hb)
  replace BKA1 := Aside0.mk (blk_below BKA1.out hb)
  clear hb
  have ha0 := (blk_cell BKA1.out 0).trans rfl
  have ha1 := (blk_cell BKA1.out 1).trans rfl
  go_wp2_with fail
  refine (laws_szGame.calls k a1_0 A1_1 c1_1 l1_1 t0 t1 _ (Kd.C_below HR1_1.out HB.out) HC1_1.out HT1.out).mono ?_
  rintro e w2 ⟨rfl, hb⟩
  clear ha0 ha1
  have OD1 := Aside0.mk (show w1.heap.size ≤ w2.heap.size from by have h_ := hb.size; (try simp at h_); omega)
  replace HB := Aside0.mk (HB.out.trans (hb.mono HB.out.size))
  replace BKA0 := Aside0.mk (blk_below BKA0.out hb)
  replace BKA1 := Aside0.mk (blk_below BKA1.out hb)
  clear hb
  go_wp2
  go_ret
  exact ⟨rfl, HB.out⟩
 rw [if_neg z1] at h
 have z1b : decide (t1 < 0) = false := decide_eq_false z1
 clear z1
 obtain ⟨⟨q0, y0⟩, hA0, h⟩ := oB h
 obtain ⟨⟨q1, y1⟩, hA1, h⟩ := oB h
 obtain ⟨⟨sn, s, sb⟩, hS, h⟩ := oB h
 obtain ⟨⟨gn, g, gb⟩, hG, h⟩ := oB h
 obtain ⟨e, hE, h⟩ := oB h
 obtain ⟨e0, hE0, h⟩ := oB h
 obtain ⟨e1, hE1, h⟩ := oB h
 obtain ⟨⟨k0, u0⟩, hM0, h⟩ := oB h
 obtain ⟨⟨k1, u1⟩, hM1, h⟩ := oB h
 obtain ⟨⟨mm, vv⟩, hMM, h⟩ := oB h
 obtain ⟨hh, hH, h⟩ := oB h
 by_cases hc : e = true ∧ gb = sb ∧ e0 = true ∧ e1 = true ∧ ¬ k1 < 0 ∧ ¬ hh < 0 ∧ hh = mm
 case neg => rw [if_neg hc] at h; cases h
 rw [if_pos hc] at h
 obtain rfl := Option.some.inj h
 obtain ⟨rfl, rfl, rfl, rfl, d1, d2, rfl⟩ := hc
 have d1b : decide (k1 < 0) = false := decide_eq_false d1
 have d2b : decide (hh < 0) = false := decide_eq_false d2
 have FA0 : Aside0 (laws_toGame.f k a0_0 l0_1 = some (q0, y0)) := ⟨hA0⟩
 have FA1 : Aside0 (laws_toGame.f k a1_0 l1_1 = some (q1, y1)) := ⟨hA1⟩
 have FS : Aside0 (spec_ProductGames.f k q0 y0 q1 y1 = some (sn, s, gb)) := ⟨hS⟩
 have FG : Aside0 (impl_ProductGames.f k q0 y0 q1 y1 = some (gn, g, gb)) := ⟨hG⟩
 have FE : Aside0 (laws_eqGame.f k gn g sn s = some true) := ⟨hE⟩
 have FE0 : Aside0 (laws_eqGame.f k q0 y0 q0 y0 = some true) := ⟨hE0⟩
 have FE1 : Aside0 (laws_eqGame.f k q1 y1 q1 y1 = some true) := ⟨hE1⟩
 have FM0 : Aside0 (laws_markGame.f k q0 y0 1 = some (k0, u0)) := ⟨hM0⟩
 have FM1 : Aside0 (laws_markGame.f k q1 y1 k0 = some (k1, u1)) := ⟨hM1⟩
 have FMM : Aside0 (laws_markGame.f k gn g 1 = some (hh, vv)) := ⟨hMM⟩
 have FH : Aside0 (laws_heldGame.f k gn vv 1 = some hh) := ⟨hH⟩
 clear h hS hG hE hMM hH d1 d2 hA0 hE0 hM0 hA1 hE1 hM1
 go_enter Try.func11, Try.ntmps11
 go_wp2_with fail
 refine (laws_szGame.calls k a0_0 A0_1 c0_1 l0_1 1048576 t0 _ (Kd.C_below HR0_1.out HB.out) HC0_1.out HT0.out).mono ?_
 rintro e w1 ⟨rfl, hb⟩
 have OD0 := Aside0.mk (show w.heap.size + 2 ≤ w1.heap.size from by have h_ := hb.size; (try simp at h_); omega)
 replace HB := Aside0.mk (HB.out.trans (hb.mono HB.out.size))
 replace BKA0 := Aside0.mk (blk_below BKA0.out hb)
 replace BKA1 := Aside0.mk (blk_below BKA1.out hb)
 clear hb
 have ha0 := (blk_cell BKA1.out 0).trans rfl
 have ha1 := (blk_cell BKA1.out 1).trans rfl
 go_wp2_with fail
 refine (laws_szGame.calls k a1_0 A1_1 c1_1 l1_1 t0 t1 _ (Kd.C_below HR1_1.out HB.out) HC1_1.out HT1.out).mono ?_
 rintro e w2 ⟨rfl, hb⟩
 clear ha0 ha1
 have OD1 := Aside0.mk (show w1.heap.size ≤ w2.heap.size from by have h_ := hb.size; (try simp at h_); omega)
 replace HB := Aside0.mk (HB.out.trans (hb.mono HB.out.size))
 replace BKA0 := Aside0.mk (blk_below BKA0.out hb)
 replace BKA1 := Aside0.mk (blk_below BKA1.out hb)
 clear hb
 go_wp2
 replace HB := Aside0.mk (below_drew1 HB.out)
 replace BKA0 := Aside0.mk (blk_drew BKA0.out)
 replace BKA1 := Aside0.mk (blk_drew BKA1.out)
 refine start_ (n := 11) (S := fun w' => w'.cell? ⟨w.heap.size, 0, none⟩ = some (.int .i64 a0_0) ∧ w'.cell? ⟨w.heap.size, 1, none⟩ = some (.slice A0_1 l0_1.length c0_1) ∧ w'.cell? ⟨w.heap.size + 1, 0, none⟩ = some (.int .i64 a1_0) ∧ w'.cell? ⟨w.heap.size + 1, 1, none⟩ = some (.slice A1_1 l1_1.length c1_1)) (ds := []) #[false, false, false, false, false, false, false, false, false, false, false] (by kernel_rfl) rfl rfl ⟨(blk_cell BKA0.out 0).trans rfl, (blk_cell BKA0.out 1).trans rfl, (blk_cell BKA1.out 0).trans rfl, (blk_cell BKA1.out 1).trans rfl⟩ (fun hHeld => ?_); refine with_tabW laws_FnExactProductGames.tab8 laws_FnExactProductGames.bits8 (fun HT_ HW_ => ?_)
 generalize w2.drew = wj0s at HB BKA0 BKA1 hHeld ⊢
 have HW0 := Aside0.mk (Below.refl wj0s.heap.size wj0s)
 have LTs_BKA0 := Aside0.mk (blk_lt BKA0.out)
 have LTs_BKA1 := Aside0.mk (blk_lt BKA1.out)
 have LTBs := Aside0.mk (show w.heap.size ≤ wj0s.heap.size from HB.out.size)
 refine take_ (i := 0) (N := some 28) (v := ?_) (a' := ?_) #[true, false, false, false, false, false, false, false, false, false, false] rfl rfl (take_ofW HT_.out HW_.out (by kernel_rfl)) (fun _ _ _ h => h) (Or.inl ⟨by rfl, ?_⟩) hHeld ?_ ?_
 rotate_left
 ·rintro w' ⟨s0, s1, s2, s3⟩
  go_simp
  with_reducible rfl
 rotate_left
 ·simp only [putAll, Act.put, sA, sZ, sS, i64_w, i32_w]
  rfl
 refine take_ (i := 2) (N := some 30) (v := ?_) (a' := ?_) #[true, false, true, false, false, false, false, false, false, false, false] rfl rfl (take_ofW HT_.out HW_.out (by kernel_rfl)) (fun _ _ _ h => h) (Or.inl ⟨by rfl, ?_⟩) hHeld ?_ ?_
 rotate_left
 ·rintro w' ⟨s0, s1, s2, s3⟩
  go_simp
  with_reducible rfl
 rotate_left
 ·simp only [putAll, Act.put, sA, sZ, sS, i64_w, i32_w]
  rfl
 refine join_ (σ := (Option Addr) × (Nat) × (Option Addr) × (Nat) × (Option Addr) × (Nat) × (Nat) × Unit) 2 #[true, true, true, true, true, true, true, true, true, false, false] (fun s_ => match s_ with | (As0, cs0, As1, cs1, As, cs, b6, _u) => [(29, .agg #[.int .i64 q0, .slice As0 y0.length cs0]), (31, .agg #[.int .i64 q1, .slice As1 y1.length cs1]), (32, .tuple #[.agg #[.int .i64 sn, .slice As s.length cs], .bool gb]), (6, .pointer (some ⟨b6, 0, none⟩)), (27, .tuple #[.agg #[.int .i64 sn, .slice As s.length cs], .bool gb]), (33, .agg #[.int .i64 sn, .slice As s.length cs]), (34, .bool gb)]) (fun s_ w' => match s_ with | (As0, cs0, As1, cs1, As, cs, b6, _u) => (Aside0 (Below wj0s.heap.size wj0s w') ∧ Aside0 (Kd.S (Kd.slice 3 (Kd.int .i64)) 36 w' w.heap.size (fun _ => True) (.slice As0 y0.length cs0) y0) ∧ Aside0 (Kd.S (Kd.slice 3 (Kd.int .i64)) 36 w' w.heap.size (fun _ => True) (.slice As1 y1.length cs1) y1) ∧ Aside0 (Kd.S (Kd.slice 3 (Kd.int .i64)) 36 w' w.heap.size (fun _ => True) (.slice As s.length cs) s) ∧ Aside0 (w'.heap[b6]? = some (.cells #[.int .i64 0, .slice none 0 0] 28 (0, 0))) ∧ Aside0 (wj0s.heap.size ≤ b6))) ?_ ?_
 rotate_left
 ·intro hCs_3_0
  refine join_ (σ := (Option Addr) × (Nat) × (Option Addr) × (Nat) × (Nat) × Unit) 6 #[true, true, true, true, false, false, false, false, true, false, false] (fun s_ => match s_ with | (As0, cs0, As1, cs1, b6, _u) => [(29, .agg #[.int .i64 q0, .slice As0 y0.length cs0]), (31, .agg #[.int .i64 q1, .slice As1 y1.length cs1]), (6, .pointer (some ⟨b6, 0, none⟩))]) (fun s_ w' => match s_ with | (As0, cs0, As1, cs1, b6, _u) => (Aside0 (Below wj0s.heap.size wj0s w') ∧ Aside0 (Kd.S (Kd.slice 3 (Kd.int .i64)) 36 w' w.heap.size (fun _ => True) (.slice As0 y0.length cs0) y0) ∧ Aside0 (Kd.S (Kd.slice 3 (Kd.int .i64)) 36 w' w.heap.size (fun _ => True) (.slice As1 y1.length cs1) y1) ∧ Aside0 (w'.heap[b6]? = some (.cells #[.int .i64 0, .slice none 0 0] 28 (0, 0))) ∧ Aside0 (wj0s.heap.size ≤ b6))) ?_ ?_
  ·skip
   clear HW0
   rintro ⟨As0, cs0, As1, cs1, b6, _u⟩ wjs2_0 ⟨HW0, Os0, Os1, BK_b6, GE_b6⟩
   refine norm_ (a' := ?_) ?_ ?_
   rotate_left
   ·simp only [putAll, Act.put, sA, sZ, sS, i64_w, i32_w]
    rfl
   refine one_ (i := 4) (N := some 32) #[true, true, true, true, true, false, false, false, true, false, false] rfl rfl (one_of HT_.out (by kernel_rfl)) (by decide) (fun K hK => ?_)
   refine goes_ Try.func49 (by kernel_rfl) rfl #[.agg #[.int .i64 q0, .slice As0 y0.length cs0], .agg #[.int .i64 q1, .slice As1 y1.length cs1]] (by rfl) rfl rfl (by (try simp only [mA, mC, mN]); first | done | rfl) ?_
   refine (spec_ProductGames.calls k q0 As0 cs0 y0 q1 As1 cs1 y1 sn s gb _ (Kd.S_reads' Os0.out).2.2 (Kd.S_reads' Os0.out).2.1 (Kd.S_reads' Os1.out).2.2 (Kd.S_reads' Os1.out).2.1 FS.out).mono ?_
   rintro e wjs2_0c ⟨u_, rfl, hO, hb⟩
   obtain ⟨As, cs, rfl⟩ := Kd.S_slice hO
   refine ⟨_, rfl, ?_⟩
   have Os := Aside0.mk (Kd.S_lower hO (HB.out.trans (HW0.out.mono HB.out.size)).size)
   replace HW0 := Aside0.mk (HW0.out.trans (hb.mono HW0.out.size))
   replace Os0 := Aside0.mk (Kd.S_below Os0.out hb)
   replace Os1 := Aside0.mk (Kd.S_below Os1.out hb)
   replace BK_b6 := Aside0.mk (blk_below BK_b6.out hb)
   clear hb hO
   refine hK.out _ _ ⟨(blk_cell (blk_below BKA0.out HW0.out) 0).trans rfl, (blk_cell (blk_below BKA0.out HW0.out) 1).trans rfl, (blk_cell (blk_below BKA1.out HW0.out) 0).trans rfl, (blk_cell (blk_below BKA1.out HW0.out) 1).trans rfl⟩ (fun _ => ?_)
   clear hK K
   refine norm_ (a' := ?_) ?_ ?_
   rotate_left
   ·show Act.put _ (some 32) _ = _
    simp only [putAll, Act.put, sA, sZ, sS, i64_w, i32_w]
    rfl
   refine pure_ (i := 5) (N := some 27) (v := ?_) (a' := ?_) #[true, true, true, true, true, true, false, false, true, false, false] rfl rfl (any_of HT_.out (by kernel_rfl)) (fun _ _ _ h => h) (Or.inl ⟨by rfl, ?_⟩) ?_ ?_
   rotate_left
   ·intro w'
    go_simp
    with_reducible rfl
   rotate_left
   ·simp only [putAll, Act.put, sA, sZ, sS, i64_w, i32_w]
    rfl
   refine pure_ (i := 6) (N := some 33) (v := ?_) (a' := ?_) #[true, true, true, true, true, true, true, false, true, false, false] rfl rfl (any_of HT_.out (by kernel_rfl)) (fun _ _ _ h => h) (Or.inl ⟨by rfl, ?_⟩) ?_ ?_
   rotate_left
   ·intro w'
    go_simp
    with_reducible rfl
   rotate_left
   ·simp only [putAll, Act.put, sA, sZ, sS, i64_w, i32_w]
    rfl
   refine pure_ (i := 7) (N := some 34) (v := ?_) (a' := ?_) #[true, true, true, true, true, true, true, true, true, false, false] rfl rfl (any_of HT_.out (by kernel_rfl)) (fun _ _ _ h => h) (Or.inl ⟨by rfl, ?_⟩) ?_ ?_
   rotate_left
   ·intro w'
    go_simp
    with_reducible rfl
   rotate_left
   ·simp only [putAll, Act.put, sA, sZ, sS, i64_w, i32_w]
    rfl
   exact norm_ (by simp only [putAll, Act.put, sA, sZ, sS, i64_w, i32_w]) (hCs_3_0 (As0, cs0, As1, cs1, As, cs, b6, ()) _ ⟨HW0, Os0, Os1, Os, BK_b6, GE_b6⟩)
  intro hCs_2_0
  refine join_ (σ := (Option Addr) × (Nat) × (Option Addr) × (Nat) × (Option Addr) × (Nat) × Unit) 3 #[true, true, true, true, true, true, true, true, false, false, false] (fun s_ => match s_ with | (As0, cs0, As1, cs1, As, cs, _u) => [(29, .agg #[.int .i64 q0, .slice As0 y0.length cs0]), (31, .agg #[.int .i64 q1, .slice As1 y1.length cs1]), (32, .tuple #[.agg #[.int .i64 sn, .slice As s.length cs], .bool gb]), (27, .tuple #[.agg #[.int .i64 sn, .slice As s.length cs], .bool gb]), (33, .agg #[.int .i64 sn, .slice As s.length cs]), (34, .bool gb)]) (fun s_ w' => match s_ with | (As0, cs0, As1, cs1, As, cs, _u) => (Aside0 (Below wj0s.heap.size wj0s w') ∧ Aside0 (Kd.S (Kd.slice 3 (Kd.int .i64)) 36 w' w.heap.size (fun _ => True) (.slice As0 y0.length cs0) y0) ∧ Aside0 (Kd.S (Kd.slice 3 (Kd.int .i64)) 36 w' w.heap.size (fun _ => True) (.slice As1 y1.length cs1) y1) ∧ Aside0 (Kd.S (Kd.slice 3 (Kd.int .i64)) 36 w' w.heap.size (fun _ => True) (.slice As s.length cs) s))) ?_ ?_
  ·skip
   clear HW0
   rintro ⟨As0, cs0, As1, cs1, As, cs, _u⟩ wjs3_ ⟨HW0, Os0, Os1, Os⟩
   refine norm_ (a' := ?_) ?_ ?_
   rotate_left
   ·simp only [putAll, Act.put, sA, sZ, sS, i64_w, i32_w]
    rfl
   refine one_ (i := 8) (N := some 6) #[true, true, true, true, true, true, true, true, true, false, false] rfl rfl (one_of HT_.out (by kernel_rfl)) (by decide) (fun K hK => ?_)
   refine box_step ?hg (N := 6) ?hd (cs := #[.int .i64 0, .slice none 0 0]) (t := 28) ?hr ?_; (case hd => rfl); (case hg => rfl); (case hr => first | (go_simp; done) | (go_simp; rfl))
   intro b6 hg wjs3_b hbox hb
   have BK_b6 := Aside0.mk hbox
   have GE_b6 : Aside0 (wj0s.heap.size ≤ b6) := ⟨by rw [hg]; exact HW0.out.size⟩
   replace HW0 := Aside0.mk (HW0.out.trans (hb.mono HW0.out.size))
   replace Os0 := Aside0.mk (Kd.S_below Os0.out hb)
   replace Os1 := Aside0.mk (Kd.S_below Os1.out hb)
   replace Os := Aside0.mk (Kd.S_below Os.out hb)
   clear hb hbox hg
   refine hK.out _ _ ⟨(blk_cell (blk_below BKA0.out HW0.out) 0).trans rfl, (blk_cell (blk_below BKA0.out HW0.out) 1).trans rfl, (blk_cell (blk_below BKA1.out HW0.out) 0).trans rfl, (blk_cell (blk_below BKA1.out HW0.out) 1).trans rfl⟩ (fun _ => ?_)
   clear hK K
   refine norm_ (a' := ?_) ?_ ?_
   rotate_left
   ·show Act.put _ (some 6) _ = _
    simp only [putAll, Act.put, sA, sZ, sS, i64_w, i32_w]
    rfl
   exact norm_ (by simp only [putAll, Act.put, sA, sZ, sS, i64_w, i32_w]) (hCs_3_0 (As0, cs0, As1, cs1, As, cs, b6, ()) _ ⟨HW0, Os0, Os1, Os, BK_b6, GE_b6⟩)
  intro hCs_3_
  refine join_ (σ := (Option Addr) × (Nat) × (Nat) × Unit) 7 #[true, true, true, false, false, false, false, false, true, false, false] (fun s_ => match s_ with | (As0, cs0, b6, _u) => [(29, .agg #[.int .i64 q0, .slice As0 y0.length cs0]), (6, .pointer (some ⟨b6, 0, none⟩))]) (fun s_ w' => match s_ with | (As0, cs0, b6, _u) => (Aside0 (Below wj0s.heap.size wj0s w') ∧ Aside0 (Kd.S (Kd.slice 3 (Kd.int .i64)) 36 w' w.heap.size (fun _ => True) (.slice As0 y0.length cs0) y0) ∧ Aside0 (w'.heap[b6]? = some (.cells #[.int .i64 0, .slice none 0 0] 28 (0, 0))) ∧ Aside0 (wj0s.heap.size ≤ b6))) ?_ ?_
  ·skip
   clear HW0
   rintro ⟨As0, cs0, b6, _u⟩ wjs1_0 ⟨HW0, Os0, BK_b6, GE_b6⟩
   refine norm_ (a' := ?_) ?_ ?_
   rotate_left
   ·simp only [putAll, Act.put, sA, sZ, sS, i64_w, i32_w]
    rfl
   refine one_ (i := 3) (N := some 31) #[true, true, true, true, false, false, false, false, true, false, false] rfl rfl (one_of HT_.out (by kernel_rfl)) (by decide) (fun K hK => ?_)
   refine goes_ Try.func33 (by kernel_rfl) rfl #[.agg #[.int .i64 a1_0, .slice A1_1 l1_1.length c1_1]] (by rfl) rfl rfl (by (try simp only [mA, mC, mN]); first | done | rfl) ?_
   refine (laws_toGame.calls k a1_0 A1_1 c1_1 l1_1 q1 y1 _ (Kd.C_below HR1_1.out (HB.out.trans (HW0.out.mono HB.out.size))) HC1_1.out FA1.out).mono ?_
   rintro e wjs1_0c ⟨u_, rfl, hO, hb⟩
   obtain ⟨As1, cs1, rfl⟩ := Kd.S_slice hO
   refine ⟨_, rfl, ?_⟩
   have Os1 := Aside0.mk (Kd.S_lower hO (HB.out.trans (HW0.out.mono HB.out.size)).size)
   replace HW0 := Aside0.mk (HW0.out.trans (hb.mono HW0.out.size))
   replace Os0 := Aside0.mk (Kd.S_below Os0.out hb)
   replace BK_b6 := Aside0.mk (blk_below BK_b6.out hb)
   clear hb hO
   refine hK.out _ _ ⟨(blk_cell (blk_below BKA0.out HW0.out) 0).trans rfl, (blk_cell (blk_below BKA0.out HW0.out) 1).trans rfl, (blk_cell (blk_below BKA1.out HW0.out) 0).trans rfl, (blk_cell (blk_below BKA1.out HW0.out) 1).trans rfl⟩ (fun _ => ?_)
   clear hK K
   refine norm_ (a' := ?_) ?_ ?_
   rotate_left
   ·show Act.put _ (some 31) _ = _
    simp only [putAll, Act.put, sA, sZ, sS, i64_w, i32_w]
    rfl
   exact norm_ (by simp only [putAll, Act.put, sA, sZ, sS, i64_w, i32_w]) (hCs_2_0 (As0, cs0, As1, cs1, b6, ()) _ ⟨HW0, Os0, Os1, BK_b6, GE_b6⟩)
  intro hCs_1_0
  refine join_ (σ := (Option Addr) × (Nat) × (Option Addr) × (Nat) × Unit) 7 #[true, true, true, true, false, false, false, false, false, false, false] (fun s_ => match s_ with | (As0, cs0, As1, cs1, _u) => [(29, .agg #[.int .i64 q0, .slice As0 y0.length cs0]), (31, .agg #[.int .i64 q1, .slice As1 y1.length cs1])]) (fun s_ w' => match s_ with | (As0, cs0, As1, cs1, _u) => (Aside0 (Below wj0s.heap.size wj0s w') ∧ Aside0 (Kd.S (Kd.slice 3 (Kd.int .i64)) 36 w' w.heap.size (fun _ => True) (.slice As0 y0.length cs0) y0) ∧ Aside0 (Kd.S (Kd.slice 3 (Kd.int .i64)) 36 w' w.heap.size (fun _ => True) (.slice As1 y1.length cs1) y1))) ?_ ?_
  ·skip
   clear HW0
   rintro ⟨As0, cs0, As1, cs1, _u⟩ wjs2_ ⟨HW0, Os0, Os1⟩
   refine norm_ (a' := ?_) ?_ ?_
   rotate_left
   ·simp only [putAll, Act.put, sA, sZ, sS, i64_w, i32_w]
    rfl
   refine two_ (i := 4) (j := 8) (Ni := some 32) (Nj := some 6) #[true, true, true, true, true, false, false, false, false, false, false] #[true, true, true, true, false, false, false, false, true, false, false] rfl rfl rfl rfl (two_of HT_.out (by kernel_rfl)) (by decide) (by decide) (fun K hK => ?_) (fun K hK => ?_)
   ·skip
    refine goes_ Try.func49 (by kernel_rfl) rfl #[.agg #[.int .i64 q0, .slice As0 y0.length cs0], .agg #[.int .i64 q1, .slice As1 y1.length cs1]] (by rfl) rfl rfl (by (try simp only [mA, mC, mN]); first | done | rfl) ?_
    refine (spec_ProductGames.calls k q0 As0 cs0 y0 q1 As1 cs1 y1 sn s gb _ (Kd.S_reads' Os0.out).2.2 (Kd.S_reads' Os0.out).2.1 (Kd.S_reads' Os1.out).2.2 (Kd.S_reads' Os1.out).2.1 FS.out).mono ?_
    rintro e wjs2_c ⟨u_, rfl, hO, hb⟩
    obtain ⟨As, cs, rfl⟩ := Kd.S_slice hO
    refine ⟨_, rfl, ?_⟩
    have Os := Aside0.mk (Kd.S_lower hO (HB.out.trans (HW0.out.mono HB.out.size)).size)
    replace HW0 := Aside0.mk (HW0.out.trans (hb.mono HW0.out.size))
    replace Os0 := Aside0.mk (Kd.S_below Os0.out hb)
    replace Os1 := Aside0.mk (Kd.S_below Os1.out hb)
    clear hb hO
    refine hK.out _ _ ⟨(blk_cell (blk_below BKA0.out HW0.out) 0).trans rfl, (blk_cell (blk_below BKA0.out HW0.out) 1).trans rfl, (blk_cell (blk_below BKA1.out HW0.out) 0).trans rfl, (blk_cell (blk_below BKA1.out HW0.out) 1).trans rfl⟩ (fun _ => ?_)
    clear hK K
    refine norm_ (a' := ?_) ?_ ?_
    rotate_left
    ·show Act.put _ (some 32) _ = _
     simp only [putAll, Act.put, sA, sZ, sS, i64_w, i32_w]
     rfl
    refine pure_ (i := 5) (N := some 27) (v := ?_) (a' := ?_) #[true, true, true, true, true, true, false, false, false, false, false] rfl rfl (any_of HT_.out (by kernel_rfl)) (fun _ _ _ h => h) (Or.inl ⟨by rfl, ?_⟩) ?_ ?_
    rotate_left
    ·intro w'
     go_simp
     with_reducible rfl
    rotate_left
    ·simp only [putAll, Act.put, sA, sZ, sS, i64_w, i32_w]
     rfl
    refine pure_ (i := 6) (N := some 33) (v := ?_) (a' := ?_) #[true, true, true, true, true, true, true, false, false, false, false] rfl rfl (any_of HT_.out (by kernel_rfl)) (fun _ _ _ h => h) (Or.inl ⟨by rfl, ?_⟩) ?_ ?_
    rotate_left
    ·intro w'
     go_simp
     with_reducible rfl
    rotate_left
    ·simp only [putAll, Act.put, sA, sZ, sS, i64_w, i32_w]
     rfl
    refine pure_ (i := 7) (N := some 34) (v := ?_) (a' := ?_) #[true, true, true, true, true, true, true, true, false, false, false] rfl rfl (any_of HT_.out (by kernel_rfl)) (fun _ _ _ h => h) (Or.inl ⟨by rfl, ?_⟩) ?_ ?_
    rotate_left
    ·intro w'
     go_simp
     with_reducible rfl
    rotate_left
    ·simp only [putAll, Act.put, sA, sZ, sS, i64_w, i32_w]
     rfl
    exact norm_ (by simp only [putAll, Act.put, sA, sZ, sS, i64_w, i32_w]) (hCs_3_ (As0, cs0, As1, cs1, As, cs, ()) _ ⟨HW0, Os0, Os1, Os⟩)
   ·skip
    refine box_step ?hg (N := 6) ?hd (cs := #[.int .i64 0, .slice none 0 0]) (t := 28) ?hr ?_; (case hd => rfl); (case hg => rfl); (case hr => first | (go_simp; done) | (go_simp; rfl))
    intro b6 hg wjs2_b hbox hb
    have BK_b6 := Aside0.mk hbox
    have GE_b6 : Aside0 (wj0s.heap.size ≤ b6) := ⟨by rw [hg]; exact HW0.out.size⟩
    replace HW0 := Aside0.mk (HW0.out.trans (hb.mono HW0.out.size))
    replace Os0 := Aside0.mk (Kd.S_below Os0.out hb)
    replace Os1 := Aside0.mk (Kd.S_below Os1.out hb)
    clear hb hbox hg
    refine hK.out _ _ ⟨(blk_cell (blk_below BKA0.out HW0.out) 0).trans rfl, (blk_cell (blk_below BKA0.out HW0.out) 1).trans rfl, (blk_cell (blk_below BKA1.out HW0.out) 0).trans rfl, (blk_cell (blk_below BKA1.out HW0.out) 1).trans rfl⟩ (fun _ => ?_)
    clear hK K
    refine norm_ (a' := ?_) ?_ ?_
    rotate_left
    ·show Act.put _ (some 6) _ = _
     simp only [putAll, Act.put, sA, sZ, sS, i64_w, i32_w]
     rfl
    exact norm_ (by simp only [putAll, Act.put, sA, sZ, sS, i64_w, i32_w]) (hCs_2_0 (As0, cs0, As1, cs1, b6, ()) _ ⟨HW0, Os0, Os1, BK_b6, GE_b6⟩)
  intro hCs_2_
  refine join_ (σ := (Nat) × Unit) 8 #[true, false, true, false, false, false, false, false, true, false, false] (fun s_ => match s_ with | (b6, _u) => [(6, .pointer (some ⟨b6, 0, none⟩))]) (fun s_ w' => match s_ with | (b6, _u) => (Aside0 (Below wj0s.heap.size wj0s w') ∧ Aside0 (w'.heap[b6]? = some (.cells #[.int .i64 0, .slice none 0 0] 28 (0, 0))) ∧ Aside0 (wj0s.heap.size ≤ b6))) ?_ ?_
  ·skip
   clear HW0
   rintro ⟨b6, _u⟩ wjs0_0 ⟨HW0, BK_b6, GE_b6⟩
   refine norm_ (a' := ?_) ?_ ?_
   rotate_left
   ·simp only [putAll, Act.put, sA, sZ, sS, i64_w, i32_w]
    rfl
   refine one_ (i := 1) (N := some 29) #[true, true, true, false, false, false, false, false, true, false, false] rfl rfl (one_of HT_.out (by kernel_rfl)) (by decide) (fun K hK => ?_)
   refine goes_ Try.func33 (by kernel_rfl) rfl #[.agg #[.int .i64 a0_0, .slice A0_1 l0_1.length c0_1]] (by rfl) rfl rfl (by (try simp only [mA, mC, mN]); first | done | rfl) ?_
   refine (laws_toGame.calls k a0_0 A0_1 c0_1 l0_1 q0 y0 _ (Kd.C_below HR0_1.out (HB.out.trans (HW0.out.mono HB.out.size))) HC0_1.out FA0.out).mono ?_
   rintro e wjs0_0c ⟨u_, rfl, hO, hb⟩
   obtain ⟨As0, cs0, rfl⟩ := Kd.S_slice hO
   refine ⟨_, rfl, ?_⟩
   have Os0 := Aside0.mk (Kd.S_lower hO (HB.out.trans (HW0.out.mono HB.out.size)).size)
   replace HW0 := Aside0.mk (HW0.out.trans (hb.mono HW0.out.size))
   replace BK_b6 := Aside0.mk (blk_below BK_b6.out hb)
   clear hb hO
   refine hK.out _ _ ⟨(blk_cell (blk_below BKA0.out HW0.out) 0).trans rfl, (blk_cell (blk_below BKA0.out HW0.out) 1).trans rfl, (blk_cell (blk_below BKA1.out HW0.out) 0).trans rfl, (blk_cell (blk_below BKA1.out HW0.out) 1).trans rfl⟩ (fun _ => ?_)
   clear hK K
   refine norm_ (a' := ?_) ?_ ?_
   rotate_left
   ·show Act.put _ (some 29) _ = _
    simp only [putAll, Act.put, sA, sZ, sS, i64_w, i32_w]
    rfl
   exact norm_ (by simp only [putAll, Act.put, sA, sZ, sS, i64_w, i32_w]) (hCs_1_0 (As0, cs0, b6, ()) _ ⟨HW0, Os0, BK_b6, GE_b6⟩)
  intro hCs_0_0
  refine join_ (σ := (Option Addr) × (Nat) × Unit) 8 #[true, true, true, false, false, false, false, false, false, false, false] (fun s_ => match s_ with | (As0, cs0, _u) => [(29, .agg #[.int .i64 q0, .slice As0 y0.length cs0])]) (fun s_ w' => match s_ with | (As0, cs0, _u) => (Aside0 (Below wj0s.heap.size wj0s w') ∧ Aside0 (Kd.S (Kd.slice 3 (Kd.int .i64)) 36 w' w.heap.size (fun _ => True) (.slice As0 y0.length cs0) y0))) ?_ ?_
  ·skip
   clear HW0
   rintro ⟨As0, cs0, _u⟩ wjs1_ ⟨HW0, Os0⟩
   refine norm_ (a' := ?_) ?_ ?_
   rotate_left
   ·simp only [putAll, Act.put, sA, sZ, sS, i64_w, i32_w]
    rfl
   refine two_ (i := 3) (j := 8) (Ni := some 31) (Nj := some 6) #[true, true, true, true, false, false, false, false, false, false, false] #[true, true, true, false, false, false, false, false, true, false, false] rfl rfl rfl rfl (two_of HT_.out (by kernel_rfl)) (by decide) (by decide) (fun K hK => ?_) (fun K hK => ?_)
   ·skip
    refine goes_ Try.func33 (by kernel_rfl) rfl #[.agg #[.int .i64 a1_0, .slice A1_1 l1_1.length c1_1]] (by rfl) rfl rfl (by (try simp only [mA, mC, mN]); first | done | rfl) ?_
    refine (laws_toGame.calls k a1_0 A1_1 c1_1 l1_1 q1 y1 _ (Kd.C_below HR1_1.out (HB.out.trans (HW0.out.mono HB.out.size))) HC1_1.out FA1.out).mono ?_
    rintro e wjs1_c ⟨u_, rfl, hO, hb⟩
    obtain ⟨As1, cs1, rfl⟩ := Kd.S_slice hO
    refine ⟨_, rfl, ?_⟩
    have Os1 := Aside0.mk (Kd.S_lower hO (HB.out.trans (HW0.out.mono HB.out.size)).size)
    replace HW0 := Aside0.mk (HW0.out.trans (hb.mono HW0.out.size))
    replace Os0 := Aside0.mk (Kd.S_below Os0.out hb)
    clear hb hO
    refine hK.out _ _ ⟨(blk_cell (blk_below BKA0.out HW0.out) 0).trans rfl, (blk_cell (blk_below BKA0.out HW0.out) 1).trans rfl, (blk_cell (blk_below BKA1.out HW0.out) 0).trans rfl, (blk_cell (blk_below BKA1.out HW0.out) 1).trans rfl⟩ (fun _ => ?_)
    clear hK K
    refine norm_ (a' := ?_) ?_ ?_
    rotate_left
    ·show Act.put _ (some 31) _ = _
     simp only [putAll, Act.put, sA, sZ, sS, i64_w, i32_w]
     rfl
    exact norm_ (by simp only [putAll, Act.put, sA, sZ, sS, i64_w, i32_w]) (hCs_2_ (As0, cs0, As1, cs1, ()) _ ⟨HW0, Os0, Os1⟩)
   ·skip
    refine box_step ?hg (N := 6) ?hd (cs := #[.int .i64 0, .slice none 0 0]) (t := 28) ?hr ?_; (case hd => rfl); (case hg => rfl); (case hr => first | (go_simp; done) | (go_simp; rfl))
    intro b6 hg wjs1_b hbox hb
    have BK_b6 := Aside0.mk hbox
    have GE_b6 : Aside0 (wj0s.heap.size ≤ b6) := ⟨by rw [hg]; exact HW0.out.size⟩
    replace HW0 := Aside0.mk (HW0.out.trans (hb.mono HW0.out.size))
    replace Os0 := Aside0.mk (Kd.S_below Os0.out hb)
    clear hb hbox hg
    refine hK.out _ _ ⟨(blk_cell (blk_below BKA0.out HW0.out) 0).trans rfl, (blk_cell (blk_below BKA0.out HW0.out) 1).trans rfl, (blk_cell (blk_below BKA1.out HW0.out) 0).trans rfl, (blk_cell (blk_below BKA1.out HW0.out) 1).trans rfl⟩ (fun _ => ?_)
    clear hK K
    refine norm_ (a' := ?_) ?_ ?_
    rotate_left
    ·show Act.put _ (some 6) _ = _
     simp only [putAll, Act.put, sA, sZ, sS, i64_w, i32_w]
     rfl
    exact norm_ (by simp only [putAll, Act.put, sA, sZ, sS, i64_w, i32_w]) (hCs_1_0 (As0, cs0, b6, ()) _ ⟨HW0, Os0, BK_b6, GE_b6⟩)
  intro hCs_1_
  refine two_ (i := 1) (j := 8) (Ni := some 29) (Nj := some 6) #[true, true, true, false, false, false, false, false, false, false, false] #[true, false, true, false, false, false, false, false, true, false, false] rfl rfl rfl rfl (two_of HT_.out (by kernel_rfl)) (by decide) (by decide) (fun K hK => ?_) (fun K hK => ?_)
  ·skip
   refine goes_ Try.func33 (by kernel_rfl) rfl #[.agg #[.int .i64 a0_0, .slice A0_1 l0_1.length c0_1]] (by rfl) rfl rfl (by (try simp only [mA, mC, mN]); first | done | rfl) ?_
   refine (laws_toGame.calls k a0_0 A0_1 c0_1 l0_1 q0 y0 _ (Kd.C_below HR0_1.out (HB.out.trans (HW0.out.mono HB.out.size))) HC0_1.out FA0.out).mono ?_
   rintro e wj0sc ⟨u_, rfl, hO, hb⟩
   obtain ⟨As0, cs0, rfl⟩ := Kd.S_slice hO
   refine ⟨_, rfl, ?_⟩
   have Os0 := Aside0.mk (Kd.S_lower hO (HB.out.trans (HW0.out.mono HB.out.size)).size)
   replace HW0 := Aside0.mk (HW0.out.trans (hb.mono HW0.out.size))
   clear hb hO
   refine hK.out _ _ ⟨(blk_cell (blk_below BKA0.out HW0.out) 0).trans rfl, (blk_cell (blk_below BKA0.out HW0.out) 1).trans rfl, (blk_cell (blk_below BKA1.out HW0.out) 0).trans rfl, (blk_cell (blk_below BKA1.out HW0.out) 1).trans rfl⟩ (fun _ => ?_)
   clear hK K
   refine norm_ (a' := ?_) ?_ ?_
   rotate_left
   ·show Act.put _ (some 29) _ = _
    simp only [putAll, Act.put, sA, sZ, sS, i64_w, i32_w]
    rfl
   exact norm_ (by simp only [putAll, Act.put, sA, sZ, sS, i64_w, i32_w]) (hCs_1_ (As0, cs0, ()) _ ⟨HW0, Os0⟩)
  ·skip
   refine box_step ?hg (N := 6) ?hd (cs := #[.int .i64 0, .slice none 0 0]) (t := 28) ?hr ?_; (case hd => rfl); (case hg => rfl); (case hr => first | (go_simp; done) | (go_simp; rfl))
   intro b6 hg wj0sb hbox hb
   have BK_b6 := Aside0.mk hbox
   have GE_b6 : Aside0 (wj0s.heap.size ≤ b6) := ⟨by rw [hg]; exact HW0.out.size⟩
   replace HW0 := Aside0.mk (HW0.out.trans (hb.mono HW0.out.size))
   clear hb hbox hg
   refine hK.out _ _ ⟨(blk_cell (blk_below BKA0.out HW0.out) 0).trans rfl, (blk_cell (blk_below BKA0.out HW0.out) 1).trans rfl, (blk_cell (blk_below BKA1.out HW0.out) 0).trans rfl, (blk_cell (blk_below BKA1.out HW0.out) 1).trans rfl⟩ (fun _ => ?_)
   clear hK K
   refine norm_ (a' := ?_) ?_ ?_
   rotate_left
   ·show Act.put _ (some 6) _ = _
    simp only [putAll, Act.put, sA, sZ, sS, i64_w, i32_w]
    rfl
   exact norm_ (by simp only [putAll, Act.put, sA, sZ, sS, i64_w, i32_w]) (hCs_0_0 (b6, ()) _ ⟨HW0, BK_b6, GE_b6⟩)
 clear HW0
 rintro ⟨As0, cs0, As1, cs1, As, cs, b6, _u⟩ wjfs ⟨HW0, Os0, Os1, Os, BK_b6, GE_b6⟩
 refine norm_ (a' := ?_) ?_ ?_
 rotate_left
 ·simp only [putAll, Act.put, sA, sZ, sS, i64_w, i32_w]
  rfl
 have hb := HW0.out
 replace HB := Aside0.mk (HB.out.trans (hb.mono HB.out.size))
 replace BKA0 := Aside0.mk (blk_below BKA0.out hb)
 replace BKA1 := Aside0.mk (blk_below BKA1.out hb)
 clear hb
 refine one_ (i := 9) (N := none) #[true, true, true, true, true, true, true, true, true, true, false] rfl rfl (one_of HT_.out (by kernel_rfl)) (by decide) (fun K hK => ?_)
 have hs0 := (blk_cell BK_b6.out 0).trans rfl
 have hs1 := (blk_cell BK_b6.out 1).trans rfl
 have hf0 := blk_frozen BK_b6.out 0
 have hf1 := blk_frozen BK_b6.out 1
 refine skip_ (w1 := ?_) (by rfl) rfl ?_ ?_
 rotate_left
 ·go_simp
  rfl
 clear hs0 hs1 hf0 hf1
 replace HB := Aside0.mk (below_set (j := 1) (v := .slice As s.length cs) (below_set (j := 0) (v := .int .i64 sn) HB.out (Nat.le_trans LTBs.out GE_b6.out)) (Nat.le_trans LTBs.out GE_b6.out))
 replace BKA0 := Aside0.mk (blk_far (blk_far BKA0.out (p := ⟨b6, 0, none⟩) (Nat.ne_of_lt (Nat.lt_of_lt_of_le LTs_BKA0.out GE_b6.out)) (.int .i64 sn)) (p := ⟨b6, 1, none⟩) (Nat.ne_of_lt (Nat.lt_of_lt_of_le LTs_BKA0.out GE_b6.out)) (.slice As s.length cs))
 replace BKA1 := Aside0.mk (blk_far (blk_far BKA1.out (p := ⟨b6, 0, none⟩) (Nat.ne_of_lt (Nat.lt_of_lt_of_le LTs_BKA1.out GE_b6.out)) (.int .i64 sn)) (p := ⟨b6, 1, none⟩) (Nat.ne_of_lt (Nat.lt_of_lt_of_le LTs_BKA1.out GE_b6.out)) (.slice As s.length cs))
 replace Os := Aside0.mk (Kd.S_set (Kd.S_set Os.out BK_b6.out (by decide) 0 (.int .i64 sn)) (blk_put BK_b6.out 0 (.int .i64 sn) rfl) (by decide) 1 (.slice As s.length cs))
 have nb_ := Aside0.mk (blk_put (blk_put BK_b6.out 0 (.int .i64 sn) rfl) 1 (.slice As s.length cs) rfl)
 clear HW0 BK_b6 Os0 Os1
 have BKs := nb_
 clear nb_
 generalize (wjfs.setCell ⟨b6, 0, none⟩ (.int .i64 sn)).setCell ⟨b6, 1, none⟩ (.slice As s.length cs) = wss at HB BKA0 BKA1 Os BKs ⊢
 refine hK.out _ _ ⟨(blk_cell BKA0.out 0).trans rfl, (blk_cell BKA0.out 1).trans rfl, (blk_cell BKA1.out 0).trans rfl, (blk_cell BKA1.out 1).trans rfl⟩ (fun hHeld => ?_)
 clear hK K hHeld
 refine pure_ (i := 10) (N := some 7) (v := ?_) (a' := ?_) #[true, true, true, true, true, true, true, true, true, true, true] rfl rfl (any_of HT_.out (by kernel_rfl)) (fun _ _ _ h => h) (Or.inl ⟨by rfl, ?_⟩) ?_ ?_
 rotate_left
 ·intro w'
  go_simp
  with_reducible rfl
 rotate_left
 ·simp only [putAll, Act.put, sA, sZ, sS, i64_w, i32_w]
  rfl
 refine done_ (done_of HT_.out (by kernel_rfl)) ?_
 clear HT_ HW_
 have NEW_ := Aside0.mk (Kd.S_mono (ok' := fun k_ => w.heap.size ≤ k_ ∧ k_ < wss.heap.size) (Kd.S_bound Os.out) (fun k_ hk_ => ⟨hk_.2.1, hk_.2.2.1⟩))
 clear Os
 have Os := NEW_
 clear NEW_
 have LBs := Aside0.mk (blk_lt BKs.out)
 have ha0_0 := (blk_cell BKA0.out 0).trans rfl
 have ha0_1 := (blk_cell BKA0.out 1).trans rfl
 go_wp2_with fail
 refine (laws_toGame.calls k a0_0 A0_1 c0_1 l0_1 q0 y0 _ (Kd.C_below HR0_1.out HB.out) HC0_1.out FA0.out).mono ?_
 rintro e w3 ⟨ux0, rfl, hO, hb⟩
 clear ha0_0 ha0_1
 have OD7 := Aside0.mk (show wss.heap.size ≤ w3.heap.size from by have h_ := hb.size; (try simp at h_); omega)
 obtain ⟨Ax0, cx0, rfl⟩ := Kd.S_slice hO
 have h0_ := Kd.S_bound hO
 have NEW_ := Aside0.mk (Kd.S_mono (ok' := fun k_ => wss.heap.size ≤ k_ ∧ k_ < w3.heap.size) (Kd.S_lower h0_ HB.out.size) (fun k_ hk_ => ⟨by have h1_ := hk_.2.1; (try simp at h1_); omega, hk_.2.2.1⟩))
 clear h0_
 replace HB := Aside0.mk (HB.out.trans (hb.mono HB.out.size))
 replace BKA0 := Aside0.mk (blk_below BKA0.out hb)
 replace BKA1 := Aside0.mk (blk_below BKA1.out hb)
 replace Os := Aside0.mk (Kd.S_below Os.out hb)
 replace BKs := Aside0.mk (blk_below BKs.out hb)
 clear hb hO
 have Ox0 := NEW_
 clear NEW_
 have NB_ := Aside0.mk (blk_new w3 (.cells #[.int .i64 q0, .slice Ax0 y0.length cx0] 28))
 replace HB := Aside0.mk (below_alloc HB.out (.cells #[.int .i64 q0, .slice Ax0 y0.length cx0] 28))
 replace BKA0 := Aside0.mk (blk_alloc BKA0.out (.cells #[.int .i64 q0, .slice Ax0 y0.length cx0] 28))
 replace BKA1 := Aside0.mk (blk_alloc BKA1.out (.cells #[.int .i64 q0, .slice Ax0 y0.length cx0] 28))
 replace Os := Aside0.mk (Kd.S_alloc Os.out (.cells #[.int .i64 q0, .slice Ax0 y0.length cx0] 28))
 replace BKs := Aside0.mk (blk_alloc BKs.out (.cells #[.int .i64 q0, .slice Ax0 y0.length cx0] 28))
 replace Ox0 := Aside0.mk (Kd.S_alloc Ox0.out (.cells #[.int .i64 q0, .slice Ax0 y0.length cx0] 28))
 have BKx0 := NB_
 clear NB_
 have ha1_0 := (blk_cell BKA1.out 0).trans rfl
 have ha1_1 := (blk_cell BKA1.out 1).trans rfl
 go_wp2_with fail
 refine (laws_toGame.calls k a1_0 A1_1 c1_1 l1_1 q1 y1 _ (Kd.C_below HR1_1.out HB.out) HC1_1.out FA1.out).mono ?_
 rintro e w4 ⟨ux1, rfl, hO, hb⟩
 clear ha1_0 ha1_1
 have OD8 := Aside0.mk (show w3.heap.size + 1 ≤ w4.heap.size from by have h_ := hb.size; (try simp at h_); omega)
 obtain ⟨Ax1, cx1, rfl⟩ := Kd.S_slice hO
 have h0_ := Kd.S_bound hO
 have NEW_ := Aside0.mk (Kd.S_mono (ok' := fun k_ => w3.heap.size + 1 ≤ k_ ∧ k_ < w4.heap.size) (Kd.S_lower h0_ HB.out.size) (fun k_ hk_ => ⟨by have h1_ := hk_.2.1; (try simp at h1_); omega, hk_.2.2.1⟩))
 clear h0_
 replace HB := Aside0.mk (HB.out.trans (hb.mono HB.out.size))
 replace BKA0 := Aside0.mk (blk_below BKA0.out hb)
 replace BKA1 := Aside0.mk (blk_below BKA1.out hb)
 replace Os := Aside0.mk (Kd.S_below Os.out hb)
 replace BKs := Aside0.mk (blk_below BKs.out hb)
 replace Ox0 := Aside0.mk (Kd.S_below Ox0.out hb)
 replace BKx0 := Aside0.mk (blk_below BKx0.out hb)
 clear hb hO
 have Ox1 := NEW_
 clear NEW_
 have NB_ := Aside0.mk (blk_new w4 (.cells #[.int .i64 q1, .slice Ax1 y1.length cx1] 28))
 replace HB := Aside0.mk (below_alloc HB.out (.cells #[.int .i64 q1, .slice Ax1 y1.length cx1] 28))
 replace BKA0 := Aside0.mk (blk_alloc BKA0.out (.cells #[.int .i64 q1, .slice Ax1 y1.length cx1] 28))
 replace BKA1 := Aside0.mk (blk_alloc BKA1.out (.cells #[.int .i64 q1, .slice Ax1 y1.length cx1] 28))
 replace Os := Aside0.mk (Kd.S_alloc Os.out (.cells #[.int .i64 q1, .slice Ax1 y1.length cx1] 28))
 replace BKs := Aside0.mk (blk_alloc BKs.out (.cells #[.int .i64 q1, .slice Ax1 y1.length cx1] 28))
 replace Ox0 := Aside0.mk (Kd.S_alloc Ox0.out (.cells #[.int .i64 q1, .slice Ax1 y1.length cx1] 28))
 replace BKx0 := Aside0.mk (blk_alloc BKx0.out (.cells #[.int .i64 q1, .slice Ax1 y1.length cx1] 28))
 replace Ox1 := Aside0.mk (Kd.S_alloc Ox1.out (.cells #[.int .i64 q1, .slice Ax1 y1.length cx1] 28))
 have BKx1 := NB_
 clear NB_
 have hx0_0 := (blk_cell BKx0.out 0).trans rfl
 have hx0_1 := (blk_cell BKx0.out 1).trans rfl
 have hx1_0 := (blk_cell BKx1.out 0).trans rfl
 have hx1_1 := (blk_cell BKx1.out 1).trans rfl
 go_wp2_with fail
 refine (impl_ProductGames.calls k q0 Ax0 cx0 y0 q1 Ax1 cx1 y1 gn g gb _ (Kd.S_reads' Ox0.out).2.2 (Kd.S_reads' Ox0.out).2.1 (Kd.S_reads' Ox1.out).2.2 (Kd.S_reads' Ox1.out).2.1 FG.out).mono ?_
 rintro e w5 ⟨ug, rfl, hO, hb⟩
 clear hx0_0 hx0_1 hx1_0 hx1_1
 have OD9 := Aside0.mk (show w4.heap.size + 1 ≤ w5.heap.size from by have h_ := hb.size; (try simp at h_); omega)
 obtain ⟨Ag, cg, rfl⟩ := Kd.S_slice hO
 have h0_ := Kd.S_bound hO
 have NEW_ := Aside0.mk (Kd.S_mono (ok' := fun k_ => w4.heap.size + 1 ≤ k_ ∧ k_ < w5.heap.size) (Kd.S_lower h0_ HB.out.size) (fun k_ hk_ => ⟨by have h1_ := hk_.2.1; (try simp at h1_); omega, hk_.2.2.1⟩))
 clear h0_
 replace HB := Aside0.mk (HB.out.trans (hb.mono HB.out.size))
 replace BKA0 := Aside0.mk (blk_below BKA0.out hb)
 replace BKA1 := Aside0.mk (blk_below BKA1.out hb)
 replace Os := Aside0.mk (Kd.S_below Os.out hb)
 replace BKs := Aside0.mk (blk_below BKs.out hb)
 replace Ox0 := Aside0.mk (Kd.S_below Ox0.out hb)
 replace BKx0 := Aside0.mk (blk_below BKx0.out hb)
 replace Ox1 := Aside0.mk (Kd.S_below Ox1.out hb)
 replace BKx1 := Aside0.mk (blk_below BKx1.out hb)
 clear hb hO
 have Og := NEW_
 clear NEW_
 have NB_ := Aside0.mk (blk_new w5 (.cells #[.int .i64 gn, .slice Ag g.length cg] 28))
 replace HB := Aside0.mk (below_alloc HB.out (.cells #[.int .i64 gn, .slice Ag g.length cg] 28))
 replace BKA0 := Aside0.mk (blk_alloc BKA0.out (.cells #[.int .i64 gn, .slice Ag g.length cg] 28))
 replace BKA1 := Aside0.mk (blk_alloc BKA1.out (.cells #[.int .i64 gn, .slice Ag g.length cg] 28))
 replace Os := Aside0.mk (Kd.S_alloc Os.out (.cells #[.int .i64 gn, .slice Ag g.length cg] 28))
 replace BKs := Aside0.mk (blk_alloc BKs.out (.cells #[.int .i64 gn, .slice Ag g.length cg] 28))
 replace Ox0 := Aside0.mk (Kd.S_alloc Ox0.out (.cells #[.int .i64 gn, .slice Ag g.length cg] 28))
 replace BKx0 := Aside0.mk (blk_alloc BKx0.out (.cells #[.int .i64 gn, .slice Ag g.length cg] 28))
 replace Ox1 := Aside0.mk (Kd.S_alloc Ox1.out (.cells #[.int .i64 gn, .slice Ag g.length cg] 28))
 replace BKx1 := Aside0.mk (blk_alloc BKx1.out (.cells #[.int .i64 gn, .slice Ag g.length cg] 28))
 replace Og := Aside0.mk (Kd.S_alloc Og.out (.cells #[.int .i64 gn, .slice Ag g.length cg] 28))
 have BKg := NB_
 clear NB_
 have hg0 := (blk_cell BKg.out 0).trans rfl
 have hg1 := (blk_cell BKg.out 1).trans rfl
 have hs0 := (blk_cell BKs.out 0).trans rfl
 have hs1 := (blk_cell BKs.out 1).trans rfl
 go_wp2_with fail
 refine (laws_eqGame.calls k gn Ag cg g sn As cs s true _ (Kd.S_reads' Og.out).2.2 (Kd.S_reads' Og.out).2.1 (Kd.S_reads' Os.out).2.2 (Kd.S_reads' Os.out).2.1 FE.out).mono ?_
 rintro e w6 ⟨rfl, hb⟩
 clear hg0 hg1 hs0 hs1
 have OD10 := Aside0.mk (show w5.heap.size + 1 ≤ w6.heap.size from by have h_ := hb.size; (try simp at h_); omega)
 replace HB := Aside0.mk (HB.out.trans (hb.mono HB.out.size))
 replace BKA0 := Aside0.mk (blk_below BKA0.out hb)
 replace BKA1 := Aside0.mk (blk_below BKA1.out hb)
 replace Os := Aside0.mk (Kd.S_below Os.out hb)
 replace BKs := Aside0.mk (blk_below BKs.out hb)
 replace Ox0 := Aside0.mk (Kd.S_below Ox0.out hb)
 replace BKx0 := Aside0.mk (blk_below BKx0.out hb)
 replace Ox1 := Aside0.mk (Kd.S_below Ox1.out hb)
 replace BKx1 := Aside0.mk (blk_below BKx1.out hb)
 replace Og := Aside0.mk (Kd.S_below Og.out hb)
 replace BKg := Aside0.mk (blk_below BKg.out hb)
 clear hb
 go_wp2
 replace HB := Aside0.mk (below_drew1 HB.out)
 replace BKA0 := Aside0.mk (blk_drew BKA0.out)
 replace BKA1 := Aside0.mk (blk_drew BKA1.out)
 replace Os := Aside0.mk (Kd.S_drew Os.out)
 replace BKs := Aside0.mk (blk_drew BKs.out)
 replace Ox0 := Aside0.mk (Kd.S_drew Ox0.out)
 replace BKx0 := Aside0.mk (blk_drew BKx0.out)
 replace Ox1 := Aside0.mk (Kd.S_drew Ox1.out)
 replace BKx1 := Aside0.mk (blk_drew BKx1.out)
 replace Og := Aside0.mk (Kd.S_drew Og.out)
 replace BKg := Aside0.mk (blk_drew BKg.out)
 have K0 := Aside0.mk ((blk_cell BKx0.out 0).trans rfl)
 have K1 := Aside0.mk ((blk_cell BKx0.out 1).trans rfl)
 have K2 := Aside0.mk ((blk_cell BKA0.out 0).trans rfl)
 have K3 := Aside0.mk ((blk_cell BKA0.out 1).trans rfl)
 go_region_held3 (fun w' => w'.cell? ⟨w3.heap.size, 0, none⟩ = some (.int .i64 q0) ∧ w'.cell? ⟨w3.heap.size, 1, none⟩ = some (.slice Ax0 y0.length cx0) ∧ w'.cell? ⟨w.heap.size, 0, none⟩ = some (.int .i64 a0_0) ∧ w'.cell? ⟨w.heap.size, 1, none⟩ = some (.slice A0_1 l0_1.length c0_1)) (first | exact ⟨K0.out, K1.out, K2.out, K3.out⟩ | exact ⟨k0, k1, k2, k3⟩ | go_keep)
  (first | (go_at_call 33; refine (laws_toGame.calls k a0_0 A0_1 c0_1 l0_1 q0 y0 _ (Kd.C_below HR0_1.out HB.out) HC0_1.out FA0.out).mono ?_; rintro e w7 ⟨uz0, rfl, hO, hb⟩; obtain ⟨Az0, cz0, rfl⟩ := Kd.S_slice hO; have OZ_ := Aside0.mk hO; have OS1_ := Aside0.mk hb.size; replace HB := Aside0.mk (HB.out.trans (hb.mono HB.out.size)); replace BKA0 := Aside0.mk (blk_below BKA0.out hb); replace BKA1 := Aside0.mk (blk_below BKA1.out hb); replace Os := Aside0.mk (Kd.S_below Os.out hb); replace BKs := Aside0.mk (blk_below BKs.out hb); replace Ox0 := Aside0.mk (Kd.S_below Ox0.out hb); replace BKx0 := Aside0.mk (blk_below BKx0.out hb); replace Ox1 := Aside0.mk (Kd.S_below Ox1.out hb); replace BKx1 := Aside0.mk (blk_below BKx1.out hb); replace Og := Aside0.mk (Kd.S_below Og.out hb); replace BKg := Aside0.mk (blk_below BKg.out hb); clear hb hO K0 K1 K2 K3; have k0 := (blk_cell BKx0.out 0).trans rfl; have k1 := (blk_cell BKx0.out 1).trans rfl; have k2 := (blk_cell BKA0.out 0).trans rfl; have k3 := (blk_cell BKA0.out 1).trans rfl) | (go_at_call 20; refine (laws_eqGame.calls k q0 Ax0 cx0 y0 q0 Az0 cz0 y0 true _ (Kd.S_reads' Ox0.out).2.2 (Kd.S_reads' Ox0.out).2.1 (Kd.S_reads' OZ_.out).2.2 (Kd.S_reads' OZ_.out).2.1 FE0.out).mono ?_; rintro e w8 ⟨rfl, hb⟩; have OS2_ := Aside0.mk hb.size; clear k0 k1 k2 k3; replace HB := Aside0.mk (HB.out.trans (hb.mono HB.out.size)); replace BKA0 := Aside0.mk (blk_below BKA0.out hb); replace BKA1 := Aside0.mk (blk_below BKA1.out hb); replace Os := Aside0.mk (Kd.S_below Os.out hb); replace BKs := Aside0.mk (blk_below BKs.out hb); replace Ox0 := Aside0.mk (Kd.S_below Ox0.out hb); replace BKx0 := Aside0.mk (blk_below BKx0.out hb); replace Ox1 := Aside0.mk (Kd.S_below Ox1.out hb); replace BKx1 := Aside0.mk (blk_below BKx1.out hb); replace Og := Aside0.mk (Kd.S_below Og.out hb); replace BKg := Aside0.mk (blk_below BKg.out hb); replace OZ_ := Aside0.mk (Kd.S_below OZ_.out hb); clear hb; have k0 := (blk_cell BKx0.out 0).trans rfl; have k1 := (blk_cell BKx0.out 1).trans rfl; have k2 := (blk_cell BKA0.out 0).trans rfl; have k3 := (blk_cell BKA0.out 1).trans rfl))
 have OD11 := Aside0.mk (show w6.heap.size ≤ w8.heap.size from by have h1_ := OS1_.out; have h2_ := OS2_.out; (try simp at h1_); (try simp at h2_); omega)
 clear k0 k1 k2 k3 OS1_ OS2_
 clear OZ_
 go_wp2
 replace HB := Aside0.mk (below_drew1 HB.out)
 replace BKA0 := Aside0.mk (blk_drew BKA0.out)
 replace BKA1 := Aside0.mk (blk_drew BKA1.out)
 replace Os := Aside0.mk (Kd.S_drew Os.out)
 replace BKs := Aside0.mk (blk_drew BKs.out)
 replace Ox0 := Aside0.mk (Kd.S_drew Ox0.out)
 replace BKx0 := Aside0.mk (blk_drew BKx0.out)
 replace Ox1 := Aside0.mk (Kd.S_drew Ox1.out)
 replace BKx1 := Aside0.mk (blk_drew BKx1.out)
 replace Og := Aside0.mk (Kd.S_drew Og.out)
 replace BKg := Aside0.mk (blk_drew BKg.out)
 have K0 := Aside0.mk ((blk_cell BKx1.out 0).trans rfl)
 have K1 := Aside0.mk ((blk_cell BKx1.out 1).trans rfl)
 have K2 := Aside0.mk ((blk_cell BKA1.out 0).trans rfl)
 have K3 := Aside0.mk ((blk_cell BKA1.out 1).trans rfl)
 go_region_held3 (fun w' => w'.cell? ⟨w4.heap.size, 0, none⟩ = some (.int .i64 q1) ∧ w'.cell? ⟨w4.heap.size, 1, none⟩ = some (.slice Ax1 y1.length cx1) ∧ w'.cell? ⟨w.heap.size + 1, 0, none⟩ = some (.int .i64 a1_0) ∧ w'.cell? ⟨w.heap.size + 1, 1, none⟩ = some (.slice A1_1 l1_1.length c1_1)) (first | exact ⟨K0.out, K1.out, K2.out, K3.out⟩ | exact ⟨k0, k1, k2, k3⟩ | go_keep)
  (first | (go_at_call 33; refine (laws_toGame.calls k a1_0 A1_1 c1_1 l1_1 q1 y1 _ (Kd.C_below HR1_1.out HB.out) HC1_1.out FA1.out).mono ?_; rintro e w9 ⟨uz1, rfl, hO, hb⟩; obtain ⟨Az1, cz1, rfl⟩ := Kd.S_slice hO; have OZ_ := Aside0.mk hO; have OS1_ := Aside0.mk hb.size; replace HB := Aside0.mk (HB.out.trans (hb.mono HB.out.size)); replace BKA0 := Aside0.mk (blk_below BKA0.out hb); replace BKA1 := Aside0.mk (blk_below BKA1.out hb); replace Os := Aside0.mk (Kd.S_below Os.out hb); replace BKs := Aside0.mk (blk_below BKs.out hb); replace Ox0 := Aside0.mk (Kd.S_below Ox0.out hb); replace BKx0 := Aside0.mk (blk_below BKx0.out hb); replace Ox1 := Aside0.mk (Kd.S_below Ox1.out hb); replace BKx1 := Aside0.mk (blk_below BKx1.out hb); replace Og := Aside0.mk (Kd.S_below Og.out hb); replace BKg := Aside0.mk (blk_below BKg.out hb); clear hb hO K0 K1 K2 K3; have k0 := (blk_cell BKx1.out 0).trans rfl; have k1 := (blk_cell BKx1.out 1).trans rfl; have k2 := (blk_cell BKA1.out 0).trans rfl; have k3 := (blk_cell BKA1.out 1).trans rfl) | (go_at_call 20; refine (laws_eqGame.calls k q1 Ax1 cx1 y1 q1 Az1 cz1 y1 true _ (Kd.S_reads' Ox1.out).2.2 (Kd.S_reads' Ox1.out).2.1 (Kd.S_reads' OZ_.out).2.2 (Kd.S_reads' OZ_.out).2.1 FE1.out).mono ?_; rintro e w10 ⟨rfl, hb⟩; have OS2_ := Aside0.mk hb.size; clear k0 k1 k2 k3; replace HB := Aside0.mk (HB.out.trans (hb.mono HB.out.size)); replace BKA0 := Aside0.mk (blk_below BKA0.out hb); replace BKA1 := Aside0.mk (blk_below BKA1.out hb); replace Os := Aside0.mk (Kd.S_below Os.out hb); replace BKs := Aside0.mk (blk_below BKs.out hb); replace Ox0 := Aside0.mk (Kd.S_below Ox0.out hb); replace BKx0 := Aside0.mk (blk_below BKx0.out hb); replace Ox1 := Aside0.mk (Kd.S_below Ox1.out hb); replace BKx1 := Aside0.mk (blk_below BKx1.out hb); replace Og := Aside0.mk (Kd.S_below Og.out hb); replace BKg := Aside0.mk (blk_below BKg.out hb); replace OZ_ := Aside0.mk (Kd.S_below OZ_.out hb); clear hb; have k0 := (blk_cell BKx1.out 0).trans rfl; have k1 := (blk_cell BKx1.out 1).trans rfl; have k2 := (blk_cell BKA1.out 0).trans rfl; have k3 := (blk_cell BKA1.out 1).trans rfl))
 have OD12 := Aside0.mk (show w8.heap.size ≤ w10.heap.size from by have h1_ := OS1_.out; have h2_ := OS2_.out; (try simp at h1_); (try simp at h2_); omega)
 clear k0 k1 k2 k3 OS1_ OS2_
 clear OZ_
 have hx0 := (blk_cell BKx0.out 0).trans rfl
 have hx1 := (blk_cell BKx0.out 1).trans rfl
 go_wp2_with fail
 refine (laws_markGame.callsB k q0 Ax0 cx0 y0 1 k0 u0 w.heap.size (fun k_ => wss.heap.size ≤ k_ ∧ k_ < w3.heap.size) _ HB.out.size Ox0.out FM0.out).mono ?_
 rintro e w11 ⟨rfl, _, hb, hk⟩
 clear hx0 hx1
 have OD13 := Aside0.mk (show w10.heap.size ≤ w11.heap.size from by have h_ := hk.1; (try simp at h_); omega)
 clear Ox0
 replace HB := Aside0.mk (HB.out.trans hb)
 replace BKA0 := Aside0.mk (blk_kept BKA0.out hk (fun hh_ => by obtain ⟨h1_, h2_⟩ := hh_; have o0_ := OD0.out; have o1_ := OD1.out; have o2_ := LTs_BKA0.out; have o3_ := LTs_BKA1.out; have o4_ := LTBs.out; have o5_ := GE_b6.out; have o6_ := LBs.out; have o7_ := OD7.out; have o8_ := OD8.out; have o9_ := OD9.out; have o10_ := OD10.out; have o11_ := OD11.out; have o12_ := OD12.out; have o13_ := OD13.out; omega))
 replace BKA1 := Aside0.mk (blk_kept BKA1.out hk (fun hh_ => by obtain ⟨h1_, h2_⟩ := hh_; have o0_ := OD0.out; have o1_ := OD1.out; have o2_ := LTs_BKA0.out; have o3_ := LTs_BKA1.out; have o4_ := LTBs.out; have o5_ := GE_b6.out; have o6_ := LBs.out; have o7_ := OD7.out; have o8_ := OD8.out; have o9_ := OD9.out; have o10_ := OD10.out; have o11_ := OD11.out; have o12_ := OD12.out; have o13_ := OD13.out; omega))
 replace Os := Aside0.mk (Kd.S_kept Os.out hk (fun k_ hk_ hh_ => by obtain ⟨h1_, h2_⟩ := hh_; obtain ⟨h3_, h4_⟩ := hk_; have o0_ := OD0.out; have o1_ := OD1.out; have o2_ := LTs_BKA0.out; have o3_ := LTs_BKA1.out; have o4_ := LTBs.out; have o5_ := GE_b6.out; have o6_ := LBs.out; have o7_ := OD7.out; have o8_ := OD8.out; have o9_ := OD9.out; have o10_ := OD10.out; have o11_ := OD11.out; have o12_ := OD12.out; have o13_ := OD13.out; omega))
 replace BKs := Aside0.mk (blk_kept BKs.out hk (fun hh_ => by obtain ⟨h1_, h2_⟩ := hh_; have o0_ := OD0.out; have o1_ := OD1.out; have o2_ := LTs_BKA0.out; have o3_ := LTs_BKA1.out; have o4_ := LTBs.out; have o5_ := GE_b6.out; have o6_ := LBs.out; have o7_ := OD7.out; have o8_ := OD8.out; have o9_ := OD9.out; have o10_ := OD10.out; have o11_ := OD11.out; have o12_ := OD12.out; have o13_ := OD13.out; omega))
 replace BKx0 := Aside0.mk (blk_kept BKx0.out hk (fun hh_ => by obtain ⟨h1_, h2_⟩ := hh_; have o0_ := OD0.out; have o1_ := OD1.out; have o2_ := LTs_BKA0.out; have o3_ := LTs_BKA1.out; have o4_ := LTBs.out; have o5_ := GE_b6.out; have o6_ := LBs.out; have o7_ := OD7.out; have o8_ := OD8.out; have o9_ := OD9.out; have o10_ := OD10.out; have o11_ := OD11.out; have o12_ := OD12.out; have o13_ := OD13.out; omega))
 replace Ox1 := Aside0.mk (Kd.S_kept Ox1.out hk (fun k_ hk_ hh_ => by obtain ⟨h1_, h2_⟩ := hh_; obtain ⟨h3_, h4_⟩ := hk_; have o0_ := OD0.out; have o1_ := OD1.out; have o2_ := LTs_BKA0.out; have o3_ := LTs_BKA1.out; have o4_ := LTBs.out; have o5_ := GE_b6.out; have o6_ := LBs.out; have o7_ := OD7.out; have o8_ := OD8.out; have o9_ := OD9.out; have o10_ := OD10.out; have o11_ := OD11.out; have o12_ := OD12.out; have o13_ := OD13.out; omega))
 replace BKx1 := Aside0.mk (blk_kept BKx1.out hk (fun hh_ => by obtain ⟨h1_, h2_⟩ := hh_; have o0_ := OD0.out; have o1_ := OD1.out; have o2_ := LTs_BKA0.out; have o3_ := LTs_BKA1.out; have o4_ := LTBs.out; have o5_ := GE_b6.out; have o6_ := LBs.out; have o7_ := OD7.out; have o8_ := OD8.out; have o9_ := OD9.out; have o10_ := OD10.out; have o11_ := OD11.out; have o12_ := OD12.out; have o13_ := OD13.out; omega))
 replace Og := Aside0.mk (Kd.S_kept Og.out hk (fun k_ hk_ hh_ => by obtain ⟨h1_, h2_⟩ := hh_; obtain ⟨h3_, h4_⟩ := hk_; have o0_ := OD0.out; have o1_ := OD1.out; have o2_ := LTs_BKA0.out; have o3_ := LTs_BKA1.out; have o4_ := LTBs.out; have o5_ := GE_b6.out; have o6_ := LBs.out; have o7_ := OD7.out; have o8_ := OD8.out; have o9_ := OD9.out; have o10_ := OD10.out; have o11_ := OD11.out; have o12_ := OD12.out; have o13_ := OD13.out; omega))
 replace BKg := Aside0.mk (blk_kept BKg.out hk (fun hh_ => by obtain ⟨h1_, h2_⟩ := hh_; have o0_ := OD0.out; have o1_ := OD1.out; have o2_ := LTs_BKA0.out; have o3_ := LTs_BKA1.out; have o4_ := LTBs.out; have o5_ := GE_b6.out; have o6_ := LBs.out; have o7_ := OD7.out; have o8_ := OD8.out; have o9_ := OD9.out; have o10_ := OD10.out; have o11_ := OD11.out; have o12_ := OD12.out; have o13_ := OD13.out; omega))
 clear hb hk
 have hx0 := (blk_cell BKx1.out 0).trans rfl
 have hx1 := (blk_cell BKx1.out 1).trans rfl
 go_wp2_with fail
 refine (laws_markGame.callsB k q1 Ax1 cx1 y1 k0 k1 u1 w.heap.size (fun k_ => w3.heap.size + 1 ≤ k_ ∧ k_ < w4.heap.size) _ HB.out.size Ox1.out FM1.out).mono ?_
 rintro e w12 ⟨rfl, _, hb, hk⟩
 clear hx0 hx1
 have OD14 := Aside0.mk (show w11.heap.size ≤ w12.heap.size from by have h_ := hk.1; (try simp at h_); omega)
 clear Ox1
 replace HB := Aside0.mk (HB.out.trans hb)
 replace BKA0 := Aside0.mk (blk_kept BKA0.out hk (fun hh_ => by obtain ⟨h1_, h2_⟩ := hh_; have o0_ := OD0.out; have o1_ := OD1.out; have o2_ := LTs_BKA0.out; have o3_ := LTs_BKA1.out; have o4_ := LTBs.out; have o5_ := GE_b6.out; have o6_ := LBs.out; have o7_ := OD7.out; have o8_ := OD8.out; have o9_ := OD9.out; have o10_ := OD10.out; have o11_ := OD11.out; have o12_ := OD12.out; have o13_ := OD13.out; have o14_ := OD14.out; omega))
 replace BKA1 := Aside0.mk (blk_kept BKA1.out hk (fun hh_ => by obtain ⟨h1_, h2_⟩ := hh_; have o0_ := OD0.out; have o1_ := OD1.out; have o2_ := LTs_BKA0.out; have o3_ := LTs_BKA1.out; have o4_ := LTBs.out; have o5_ := GE_b6.out; have o6_ := LBs.out; have o7_ := OD7.out; have o8_ := OD8.out; have o9_ := OD9.out; have o10_ := OD10.out; have o11_ := OD11.out; have o12_ := OD12.out; have o13_ := OD13.out; have o14_ := OD14.out; omega))
 replace Os := Aside0.mk (Kd.S_kept Os.out hk (fun k_ hk_ hh_ => by obtain ⟨h1_, h2_⟩ := hh_; obtain ⟨h3_, h4_⟩ := hk_; have o0_ := OD0.out; have o1_ := OD1.out; have o2_ := LTs_BKA0.out; have o3_ := LTs_BKA1.out; have o4_ := LTBs.out; have o5_ := GE_b6.out; have o6_ := LBs.out; have o7_ := OD7.out; have o8_ := OD8.out; have o9_ := OD9.out; have o10_ := OD10.out; have o11_ := OD11.out; have o12_ := OD12.out; have o13_ := OD13.out; have o14_ := OD14.out; omega))
 replace BKs := Aside0.mk (blk_kept BKs.out hk (fun hh_ => by obtain ⟨h1_, h2_⟩ := hh_; have o0_ := OD0.out; have o1_ := OD1.out; have o2_ := LTs_BKA0.out; have o3_ := LTs_BKA1.out; have o4_ := LTBs.out; have o5_ := GE_b6.out; have o6_ := LBs.out; have o7_ := OD7.out; have o8_ := OD8.out; have o9_ := OD9.out; have o10_ := OD10.out; have o11_ := OD11.out; have o12_ := OD12.out; have o13_ := OD13.out; have o14_ := OD14.out; omega))
 replace BKx0 := Aside0.mk (blk_kept BKx0.out hk (fun hh_ => by obtain ⟨h1_, h2_⟩ := hh_; have o0_ := OD0.out; have o1_ := OD1.out; have o2_ := LTs_BKA0.out; have o3_ := LTs_BKA1.out; have o4_ := LTBs.out; have o5_ := GE_b6.out; have o6_ := LBs.out; have o7_ := OD7.out; have o8_ := OD8.out; have o9_ := OD9.out; have o10_ := OD10.out; have o11_ := OD11.out; have o12_ := OD12.out; have o13_ := OD13.out; have o14_ := OD14.out; omega))
 replace BKx1 := Aside0.mk (blk_kept BKx1.out hk (fun hh_ => by obtain ⟨h1_, h2_⟩ := hh_; have o0_ := OD0.out; have o1_ := OD1.out; have o2_ := LTs_BKA0.out; have o3_ := LTs_BKA1.out; have o4_ := LTBs.out; have o5_ := GE_b6.out; have o6_ := LBs.out; have o7_ := OD7.out; have o8_ := OD8.out; have o9_ := OD9.out; have o10_ := OD10.out; have o11_ := OD11.out; have o12_ := OD12.out; have o13_ := OD13.out; have o14_ := OD14.out; omega))
 replace Og := Aside0.mk (Kd.S_kept Og.out hk (fun k_ hk_ hh_ => by obtain ⟨h1_, h2_⟩ := hh_; obtain ⟨h3_, h4_⟩ := hk_; have o0_ := OD0.out; have o1_ := OD1.out; have o2_ := LTs_BKA0.out; have o3_ := LTs_BKA1.out; have o4_ := LTBs.out; have o5_ := GE_b6.out; have o6_ := LBs.out; have o7_ := OD7.out; have o8_ := OD8.out; have o9_ := OD9.out; have o10_ := OD10.out; have o11_ := OD11.out; have o12_ := OD12.out; have o13_ := OD13.out; have o14_ := OD14.out; omega))
 replace BKg := Aside0.mk (blk_kept BKg.out hk (fun hh_ => by obtain ⟨h1_, h2_⟩ := hh_; have o0_ := OD0.out; have o1_ := OD1.out; have o2_ := LTs_BKA0.out; have o3_ := LTs_BKA1.out; have o4_ := LTBs.out; have o5_ := GE_b6.out; have o6_ := LBs.out; have o7_ := OD7.out; have o8_ := OD8.out; have o9_ := OD9.out; have o10_ := OD10.out; have o11_ := OD11.out; have o12_ := OD12.out; have o13_ := OD13.out; have o14_ := OD14.out; omega))
 clear hb hk
 have hg0 := (blk_cell BKg.out 0).trans rfl
 have hg1 := (blk_cell BKg.out 1).trans rfl
 have hs0 := (blk_cell BKs.out 0).trans rfl
 have hs1 := (blk_cell BKs.out 1).trans rfl
 go_wp2_with fail
 refine (laws_eqGame.calls k gn Ag cg g sn As cs s true _ (Kd.S_reads' Og.out).2.2 (Kd.S_reads' Og.out).2.1 (Kd.S_reads' Os.out).2.2 (Kd.S_reads' Os.out).2.1 FE.out).mono ?_
 rintro e w13 ⟨rfl, hb⟩
 clear hg0 hg1 hs0 hs1
 have OD15 := Aside0.mk (show w12.heap.size ≤ w13.heap.size from by have h_ := hb.size; (try simp at h_); omega)
 replace HB := Aside0.mk (HB.out.trans (hb.mono HB.out.size))
 replace BKA0 := Aside0.mk (blk_below BKA0.out hb)
 replace BKA1 := Aside0.mk (blk_below BKA1.out hb)
 replace Os := Aside0.mk (Kd.S_below Os.out hb)
 replace BKs := Aside0.mk (blk_below BKs.out hb)
 replace BKx0 := Aside0.mk (blk_below BKx0.out hb)
 replace BKx1 := Aside0.mk (blk_below BKx1.out hb)
 replace Og := Aside0.mk (Kd.S_below Og.out hb)
 replace BKg := Aside0.mk (blk_below BKg.out hb)
 clear hb
 have hg0 := (blk_cell BKg.out 0).trans rfl
 have hg1 := (blk_cell BKg.out 1).trans rfl
 go_wp2_with fail
 refine (laws_markGame.callsB k gn Ag cg g 1 hh vv w.heap.size (fun k_ => w4.heap.size + 1 ≤ k_ ∧ k_ < w5.heap.size) _ HB.out.size Og.out FMM.out).mono ?_
 rintro e w14 ⟨rfl, hO, hb, hk⟩
 clear Og
 clear hg0 hg1
 have OD16 := Aside0.mk (show w13.heap.size ≤ w14.heap.size from by have h_ := hk.1; (try simp at h_); omega)
 replace HB := Aside0.mk (HB.out.trans hb)
 replace BKA0 := Aside0.mk (blk_kept BKA0.out hk (fun hh_ => by obtain ⟨h1_, h2_⟩ := hh_; have o0_ := OD0.out; have o1_ := OD1.out; have o2_ := LTs_BKA0.out; have o3_ := LTs_BKA1.out; have o4_ := LTBs.out; have o5_ := GE_b6.out; have o6_ := LBs.out; have o7_ := OD7.out; have o8_ := OD8.out; have o9_ := OD9.out; have o10_ := OD10.out; have o11_ := OD11.out; have o12_ := OD12.out; have o13_ := OD13.out; have o14_ := OD14.out; have o15_ := OD15.out; have o16_ := OD16.out; omega))
 replace BKA1 := Aside0.mk (blk_kept BKA1.out hk (fun hh_ => by obtain ⟨h1_, h2_⟩ := hh_; have o0_ := OD0.out; have o1_ := OD1.out; have o2_ := LTs_BKA0.out; have o3_ := LTs_BKA1.out; have o4_ := LTBs.out; have o5_ := GE_b6.out; have o6_ := LBs.out; have o7_ := OD7.out; have o8_ := OD8.out; have o9_ := OD9.out; have o10_ := OD10.out; have o11_ := OD11.out; have o12_ := OD12.out; have o13_ := OD13.out; have o14_ := OD14.out; have o15_ := OD15.out; have o16_ := OD16.out; omega))
 replace Os := Aside0.mk (Kd.S_kept Os.out hk (fun k_ hk_ hh_ => by obtain ⟨h1_, h2_⟩ := hh_; obtain ⟨h3_, h4_⟩ := hk_; have o0_ := OD0.out; have o1_ := OD1.out; have o2_ := LTs_BKA0.out; have o3_ := LTs_BKA1.out; have o4_ := LTBs.out; have o5_ := GE_b6.out; have o6_ := LBs.out; have o7_ := OD7.out; have o8_ := OD8.out; have o9_ := OD9.out; have o10_ := OD10.out; have o11_ := OD11.out; have o12_ := OD12.out; have o13_ := OD13.out; have o14_ := OD14.out; have o15_ := OD15.out; have o16_ := OD16.out; omega))
 replace BKs := Aside0.mk (blk_kept BKs.out hk (fun hh_ => by obtain ⟨h1_, h2_⟩ := hh_; have o0_ := OD0.out; have o1_ := OD1.out; have o2_ := LTs_BKA0.out; have o3_ := LTs_BKA1.out; have o4_ := LTBs.out; have o5_ := GE_b6.out; have o6_ := LBs.out; have o7_ := OD7.out; have o8_ := OD8.out; have o9_ := OD9.out; have o10_ := OD10.out; have o11_ := OD11.out; have o12_ := OD12.out; have o13_ := OD13.out; have o14_ := OD14.out; have o15_ := OD15.out; have o16_ := OD16.out; omega))
 replace BKx0 := Aside0.mk (blk_kept BKx0.out hk (fun hh_ => by obtain ⟨h1_, h2_⟩ := hh_; have o0_ := OD0.out; have o1_ := OD1.out; have o2_ := LTs_BKA0.out; have o3_ := LTs_BKA1.out; have o4_ := LTBs.out; have o5_ := GE_b6.out; have o6_ := LBs.out; have o7_ := OD7.out; have o8_ := OD8.out; have o9_ := OD9.out; have o10_ := OD10.out; have o11_ := OD11.out; have o12_ := OD12.out; have o13_ := OD13.out; have o14_ := OD14.out; have o15_ := OD15.out; have o16_ := OD16.out; omega))
 replace BKx1 := Aside0.mk (blk_kept BKx1.out hk (fun hh_ => by obtain ⟨h1_, h2_⟩ := hh_; have o0_ := OD0.out; have o1_ := OD1.out; have o2_ := LTs_BKA0.out; have o3_ := LTs_BKA1.out; have o4_ := LTBs.out; have o5_ := GE_b6.out; have o6_ := LBs.out; have o7_ := OD7.out; have o8_ := OD8.out; have o9_ := OD9.out; have o10_ := OD10.out; have o11_ := OD11.out; have o12_ := OD12.out; have o13_ := OD13.out; have o14_ := OD14.out; have o15_ := OD15.out; have o16_ := OD16.out; omega))
 replace BKg := Aside0.mk (blk_kept BKg.out hk (fun hh_ => by obtain ⟨h1_, h2_⟩ := hh_; have o0_ := OD0.out; have o1_ := OD1.out; have o2_ := LTs_BKA0.out; have o3_ := LTs_BKA1.out; have o4_ := LTBs.out; have o5_ := GE_b6.out; have o6_ := LBs.out; have o7_ := OD7.out; have o8_ := OD8.out; have o9_ := OD9.out; have o10_ := OD10.out; have o11_ := OD11.out; have o12_ := OD12.out; have o13_ := OD13.out; have o14_ := OD14.out; have o15_ := OD15.out; have o16_ := OD16.out; omega))
 have Og := Aside0.mk hO
 have HLM := Aside0.mk (Kd.S_reads' hO).1
 clear hO hb hk
 have hg0 := (blk_cell BKg.out 0).trans rfl
 have hg1 := (blk_cell BKg.out 1).trans rfl
 go_wp2_with fail
 have hheld := laws_heldGame.calls k gn Ag cg vv 1 hh _ (Kd.S_reads' Og.out).2.2 (by rw [← HLM.out]; exact (Kd.S_reads' Og.out).2.1) FH.out
 rw [← HLM.out] at hheld
 refine hheld.mono ?_
 clear hheld
 rintro e w15 ⟨rfl, hb⟩
 clear hg0 hg1
 have OD17 := Aside0.mk (show w14.heap.size ≤ w15.heap.size from by have h_ := hb.size; (try simp at h_); omega)
 replace HB := Aside0.mk (HB.out.trans (hb.mono HB.out.size))
 replace BKA0 := Aside0.mk (blk_below BKA0.out hb)
 replace BKA1 := Aside0.mk (blk_below BKA1.out hb)
 replace Os := Aside0.mk (Kd.S_below Os.out hb)
 replace BKs := Aside0.mk (blk_below BKs.out hb)
 replace BKx0 := Aside0.mk (blk_below BKx0.out hb)
 replace BKx1 := Aside0.mk (blk_below BKx1.out hb)
 replace BKg := Aside0.mk (blk_below BKg.out hb)
 replace Og := Aside0.mk (Kd.S_below Og.out hb)
 clear hb
 clear BKx0 BKx1
 go_wp2
 replace HB := Aside0.mk (below_drew1 HB.out)
 replace BKA0 := Aside0.mk (blk_drew BKA0.out)
 replace BKA1 := Aside0.mk (blk_drew BKA1.out)
 replace Os := Aside0.mk (Kd.S_drew Os.out)
 replace BKs := Aside0.mk (blk_drew BKs.out)
 replace BKg := Aside0.mk (blk_drew BKg.out)
 replace Og := Aside0.mk (Kd.S_drew Og.out)
 refine start_ (n := 11) (S := fun w' => w'.cell? ⟨w.heap.size, 0, none⟩ = some (.int .i64 a0_0) ∧ w'.cell? ⟨w.heap.size, 1, none⟩ = some (.slice A0_1 l0_1.length c0_1) ∧ w'.cell? ⟨w.heap.size + 1, 0, none⟩ = some (.int .i64 a1_0) ∧ w'.cell? ⟨w.heap.size + 1, 1, none⟩ = some (.slice A1_1 l1_1.length c1_1)) (ds := []) #[false, false, false, false, false, false, false, false, false, false, false] (by kernel_rfl) rfl rfl ⟨(blk_cell BKA0.out 0).trans rfl, (blk_cell BKA0.out 1).trans rfl, (blk_cell BKA1.out 0).trans rfl, (blk_cell BKA1.out 1).trans rfl⟩ (fun hHeld => ?_); refine with_tabW laws_FnExactProductGames.tab31 laws_FnExactProductGames.bits31 (fun HT_ HW_ => ?_)
 generalize w15.drew = wj0h at HB BKA0 BKA1 Os BKs BKg Og hHeld ⊢
 have HW0 := Aside0.mk (Below.refl wj0h.heap.size wj0h)
 have LTh_BKA0 := Aside0.mk (blk_lt BKA0.out)
 have LTh_BKA1 := Aside0.mk (blk_lt BKA1.out)
 have LTh_BKs := Aside0.mk (blk_lt BKs.out)
 have LTh_BKg := Aside0.mk (blk_lt BKg.out)
 have LTBh := Aside0.mk (show w.heap.size ≤ wj0h.heap.size from HB.out.size)
 refine take_ (i := 0) (N := some 95) (v := ?_) (a' := ?_) #[true, false, false, false, false, false, false, false, false, false, false] rfl rfl (take_ofW HT_.out HW_.out (by kernel_rfl)) (fun _ _ _ h => h) (Or.inl ⟨by rfl, ?_⟩) hHeld ?_ ?_
 rotate_left
 ·rintro w' ⟨s0, s1, s2, s3⟩
  go_simp
  with_reducible rfl
 rotate_left
 ·simp only [putAll, Act.put, sA, sZ, sS, i64_w, i32_w]
  rfl
 refine take_ (i := 2) (N := some 97) (v := ?_) (a' := ?_) #[true, false, true, false, false, false, false, false, false, false, false] rfl rfl (take_ofW HT_.out HW_.out (by kernel_rfl)) (fun _ _ _ h => h) (Or.inl ⟨by rfl, ?_⟩) hHeld ?_ ?_
 rotate_left
 ·rintro w' ⟨s0, s1, s2, s3⟩
  go_simp
  with_reducible rfl
 rotate_left
 ·simp only [putAll, Act.put, sA, sZ, sS, i64_w, i32_w]
  rfl
 refine join_ (σ := (Option Addr) × (Nat) × (Option Addr) × (Nat) × (Option Addr) × (Nat) × (Nat) × Unit) 2 #[true, true, true, true, true, true, true, true, true, false, false] (fun s_ => match s_ with | (Ah0, ch0, Ah1, ch1, Ah, ch, b15, _u) => [(96, .agg #[.int .i64 q0, .slice Ah0 y0.length ch0]), (98, .agg #[.int .i64 q1, .slice Ah1 y1.length ch1]), (99, .tuple #[.agg #[.int .i64 gn, .slice Ah g.length ch], .bool gb]), (15, .pointer (some ⟨b15, 0, none⟩)), (94, .tuple #[.agg #[.int .i64 gn, .slice Ah g.length ch], .bool gb]), (100, .agg #[.int .i64 gn, .slice Ah g.length ch]), (101, .bool gb)]) (fun s_ w' => match s_ with | (Ah0, ch0, Ah1, ch1, Ah, ch, b15, _u) => (Aside0 (Below wj0h.heap.size wj0h w') ∧ Aside0 (Kd.S (Kd.slice 3 (Kd.int .i64)) 36 w' w.heap.size (fun _ => True) (.slice Ah0 y0.length ch0) y0) ∧ Aside0 (Kd.S (Kd.slice 3 (Kd.int .i64)) 36 w' w.heap.size (fun _ => True) (.slice Ah1 y1.length ch1) y1) ∧ Aside0 (Kd.S (Kd.slice 3 (Kd.int .i64)) 36 w' w.heap.size (fun _ => True) (.slice Ah g.length ch) g) ∧ Aside0 (w'.heap[b15]? = some (.cells #[.int .i64 0, .slice none 0 0] 28 (0, 0))) ∧ Aside0 (wj0h.heap.size ≤ b15))) ?_ ?_
 rotate_left
 ·intro hCh_3_0
  refine join_ (σ := (Option Addr) × (Nat) × (Option Addr) × (Nat) × (Nat) × Unit) 6 #[true, true, true, true, false, false, false, false, true, false, false] (fun s_ => match s_ with | (Ah0, ch0, Ah1, ch1, b15, _u) => [(96, .agg #[.int .i64 q0, .slice Ah0 y0.length ch0]), (98, .agg #[.int .i64 q1, .slice Ah1 y1.length ch1]), (15, .pointer (some ⟨b15, 0, none⟩))]) (fun s_ w' => match s_ with | (Ah0, ch0, Ah1, ch1, b15, _u) => (Aside0 (Below wj0h.heap.size wj0h w') ∧ Aside0 (Kd.S (Kd.slice 3 (Kd.int .i64)) 36 w' w.heap.size (fun _ => True) (.slice Ah0 y0.length ch0) y0) ∧ Aside0 (Kd.S (Kd.slice 3 (Kd.int .i64)) 36 w' w.heap.size (fun _ => True) (.slice Ah1 y1.length ch1) y1) ∧ Aside0 (w'.heap[b15]? = some (.cells #[.int .i64 0, .slice none 0 0] 28 (0, 0))) ∧ Aside0 (wj0h.heap.size ≤ b15))) ?_ ?_
  ·skip
   clear HW0
   rintro ⟨Ah0, ch0, Ah1, ch1, b15, _u⟩ wjh2_0 ⟨HW0, Oh0, Oh1, BK_b15, GE_b15⟩
   refine norm_ (a' := ?_) ?_ ?_
   rotate_left
   ·simp only [putAll, Act.put, sA, sZ, sS, i64_w, i32_w]
    rfl
   refine one_ (i := 4) (N := some 99) #[true, true, true, true, true, false, false, false, true, false, false] rfl rfl (one_of HT_.out (by kernel_rfl)) (by decide) (fun K hK => ?_)
   refine goes_ Try.func50 (by kernel_rfl) rfl #[.agg #[.int .i64 q0, .slice Ah0 y0.length ch0], .agg #[.int .i64 q1, .slice Ah1 y1.length ch1]] (by rfl) rfl rfl (by (try simp only [mA, mC, mN]); first | done | rfl) ?_
   refine (impl_ProductGames.calls k q0 Ah0 ch0 y0 q1 Ah1 ch1 y1 gn g gb _ (Kd.S_reads' Oh0.out).2.2 (Kd.S_reads' Oh0.out).2.1 (Kd.S_reads' Oh1.out).2.2 (Kd.S_reads' Oh1.out).2.1 FG.out).mono ?_
   rintro e wjh2_0c ⟨u_, rfl, hO, hb⟩
   obtain ⟨Ah, ch, rfl⟩ := Kd.S_slice hO
   refine ⟨_, rfl, ?_⟩
   have Oh := Aside0.mk (Kd.S_lower hO (HB.out.trans (HW0.out.mono HB.out.size)).size)
   replace HW0 := Aside0.mk (HW0.out.trans (hb.mono HW0.out.size))
   replace Oh0 := Aside0.mk (Kd.S_below Oh0.out hb)
   replace Oh1 := Aside0.mk (Kd.S_below Oh1.out hb)
   replace BK_b15 := Aside0.mk (blk_below BK_b15.out hb)
   clear hb hO
   refine hK.out _ _ ⟨(blk_cell (blk_below BKA0.out HW0.out) 0).trans rfl, (blk_cell (blk_below BKA0.out HW0.out) 1).trans rfl, (blk_cell (blk_below BKA1.out HW0.out) 0).trans rfl, (blk_cell (blk_below BKA1.out HW0.out) 1).trans rfl⟩ (fun _ => ?_)
   clear hK K
   refine norm_ (a' := ?_) ?_ ?_
   rotate_left
   ·show Act.put _ (some 99) _ = _
    simp only [putAll, Act.put, sA, sZ, sS, i64_w, i32_w]
    rfl
   refine pure_ (i := 5) (N := some 94) (v := ?_) (a' := ?_) #[true, true, true, true, true, true, false, false, true, false, false] rfl rfl (any_of HT_.out (by kernel_rfl)) (fun _ _ _ h => h) (Or.inl ⟨by rfl, ?_⟩) ?_ ?_
   rotate_left
   ·intro w'
    go_simp
    with_reducible rfl
   rotate_left
   ·simp only [putAll, Act.put, sA, sZ, sS, i64_w, i32_w]
    rfl
   refine pure_ (i := 6) (N := some 100) (v := ?_) (a' := ?_) #[true, true, true, true, true, true, true, false, true, false, false] rfl rfl (any_of HT_.out (by kernel_rfl)) (fun _ _ _ h => h) (Or.inl ⟨by rfl, ?_⟩) ?_ ?_
   rotate_left
   ·intro w'
    go_simp
    with_reducible rfl
   rotate_left
   ·simp only [putAll, Act.put, sA, sZ, sS, i64_w, i32_w]
    rfl
   refine pure_ (i := 7) (N := some 101) (v := ?_) (a' := ?_) #[true, true, true, true, true, true, true, true, true, false, false] rfl rfl (any_of HT_.out (by kernel_rfl)) (fun _ _ _ h => h) (Or.inl ⟨by rfl, ?_⟩) ?_ ?_
   rotate_left
   ·intro w'
    go_simp
    with_reducible rfl
   rotate_left
   ·simp only [putAll, Act.put, sA, sZ, sS, i64_w, i32_w]
    rfl
   exact norm_ (by simp only [putAll, Act.put, sA, sZ, sS, i64_w, i32_w]) (hCh_3_0 (Ah0, ch0, Ah1, ch1, Ah, ch, b15, ()) _ ⟨HW0, Oh0, Oh1, Oh, BK_b15, GE_b15⟩)
  intro hCh_2_0
  refine join_ (σ := (Option Addr) × (Nat) × (Option Addr) × (Nat) × (Option Addr) × (Nat) × Unit) 3 #[true, true, true, true, true, true, true, true, false, false, false] (fun s_ => match s_ with | (Ah0, ch0, Ah1, ch1, Ah, ch, _u) => [(96, .agg #[.int .i64 q0, .slice Ah0 y0.length ch0]), (98, .agg #[.int .i64 q1, .slice Ah1 y1.length ch1]), (99, .tuple #[.agg #[.int .i64 gn, .slice Ah g.length ch], .bool gb]), (94, .tuple #[.agg #[.int .i64 gn, .slice Ah g.length ch], .bool gb]), (100, .agg #[.int .i64 gn, .slice Ah g.length ch]), (101, .bool gb)]) (fun s_ w' => match s_ with | (Ah0, ch0, Ah1, ch1, Ah, ch, _u) => (Aside0 (Below wj0h.heap.size wj0h w') ∧ Aside0 (Kd.S (Kd.slice 3 (Kd.int .i64)) 36 w' w.heap.size (fun _ => True) (.slice Ah0 y0.length ch0) y0) ∧ Aside0 (Kd.S (Kd.slice 3 (Kd.int .i64)) 36 w' w.heap.size (fun _ => True) (.slice Ah1 y1.length ch1) y1) ∧ Aside0 (Kd.S (Kd.slice 3 (Kd.int .i64)) 36 w' w.heap.size (fun _ => True) (.slice Ah g.length ch) g))) ?_ ?_
  ·skip
   clear HW0
   rintro ⟨Ah0, ch0, Ah1, ch1, Ah, ch, _u⟩ wjh3_ ⟨HW0, Oh0, Oh1, Oh⟩
   refine norm_ (a' := ?_) ?_ ?_
   rotate_left
   ·simp only [putAll, Act.put, sA, sZ, sS, i64_w, i32_w]
    rfl
   refine one_ (i := 8) (N := some 15) #[true, true, true, true, true, true, true, true, true, false, false] rfl rfl (one_of HT_.out (by kernel_rfl)) (by decide) (fun K hK => ?_)
   refine box_step ?hg (N := 15) ?hd (cs := #[.int .i64 0, .slice none 0 0]) (t := 28) ?hr ?_; (case hd => rfl); (case hg => rfl); (case hr => first | (go_simp; done) | (go_simp; rfl))
   intro b15 hg wjh3_b hbox hb
   have BK_b15 := Aside0.mk hbox
   have GE_b15 : Aside0 (wj0h.heap.size ≤ b15) := ⟨by rw [hg]; exact HW0.out.size⟩
   replace HW0 := Aside0.mk (HW0.out.trans (hb.mono HW0.out.size))
   replace Oh0 := Aside0.mk (Kd.S_below Oh0.out hb)
   replace Oh1 := Aside0.mk (Kd.S_below Oh1.out hb)
   replace Oh := Aside0.mk (Kd.S_below Oh.out hb)
   clear hb hbox hg
   refine hK.out _ _ ⟨(blk_cell (blk_below BKA0.out HW0.out) 0).trans rfl, (blk_cell (blk_below BKA0.out HW0.out) 1).trans rfl, (blk_cell (blk_below BKA1.out HW0.out) 0).trans rfl, (blk_cell (blk_below BKA1.out HW0.out) 1).trans rfl⟩ (fun _ => ?_)
   clear hK K
   refine norm_ (a' := ?_) ?_ ?_
   rotate_left
   ·show Act.put _ (some 15) _ = _
    simp only [putAll, Act.put, sA, sZ, sS, i64_w, i32_w]
    rfl
   exact norm_ (by simp only [putAll, Act.put, sA, sZ, sS, i64_w, i32_w]) (hCh_3_0 (Ah0, ch0, Ah1, ch1, Ah, ch, b15, ()) _ ⟨HW0, Oh0, Oh1, Oh, BK_b15, GE_b15⟩)
  intro hCh_3_
  refine join_ (σ := (Option Addr) × (Nat) × (Nat) × Unit) 7 #[true, true, true, false, false, false, false, false, true, false, false] (fun s_ => match s_ with | (Ah0, ch0, b15, _u) => [(96, .agg #[.int .i64 q0, .slice Ah0 y0.length ch0]), (15, .pointer (some ⟨b15, 0, none⟩))]) (fun s_ w' => match s_ with | (Ah0, ch0, b15, _u) => (Aside0 (Below wj0h.heap.size wj0h w') ∧ Aside0 (Kd.S (Kd.slice 3 (Kd.int .i64)) 36 w' w.heap.size (fun _ => True) (.slice Ah0 y0.length ch0) y0) ∧ Aside0 (w'.heap[b15]? = some (.cells #[.int .i64 0, .slice none 0 0] 28 (0, 0))) ∧ Aside0 (wj0h.heap.size ≤ b15))) ?_ ?_
  ·skip
   clear HW0
   rintro ⟨Ah0, ch0, b15, _u⟩ wjh1_0 ⟨HW0, Oh0, BK_b15, GE_b15⟩
   refine norm_ (a' := ?_) ?_ ?_
   rotate_left
   ·simp only [putAll, Act.put, sA, sZ, sS, i64_w, i32_w]
    rfl
   refine one_ (i := 3) (N := some 98) #[true, true, true, true, false, false, false, false, true, false, false] rfl rfl (one_of HT_.out (by kernel_rfl)) (by decide) (fun K hK => ?_)
   refine goes_ Try.func33 (by kernel_rfl) rfl #[.agg #[.int .i64 a1_0, .slice A1_1 l1_1.length c1_1]] (by rfl) rfl rfl (by (try simp only [mA, mC, mN]); first | done | rfl) ?_
   refine (laws_toGame.calls k a1_0 A1_1 c1_1 l1_1 q1 y1 _ (Kd.C_below HR1_1.out (HB.out.trans (HW0.out.mono HB.out.size))) HC1_1.out FA1.out).mono ?_
   rintro e wjh1_0c ⟨u_, rfl, hO, hb⟩
   obtain ⟨Ah1, ch1, rfl⟩ := Kd.S_slice hO
   refine ⟨_, rfl, ?_⟩
   have Oh1 := Aside0.mk (Kd.S_lower hO (HB.out.trans (HW0.out.mono HB.out.size)).size)
   replace HW0 := Aside0.mk (HW0.out.trans (hb.mono HW0.out.size))
   replace Oh0 := Aside0.mk (Kd.S_below Oh0.out hb)
   replace BK_b15 := Aside0.mk (blk_below BK_b15.out hb)
   clear hb hO
   refine hK.out _ _ ⟨(blk_cell (blk_below BKA0.out HW0.out) 0).trans rfl, (blk_cell (blk_below BKA0.out HW0.out) 1).trans rfl, (blk_cell (blk_below BKA1.out HW0.out) 0).trans rfl, (blk_cell (blk_below BKA1.out HW0.out) 1).trans rfl⟩ (fun _ => ?_)
   clear hK K
   refine norm_ (a' := ?_) ?_ ?_
   rotate_left
   ·show Act.put _ (some 98) _ = _
    simp only [putAll, Act.put, sA, sZ, sS, i64_w, i32_w]
    rfl
   exact norm_ (by simp only [putAll, Act.put, sA, sZ, sS, i64_w, i32_w]) (hCh_2_0 (Ah0, ch0, Ah1, ch1, b15, ()) _ ⟨HW0, Oh0, Oh1, BK_b15, GE_b15⟩)
  intro hCh_1_0
  refine join_ (σ := (Option Addr) × (Nat) × (Option Addr) × (Nat) × Unit) 7 #[true, true, true, true, false, false, false, false, false, false, false] (fun s_ => match s_ with | (Ah0, ch0, Ah1, ch1, _u) => [(96, .agg #[.int .i64 q0, .slice Ah0 y0.length ch0]), (98, .agg #[.int .i64 q1, .slice Ah1 y1.length ch1])]) (fun s_ w' => match s_ with | (Ah0, ch0, Ah1, ch1, _u) => (Aside0 (Below wj0h.heap.size wj0h w') ∧ Aside0 (Kd.S (Kd.slice 3 (Kd.int .i64)) 36 w' w.heap.size (fun _ => True) (.slice Ah0 y0.length ch0) y0) ∧ Aside0 (Kd.S (Kd.slice 3 (Kd.int .i64)) 36 w' w.heap.size (fun _ => True) (.slice Ah1 y1.length ch1) y1))) ?_ ?_
  ·skip
   clear HW0
   rintro ⟨Ah0, ch0, Ah1, ch1, _u⟩ wjh2_ ⟨HW0, Oh0, Oh1⟩
   refine norm_ (a' := ?_) ?_ ?_
   rotate_left
   ·simp only [putAll, Act.put, sA, sZ, sS, i64_w, i32_w]
    rfl
   refine two_ (i := 4) (j := 8) (Ni := some 99) (Nj := some 15) #[true, true, true, true, true, false, false, false, false, false, false] #[true, true, true, true, false, false, false, false, true, false, false] rfl rfl rfl rfl (two_of HT_.out (by kernel_rfl)) (by decide) (by decide) (fun K hK => ?_) (fun K hK => ?_)
   ·skip
    refine goes_ Try.func50 (by kernel_rfl) rfl #[.agg #[.int .i64 q0, .slice Ah0 y0.length ch0], .agg #[.int .i64 q1, .slice Ah1 y1.length ch1]] (by rfl) rfl rfl (by (try simp only [mA, mC, mN]); first | done | rfl) ?_
    refine (impl_ProductGames.calls k q0 Ah0 ch0 y0 q1 Ah1 ch1 y1 gn g gb _ (Kd.S_reads' Oh0.out).2.2 (Kd.S_reads' Oh0.out).2.1 (Kd.S_reads' Oh1.out).2.2 (Kd.S_reads' Oh1.out).2.1 FG.out).mono ?_
    rintro e wjh2_c ⟨u_, rfl, hO, hb⟩
    obtain ⟨Ah, ch, rfl⟩ := Kd.S_slice hO
    refine ⟨_, rfl, ?_⟩
    have Oh := Aside0.mk (Kd.S_lower hO (HB.out.trans (HW0.out.mono HB.out.size)).size)
    replace HW0 := Aside0.mk (HW0.out.trans (hb.mono HW0.out.size))
    replace Oh0 := Aside0.mk (Kd.S_below Oh0.out hb)
    replace Oh1 := Aside0.mk (Kd.S_below Oh1.out hb)
    clear hb hO
    refine hK.out _ _ ⟨(blk_cell (blk_below BKA0.out HW0.out) 0).trans rfl, (blk_cell (blk_below BKA0.out HW0.out) 1).trans rfl, (blk_cell (blk_below BKA1.out HW0.out) 0).trans rfl, (blk_cell (blk_below BKA1.out HW0.out) 1).trans rfl⟩ (fun _ => ?_)
    clear hK K
    refine norm_ (a' := ?_) ?_ ?_
    rotate_left
    ·show Act.put _ (some 99) _ = _
     simp only [putAll, Act.put, sA, sZ, sS, i64_w, i32_w]
     rfl
    refine pure_ (i := 5) (N := some 94) (v := ?_) (a' := ?_) #[true, true, true, true, true, true, false, false, false, false, false] rfl rfl (any_of HT_.out (by kernel_rfl)) (fun _ _ _ h => h) (Or.inl ⟨by rfl, ?_⟩) ?_ ?_
    rotate_left
    ·intro w'
     go_simp
     with_reducible rfl
    rotate_left
    ·simp only [putAll, Act.put, sA, sZ, sS, i64_w, i32_w]
     rfl
    refine pure_ (i := 6) (N := some 100) (v := ?_) (a' := ?_) #[true, true, true, true, true, true, true, false, false, false, false] rfl rfl (any_of HT_.out (by kernel_rfl)) (fun _ _ _ h => h) (Or.inl ⟨by rfl, ?_⟩) ?_ ?_
    rotate_left
    ·intro w'
     go_simp
     with_reducible rfl
    rotate_left
    ·simp only [putAll, Act.put, sA, sZ, sS, i64_w, i32_w]
     rfl
    refine pure_ (i := 7) (N := some 101) (v := ?_) (a' := ?_) #[true, true, true, true, true, true, true, true, false, false, false] rfl rfl (any_of HT_.out (by kernel_rfl)) (fun _ _ _ h => h) (Or.inl ⟨by rfl, ?_⟩) ?_ ?_
    rotate_left
    ·intro w'
     go_simp
     with_reducible rfl
    rotate_left
    ·simp only [putAll, Act.put, sA, sZ, sS, i64_w, i32_w]
     rfl
    exact norm_ (by simp only [putAll, Act.put, sA, sZ, sS, i64_w, i32_w]) (hCh_3_ (Ah0, ch0, Ah1, ch1, Ah, ch, ()) _ ⟨HW0, Oh0, Oh1, Oh⟩)
   ·skip
    refine box_step ?hg (N := 15) ?hd (cs := #[.int .i64 0, .slice none 0 0]) (t := 28) ?hr ?_; (case hd => rfl); (case hg => rfl); (case hr => first | (go_simp; done) | (go_simp; rfl))
    intro b15 hg wjh2_b hbox hb
    have BK_b15 := Aside0.mk hbox
    have GE_b15 : Aside0 (wj0h.heap.size ≤ b15) := ⟨by rw [hg]; exact HW0.out.size⟩
    replace HW0 := Aside0.mk (HW0.out.trans (hb.mono HW0.out.size))
    replace Oh0 := Aside0.mk (Kd.S_below Oh0.out hb)
    replace Oh1 := Aside0.mk (Kd.S_below Oh1.out hb)
    clear hb hbox hg
    refine hK.out _ _ ⟨(blk_cell (blk_below BKA0.out HW0.out) 0).trans rfl, (blk_cell (blk_below BKA0.out HW0.out) 1).trans rfl, (blk_cell (blk_below BKA1.out HW0.out) 0).trans rfl, (blk_cell (blk_below BKA1.out HW0.out) 1).trans rfl⟩ (fun _ => ?_)
    clear hK K
    refine norm_ (a' := ?_) ?_ ?_
    rotate_left
    ·show Act.put _ (some 15) _ = _
     simp only [putAll, Act.put, sA, sZ, sS, i64_w, i32_w]
     rfl
    exact norm_ (by simp only [putAll, Act.put, sA, sZ, sS, i64_w, i32_w]) (hCh_2_0 (Ah0, ch0, Ah1, ch1, b15, ()) _ ⟨HW0, Oh0, Oh1, BK_b15, GE_b15⟩)
  intro hCh_2_
  refine join_ (σ := (Nat) × Unit) 8 #[true, false, true, false, false, false, false, false, true, false, false] (fun s_ => match s_ with | (b15, _u) => [(15, .pointer (some ⟨b15, 0, none⟩))]) (fun s_ w' => match s_ with | (b15, _u) => (Aside0 (Below wj0h.heap.size wj0h w') ∧ Aside0 (w'.heap[b15]? = some (.cells #[.int .i64 0, .slice none 0 0] 28 (0, 0))) ∧ Aside0 (wj0h.heap.size ≤ b15))) ?_ ?_
  ·skip
   clear HW0
   rintro ⟨b15, _u⟩ wjh0_0 ⟨HW0, BK_b15, GE_b15⟩
   refine norm_ (a' := ?_) ?_ ?_
   rotate_left
   ·simp only [putAll, Act.put, sA, sZ, sS, i64_w, i32_w]
    rfl
   refine one_ (i := 1) (N := some 96) #[true, true, true, false, false, false, false, false, true, false, false] rfl rfl (one_of HT_.out (by kernel_rfl)) (by decide) (fun K hK => ?_)
   refine goes_ Try.func33 (by kernel_rfl) rfl #[.agg #[.int .i64 a0_0, .slice A0_1 l0_1.length c0_1]] (by rfl) rfl rfl (by (try simp only [mA, mC, mN]); first | done | rfl) ?_
   refine (laws_toGame.calls k a0_0 A0_1 c0_1 l0_1 q0 y0 _ (Kd.C_below HR0_1.out (HB.out.trans (HW0.out.mono HB.out.size))) HC0_1.out FA0.out).mono ?_
   rintro e wjh0_0c ⟨u_, rfl, hO, hb⟩
   obtain ⟨Ah0, ch0, rfl⟩ := Kd.S_slice hO
   refine ⟨_, rfl, ?_⟩
   have Oh0 := Aside0.mk (Kd.S_lower hO (HB.out.trans (HW0.out.mono HB.out.size)).size)
   replace HW0 := Aside0.mk (HW0.out.trans (hb.mono HW0.out.size))
   replace BK_b15 := Aside0.mk (blk_below BK_b15.out hb)
   clear hb hO
   refine hK.out _ _ ⟨(blk_cell (blk_below BKA0.out HW0.out) 0).trans rfl, (blk_cell (blk_below BKA0.out HW0.out) 1).trans rfl, (blk_cell (blk_below BKA1.out HW0.out) 0).trans rfl, (blk_cell (blk_below BKA1.out HW0.out) 1).trans rfl⟩ (fun _ => ?_)
   clear hK K
   refine norm_ (a' := ?_) ?_ ?_
   rotate_left
   ·show Act.put _ (some 96) _ = _
    simp only [putAll, Act.put, sA, sZ, sS, i64_w, i32_w]
    rfl
   exact norm_ (by simp only [putAll, Act.put, sA, sZ, sS, i64_w, i32_w]) (hCh_1_0 (Ah0, ch0, b15, ()) _ ⟨HW0, Oh0, BK_b15, GE_b15⟩)
  intro hCh_0_0
  refine join_ (σ := (Option Addr) × (Nat) × Unit) 8 #[true, true, true, false, false, false, false, false, false, false, false] (fun s_ => match s_ with | (Ah0, ch0, _u) => [(96, .agg #[.int .i64 q0, .slice Ah0 y0.length ch0])]) (fun s_ w' => match s_ with | (Ah0, ch0, _u) => (Aside0 (Below wj0h.heap.size wj0h w') ∧ Aside0 (Kd.S (Kd.slice 3 (Kd.int .i64)) 36 w' w.heap.size (fun _ => True) (.slice Ah0 y0.length ch0) y0))) ?_ ?_
  ·skip
   clear HW0
   rintro ⟨Ah0, ch0, _u⟩ wjh1_ ⟨HW0, Oh0⟩
   refine norm_ (a' := ?_) ?_ ?_
   rotate_left
   ·simp only [putAll, Act.put, sA, sZ, sS, i64_w, i32_w]
    rfl
   refine two_ (i := 3) (j := 8) (Ni := some 98) (Nj := some 15) #[true, true, true, true, false, false, false, false, false, false, false] #[true, true, true, false, false, false, false, false, true, false, false] rfl rfl rfl rfl (two_of HT_.out (by kernel_rfl)) (by decide) (by decide) (fun K hK => ?_) (fun K hK => ?_)
   ·skip
    refine goes_ Try.func33 (by kernel_rfl) rfl #[.agg #[.int .i64 a1_0, .slice A1_1 l1_1.length c1_1]] (by rfl) rfl rfl (by (try simp only [mA, mC, mN]); first | done | rfl) ?_
    refine (laws_toGame.calls k a1_0 A1_1 c1_1 l1_1 q1 y1 _ (Kd.C_below HR1_1.out (HB.out.trans (HW0.out.mono HB.out.size))) HC1_1.out FA1.out).mono ?_
    rintro e wjh1_c ⟨u_, rfl, hO, hb⟩
    obtain ⟨Ah1, ch1, rfl⟩ := Kd.S_slice hO
    refine ⟨_, rfl, ?_⟩
    have Oh1 := Aside0.mk (Kd.S_lower hO (HB.out.trans (HW0.out.mono HB.out.size)).size)
    replace HW0 := Aside0.mk (HW0.out.trans (hb.mono HW0.out.size))
    replace Oh0 := Aside0.mk (Kd.S_below Oh0.out hb)
    clear hb hO
    refine hK.out _ _ ⟨(blk_cell (blk_below BKA0.out HW0.out) 0).trans rfl, (blk_cell (blk_below BKA0.out HW0.out) 1).trans rfl, (blk_cell (blk_below BKA1.out HW0.out) 0).trans rfl, (blk_cell (blk_below BKA1.out HW0.out) 1).trans rfl⟩ (fun _ => ?_)
    clear hK K
    refine norm_ (a' := ?_) ?_ ?_
    rotate_left
    ·show Act.put _ (some 98) _ = _
     simp only [putAll, Act.put, sA, sZ, sS, i64_w, i32_w]
     rfl
    exact norm_ (by simp only [putAll, Act.put, sA, sZ, sS, i64_w, i32_w]) (hCh_2_ (Ah0, ch0, Ah1, ch1, ()) _ ⟨HW0, Oh0, Oh1⟩)
   ·skip
    refine box_step ?hg (N := 15) ?hd (cs := #[.int .i64 0, .slice none 0 0]) (t := 28) ?hr ?_; (case hd => rfl); (case hg => rfl); (case hr => first | (go_simp; done) | (go_simp; rfl))
    intro b15 hg wjh1_b hbox hb
    have BK_b15 := Aside0.mk hbox
    have GE_b15 : Aside0 (wj0h.heap.size ≤ b15) := ⟨by rw [hg]; exact HW0.out.size⟩
    replace HW0 := Aside0.mk (HW0.out.trans (hb.mono HW0.out.size))
    replace Oh0 := Aside0.mk (Kd.S_below Oh0.out hb)
    clear hb hbox hg
    refine hK.out _ _ ⟨(blk_cell (blk_below BKA0.out HW0.out) 0).trans rfl, (blk_cell (blk_below BKA0.out HW0.out) 1).trans rfl, (blk_cell (blk_below BKA1.out HW0.out) 0).trans rfl, (blk_cell (blk_below BKA1.out HW0.out) 1).trans rfl⟩ (fun _ => ?_)
    clear hK K
    refine norm_ (a' := ?_) ?_ ?_
    rotate_left
    ·show Act.put _ (some 15) _ = _
     simp only [putAll, Act.put, sA, sZ, sS, i64_w, i32_w]
     rfl
    exact norm_ (by simp only [putAll, Act.put, sA, sZ, sS, i64_w, i32_w]) (hCh_1_0 (Ah0, ch0, b15, ()) _ ⟨HW0, Oh0, BK_b15, GE_b15⟩)
  intro hCh_1_
  refine two_ (i := 1) (j := 8) (Ni := some 96) (Nj := some 15) #[true, true, true, false, false, false, false, false, false, false, false] #[true, false, true, false, false, false, false, false, true, false, false] rfl rfl rfl rfl (two_of HT_.out (by kernel_rfl)) (by decide) (by decide) (fun K hK => ?_) (fun K hK => ?_)
  ·skip
   refine goes_ Try.func33 (by kernel_rfl) rfl #[.agg #[.int .i64 a0_0, .slice A0_1 l0_1.length c0_1]] (by rfl) rfl rfl (by (try simp only [mA, mC, mN]); first | done | rfl) ?_
   refine (laws_toGame.calls k a0_0 A0_1 c0_1 l0_1 q0 y0 _ (Kd.C_below HR0_1.out (HB.out.trans (HW0.out.mono HB.out.size))) HC0_1.out FA0.out).mono ?_
   rintro e wj0hc ⟨u_, rfl, hO, hb⟩
   obtain ⟨Ah0, ch0, rfl⟩ := Kd.S_slice hO
   refine ⟨_, rfl, ?_⟩
   have Oh0 := Aside0.mk (Kd.S_lower hO (HB.out.trans (HW0.out.mono HB.out.size)).size)
   replace HW0 := Aside0.mk (HW0.out.trans (hb.mono HW0.out.size))
   clear hb hO
   refine hK.out _ _ ⟨(blk_cell (blk_below BKA0.out HW0.out) 0).trans rfl, (blk_cell (blk_below BKA0.out HW0.out) 1).trans rfl, (blk_cell (blk_below BKA1.out HW0.out) 0).trans rfl, (blk_cell (blk_below BKA1.out HW0.out) 1).trans rfl⟩ (fun _ => ?_)
   clear hK K
   refine norm_ (a' := ?_) ?_ ?_
   rotate_left
   ·show Act.put _ (some 96) _ = _
    simp only [putAll, Act.put, sA, sZ, sS, i64_w, i32_w]
    rfl
   exact norm_ (by simp only [putAll, Act.put, sA, sZ, sS, i64_w, i32_w]) (hCh_1_ (Ah0, ch0, ()) _ ⟨HW0, Oh0⟩)
  ·skip
   refine box_step ?hg (N := 15) ?hd (cs := #[.int .i64 0, .slice none 0 0]) (t := 28) ?hr ?_; (case hd => rfl); (case hg => rfl); (case hr => first | (go_simp; done) | (go_simp; rfl))
   intro b15 hg wj0hb hbox hb
   have BK_b15 := Aside0.mk hbox
   have GE_b15 : Aside0 (wj0h.heap.size ≤ b15) := ⟨by rw [hg]; exact HW0.out.size⟩
   replace HW0 := Aside0.mk (HW0.out.trans (hb.mono HW0.out.size))
   clear hb hbox hg
   refine hK.out _ _ ⟨(blk_cell (blk_below BKA0.out HW0.out) 0).trans rfl, (blk_cell (blk_below BKA0.out HW0.out) 1).trans rfl, (blk_cell (blk_below BKA1.out HW0.out) 0).trans rfl, (blk_cell (blk_below BKA1.out HW0.out) 1).trans rfl⟩ (fun _ => ?_)
   clear hK K
   refine norm_ (a' := ?_) ?_ ?_
   rotate_left
   ·show Act.put _ (some 15) _ = _
    simp only [putAll, Act.put, sA, sZ, sS, i64_w, i32_w]
    rfl
   exact norm_ (by simp only [putAll, Act.put, sA, sZ, sS, i64_w, i32_w]) (hCh_0_0 (b15, ()) _ ⟨HW0, BK_b15, GE_b15⟩)
 clear HW0
 rintro ⟨Ah0, ch0, Ah1, ch1, Ah, ch, b15, _u⟩ wjfh ⟨HW0, Oh0, Oh1, Oh, BK_b15, GE_b15⟩
 refine norm_ (a' := ?_) ?_ ?_
 rotate_left
 ·simp only [putAll, Act.put, sA, sZ, sS, i64_w, i32_w]
  rfl
 have hb := HW0.out
 replace HB := Aside0.mk (HB.out.trans (hb.mono HB.out.size))
 replace BKA0 := Aside0.mk (blk_below BKA0.out hb)
 replace BKA1 := Aside0.mk (blk_below BKA1.out hb)
 replace Os := Aside0.mk (Kd.S_below Os.out hb)
 replace BKs := Aside0.mk (blk_below BKs.out hb)
 replace BKg := Aside0.mk (blk_below BKg.out hb)
 replace Og := Aside0.mk (Kd.S_below Og.out hb)
 clear hb
 refine one_ (i := 9) (N := none) #[true, true, true, true, true, true, true, true, true, true, false] rfl rfl (one_of HT_.out (by kernel_rfl)) (by decide) (fun K hK => ?_)
 have hs0 := (blk_cell BK_b15.out 0).trans rfl
 have hs1 := (blk_cell BK_b15.out 1).trans rfl
 have hf0 := blk_frozen BK_b15.out 0
 have hf1 := blk_frozen BK_b15.out 1
 refine skip_ (w1 := ?_) (by rfl) rfl ?_ ?_
 rotate_left
 ·go_simp
  rfl
 clear hs0 hs1 hf0 hf1
 replace HB := Aside0.mk (below_set (j := 1) (v := .slice Ah g.length ch) (below_set (j := 0) (v := .int .i64 gn) HB.out (Nat.le_trans LTBh.out GE_b15.out)) (Nat.le_trans LTBh.out GE_b15.out))
 replace BKA0 := Aside0.mk (blk_far (blk_far BKA0.out (p := ⟨b15, 0, none⟩) (Nat.ne_of_lt (Nat.lt_of_lt_of_le LTh_BKA0.out GE_b15.out)) (.int .i64 gn)) (p := ⟨b15, 1, none⟩) (Nat.ne_of_lt (Nat.lt_of_lt_of_le LTh_BKA0.out GE_b15.out)) (.slice Ah g.length ch))
 replace BKA1 := Aside0.mk (blk_far (blk_far BKA1.out (p := ⟨b15, 0, none⟩) (Nat.ne_of_lt (Nat.lt_of_lt_of_le LTh_BKA1.out GE_b15.out)) (.int .i64 gn)) (p := ⟨b15, 1, none⟩) (Nat.ne_of_lt (Nat.lt_of_lt_of_le LTh_BKA1.out GE_b15.out)) (.slice Ah g.length ch))
 replace Os := Aside0.mk (Kd.S_set (Kd.S_set Os.out BK_b15.out (by decide) 0 (.int .i64 gn)) (blk_put BK_b15.out 0 (.int .i64 gn) rfl) (by decide) 1 (.slice Ah g.length ch))
 replace BKs := Aside0.mk (blk_far (blk_far BKs.out (p := ⟨b15, 0, none⟩) (Nat.ne_of_lt (Nat.lt_of_lt_of_le LTh_BKs.out GE_b15.out)) (.int .i64 gn)) (p := ⟨b15, 1, none⟩) (Nat.ne_of_lt (Nat.lt_of_lt_of_le LTh_BKs.out GE_b15.out)) (.slice Ah g.length ch))
 replace BKg := Aside0.mk (blk_far (blk_far BKg.out (p := ⟨b15, 0, none⟩) (Nat.ne_of_lt (Nat.lt_of_lt_of_le LTh_BKg.out GE_b15.out)) (.int .i64 gn)) (p := ⟨b15, 1, none⟩) (Nat.ne_of_lt (Nat.lt_of_lt_of_le LTh_BKg.out GE_b15.out)) (.slice Ah g.length ch))
 replace Og := Aside0.mk (Kd.S_set (Kd.S_set Og.out BK_b15.out (by decide) 0 (.int .i64 gn)) (blk_put BK_b15.out 0 (.int .i64 gn) rfl) (by decide) 1 (.slice Ah g.length ch))
 replace Oh := Aside0.mk (Kd.S_set (Kd.S_set Oh.out BK_b15.out (by decide) 0 (.int .i64 gn)) (blk_put BK_b15.out 0 (.int .i64 gn) rfl) (by decide) 1 (.slice Ah g.length ch))
 have nb_ := Aside0.mk (blk_put (blk_put BK_b15.out 0 (.int .i64 gn) rfl) 1 (.slice Ah g.length ch) rfl)
 clear HW0 BK_b15 Oh0 Oh1
 have BKh := nb_
 clear nb_
 generalize (wjfh.setCell ⟨b15, 0, none⟩ (.int .i64 gn)).setCell ⟨b15, 1, none⟩ (.slice Ah g.length ch) = wsh at HB BKA0 BKA1 Os BKs BKg Og Oh BKh ⊢
 refine hK.out _ _ ⟨(blk_cell BKA0.out 0).trans rfl, (blk_cell BKA0.out 1).trans rfl, (blk_cell BKA1.out 0).trans rfl, (blk_cell BKA1.out 1).trans rfl⟩ (fun hHeld => ?_)
 clear hK K hHeld
 refine pure_ (i := 10) (N := some 16) (v := ?_) (a' := ?_) #[true, true, true, true, true, true, true, true, true, true, true] rfl rfl (any_of HT_.out (by kernel_rfl)) (fun _ _ _ h => h) (Or.inl ⟨by rfl, ?_⟩) ?_ ?_
 rotate_left
 ·intro w'
  go_simp
  with_reducible rfl
 rotate_left
 ·simp only [putAll, Act.put, sA, sZ, sS, i64_w, i32_w]
  rfl
 refine done_ (done_of HT_.out (by kernel_rfl)) ?_
 clear HT_ HW_
 have NEW_ := Aside0.mk (Kd.S_mono (ok' := fun k_ => w.heap.size ≤ k_ ∧ k_ < wsh.heap.size) (Kd.S_bound Oh.out) (fun k_ hk_ => ⟨hk_.2.1, hk_.2.2.1⟩))
 clear Oh
 have Oh := NEW_
 clear NEW_
 have LBh := Aside0.mk (blk_lt BKh.out)
 have hg0 := (blk_cell BKh.out 0).trans rfl
 have hg1 := (blk_cell BKh.out 1).trans rfl
 have hs0 := (blk_cell BKs.out 0).trans rfl
 have hs1 := (blk_cell BKs.out 1).trans rfl
 go_wp2_with fail
 refine (laws_eqGame.calls k gn Ah ch g sn As cs s true _ (Kd.S_reads' Oh.out).2.2 (Kd.S_reads' Oh.out).2.1 (Kd.S_reads' Os.out).2.2 (Kd.S_reads' Os.out).2.1 FE.out).mono ?_
 rintro e w16 ⟨rfl, hb⟩
 clear hg0 hg1 hs0 hs1
 have OD25 := Aside0.mk (show wsh.heap.size ≤ w16.heap.size from by have h_ := hb.size; (try simp at h_); omega)
 replace HB := Aside0.mk (HB.out.trans (hb.mono HB.out.size))
 replace BKA0 := Aside0.mk (blk_below BKA0.out hb)
 replace BKA1 := Aside0.mk (blk_below BKA1.out hb)
 replace Os := Aside0.mk (Kd.S_below Os.out hb)
 replace BKs := Aside0.mk (blk_below BKs.out hb)
 replace BKg := Aside0.mk (blk_below BKg.out hb)
 replace Og := Aside0.mk (Kd.S_below Og.out hb)
 replace Oh := Aside0.mk (Kd.S_below Oh.out hb)
 replace BKh := Aside0.mk (blk_below BKh.out hb)
 clear hb
 have hg0 := (blk_cell BKg.out 0).trans rfl
 have hg1 := (blk_cell BKg.out 1).trans rfl
 go_wp2_with fail
 have hheld := laws_heldGame.calls k gn Ag cg vv 1 hh _ (Kd.S_reads' Og.out).2.2 (by rw [← HLM.out]; exact (Kd.S_reads' Og.out).2.1) FH.out
 rw [← HLM.out] at hheld
 refine hheld.mono ?_
 clear hheld
 rintro e w17 ⟨rfl, hb⟩
 clear hg0 hg1
 have OD26 := Aside0.mk (show w16.heap.size ≤ w17.heap.size from by have h_ := hb.size; (try simp at h_); omega)
 replace HB := Aside0.mk (HB.out.trans (hb.mono HB.out.size))
 replace BKA0 := Aside0.mk (blk_below BKA0.out hb)
 replace BKA1 := Aside0.mk (blk_below BKA1.out hb)
 replace Os := Aside0.mk (Kd.S_below Os.out hb)
 replace BKs := Aside0.mk (blk_below BKs.out hb)
 replace BKg := Aside0.mk (blk_below BKg.out hb)
 replace Og := Aside0.mk (Kd.S_below Og.out hb)
 replace Oh := Aside0.mk (Kd.S_below Oh.out hb)
 replace BKh := Aside0.mk (blk_below BKh.out hb)
 clear hb
 go_wp2
 go_ret
 exact ⟨rfl, HB.out⟩
end Go.Proofs.Ytmmmblfghhcndaa.Q
