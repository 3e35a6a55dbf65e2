/- Printed functions, their contracts and plain facts on them: QSpecVoParse; QSpecParseCommittee; QLawsMSum; QImplVotesIsLeast; QCmpIsNaNInt; QCmpCompareInt; QSlicesCompareIntInt; QImplSetOf; QImplVotesSets; QImplVotesLeast. Conditions: as each theorem states. -/
import Derived.Test.YtaambkdiokbdgacGreatDoorGCommitteesChangex1
import Derived.Test.YtaambkdiokbdgacGreatDoorGCommitteesChangex2
set_option maxHeartbeats 40000000
set_option maxRecDepth 100000
namespace Go.Proofs.YtaambkdiokbdgacGreatDoor.Q
open Go.RowKit Go.Proofs.YtaambkdiokbdgacGreatDoorX Go.Proofs.YtaambkdiokbdgacGreatDoorY Go.Proofs.YtaambkdiokbdgacGreatDoorW.PrintWords Go.Proofs.YtaambkdiokbdgacGreatDoorW.PrintLast Go.Proofs.YtaambkdiokbdgacGreatDoorW.PrintMore
attribute [local go_sem] max2_int min2_int max_two min_two max_three min_three max_four min_four   -- for this text's walks alone
set_option linter.unusedVariables false
set_option linter.unusedSimpArgs false
mutual
def spec_voParse.j0 : Nat → ByteArray → List ByteArray → Bool → Option (Int × List Int × Bool)
 | 0, _, _, _ => none
 | k + 1, x0, x4, x17 => if x17 = true then (some (0, ([] : List Int), false)) else (if 0 < (x4.length : Int) then ((spec_l1Read.f k (rdOf ByteArray.empty x4 0)).bind fun t106 => (if 1 < (x4.length : Int) then ((spec_l1Split.f k (rdOf ByteArray.empty x4 1) 44).bind fun t109 => (spec_voParse.l0 k x0 t109 (t109.length : Int) 0 t106 ([] : List Int))) else (none))) else (none))
def spec_voParse.l0 : Nat → ByteArray → List ByteArray → Int → Int → Int → List Int → Option (Int × List Int × Bool)
 | 0, _, _, _, _, _, _ => none
 | k + 1, x0, x27, x28, x29, x108000, x108001 => if x29 < x28 then (if 0 ≤ x29 then (if x29 < (x27.length : Int) then ((spec_l1Read.f k (rdOf ByteArray.empty x27 x29)).bind fun t113 => (if x108001.length < 17592186044416 then (spec_voParse.l0 k x0 x27 x28 (wrap64 (x29 + 1)) x108000 (x108001 ++ [t113])) else (none))) else (none)) else (none)) else ((spec_voGood.f k x108000 x108001).bind fun t117 => (if t117 = true then ((spec_voText.f k x108000 x108001).bind fun t118 => (some (x108000, x108001, (t118.toList == x0.toList)))) else (some (x108000, x108001, false))))
end
def spec_voParse.f (k : Nat) (a0 : ByteArray) : Option (Int × List Int × Bool) := (spec_l1Split.f k a0 58).bind fun t102 => (if (a0.size : Int) > 60 then (spec_voParse.j0 k a0 t102 true) else (spec_voParse.j0 k a0 t102 ((t102.length : Int) != 2)))
def spec_voParse.T8 : Bool × List (List Nat × List Nat) := (true, [([], []), ([0], [0]), ([], []), ([2], [2]), ([3], [3]), ([1, 4, 3], [1, 4]), ([0, 1, 2, 3, 4, 5], []), ([6, 5, 5, 0, 1, 2, 3, 4, 5], [5, 6])])
def spec_voParse.B8 : List Nat := [0, 1, 0, 4, 12, 31, 63, 127]
theorem spec_voParse.tab8 : rtab .any (opsOf Tryz.f47 8) = spec_voParse.T8 := by kernel_rfl
theorem spec_voParse.bits8 : waitsOk spec_voParse.T8.2 spec_voParse.B8 = true := by kernel_rfl
def spec_voParse.T10 : Bool × List (List Nat × List Nat) := (true, [([], []), ([], []), ([1], [1]), ([2, 2], [2]), ([3], [3]), ([4, 3, 3], [3, 4]), ([3], [3]), ([5, 6, 3], [3, 5, 6]), ([3, 7], [3, 7]), ([0, 5, 0], [0]), ([8, 9, 0, 1, 2, 3, 4, 5, 6, 7, 8, 9], [8])])
def spec_voParse.B10 : List Nat := [0, 0, 2, 6, 14, 30, 14, 126, 254, 63, 1023]
theorem spec_voParse.tab10 : rtab .any (opsOf Tryz.f47 10) = spec_voParse.T10 := by kernel_rfl
theorem spec_voParse.bits10 : waitsOk spec_voParse.T10.2 spec_voParse.B10 = true := by kernel_rfl
theorem spec_voParse.calls (k : Nat) (a0 : ByteArray) (r1 : Int) (r2 : List Int) (r3 : Bool) (w : World) (h : spec_voParse.f k a0 = some (r1, r2, r3)) :
  Calls Tryz.prog 47 #[.string a0] w fun e w' => ∃ v1_ : Value, e = .returned (.tuple #[.agg #[.int .i64 r1, v1_], .bool r3]) ∧ Kd.R (Kd.int .i64) 3 w' w.heap.size (fun _ => True) v1_ r2 ∧ Below w.heap.size w w' := by
 have hu24 := Tryz.underlying24
 have HB := Aside0.mk (Below.refl w.heap.size w)
 have H := h
 unfold spec_voParse.f at H
 clear h
 replace H := oB H
 obtain ⟨t102, A20, H⟩ := H
 replace H : (if (a0.size : Int) > 60 then (spec_voParse.j0 k a0 t102 true) else (spec_voParse.j0 k a0 t102 ((t102.length : Int) != 2))) = some (r1, r2, r3) := H
 have A2 := Aside0.mk A20
 clear A20
 have HC3 := Aside0.mk H
 clear H
 go_enter Tryz.func47, Tryz.ntmps47
 go_upto_region 2 with (first | ((with_reducible refine gate_dst (N := 2) rfl ?_); (try (refine gate_guard (by rfl) ?_; dsimp only)); refine box_event ?hg (N := 2) ?hd (cs := #[.int .i64 0, .slice none 0 0]) (t := 24) ?hr ?_; (case hd => rfl); (case hg => rfl); (case hr => first | (go_simp; done) | (go_simp; rfl)); intro gb101 hg w4 hbox hb; have n0_ := sQ hb; have n1_ := Aside0.mk (hbox); have n2_ := Aside0.mk ((by rw [hg]; exact (below_size (wB)) : w.heap.size ≤ gb101)); have n3_ := Aside0.mk ((by rw [hg]; exact (below_size (wB)) : w.heap.size ≤ gb101)); clear HB; have HB := n0_; have BK101 := n1_; have GW101 := n2_; have GE101 := n3_; clear n0_ n1_ n2_ n3_; clear hb hbox hg) | ((with_reducible refine gate_callee (f := 76) rfl ?_); refine gL 9 Tryz.func76 #[.string a0, .int .u8 58] ?_; (with_reducible refine (spec_l1Split.calls k a0 58 t102 _ A2.out).mono ?_); rintro e w5 ⟨v103, rfl, ho0, hb⟩; refine ⟨_, rfl, ?_⟩; have n0_ := Aside0.mk (Kd.R_lower ho0 (below_size (wB))); have n1_ := bP BK101 hb; have n2_ := sQ hb; clear BK101; clear HB; have HO104 := n0_; have BK101 := n1_; have HB := n2_; clear n0_ n1_ n2_; (try clear hb); (try clear hb2); (try clear hk); (try clear hi); (try clear ho0)))
 (try simp only [Act.put, sA, sZ, sS])
 go_cut [17] (fun v17 wc => ∃ (kq : Nat) (x17_2 : Bool), v17 = .bool x17_2 ∧ Aside0 (spec_voParse.j0 kq a0 t102 x17_2 = some (r1, r2, r3)) ∧ Aside0 (kq ≤ k) ∧ Aside0 (Kd.R Kd.string 9 wc w.heap.size (fun _ => True) v103 t102) ∧ Aside0 (wc.heap[gb101]? = some (.cells #[.int .i64 0, (.slice none 0 0)] 24 (0, 0))) ∧ Aside0 (Below w.heap.size w wc))
 case first =>
  have H := HC3.out
  clear HC3
  by_cases c6 : (a0.size : Int) > 60
  ·rw [if_pos c6] at H
   have c6b0 : decide (60 < (a0.size : Int)) = true := decide_eq_true c6
   have c6b1 : decide (60 < a0.size) = true := decide_eq_true (by omega)
   clear c6
   (first | rw [c6b0] | (simp only [i64_w, i32_w]; rw [c6b0]) | skip)
   have H' := Aside0.mk H
   clear H
   go_wp2
   go_meet
   case rel => exact ⟨_, (true), gR, H', ⟨by first | omega | exact Nat.le_refl _⟩, ⟨rQ HO104⟩, ⟨bQ BK101⟩, ⟨wB⟩⟩
  rw [if_neg c6] at H
  have c6b0 : decide (60 < (a0.size : Int)) = false := decide_eq_false c6
  have c6b1 : decide (60 < a0.size) = false := decide_eq_false (by omega)
  clear c6
  (first | rw [c6b0] | (simp only [i64_w, i32_w]; rw [c6b0]) | skip)
  have H' := Aside0.mk H
  clear H
  obtain ⟨Ao7, co7, eo7⟩ := Kd.R_slice HO104.out
  subst eo7
  go_wp2
  go_meet
  case rel => exact ⟨_, (((t102.length : Int) != 2)), gR, H', ⟨by first | omega | exact Nat.le_refl _⟩, ⟨rQ HO104⟩, ⟨bQ BK101⟩, ⟨wB⟩⟩
 case rest =>
  clear HC3
  try clear p2
  try clear c4
  try clear c6
  try clear c6b0
  try clear c6b1
  try clear c7
  obtain ⟨kq, x17_2, rfl, HA, HJ2, HO_4, BK101, HB⟩ := hcut
  cases kq with
  | zero => exact absurd HA.out (by simp [spec_voParse.j0])
  | succ kj2 =>
   have H := HA.out
   clear HA
   simp only [spec_voParse.j0] at H
   by_cases c8 : x17_2 = true
   ·subst c8
    replace H := iT H
    simp only [Option.some.injEq, Prod.mk.injEq] at H
    obtain ⟨rfl, rfl, rfl⟩ := H
    obtain ⟨hcz9_0, hcz9_1, hfz9_0, hfz9_1⟩ := zZ BK101
    go_wp2
    refine bodyPost_ret (results_ct rfl _ _ gb101 24 #[.int .i64 0, .slice none 0 0] (0, 0) _ rfl (by (try refine bp ?_); refine blk_put (cs := #[.int .i64 0, .slice none 0 0]) ?_ 1 _ rfl; (try refine bp ?_); refine blk_put (cs := #[.int .i64 0, .slice none 0 0]) ?_ 0 _ rfl; (first | exact bp BK101.out | exact BK101.out)) Tryz.underlying24 rfl (by kernel_rfl)) rfl ?_
    exact ⟨_, fR, by first | exact Kd.R_nil _ _ _ _ _ | exact Kd.N_nil _ _ _ _ _ | exact Kd.V_nil _ _ _ _ _ | exact Kd.Q_nil _ _ _ _ _ | exact Kd.S_nil _ _ _ _ _, wB⟩
   replace c8 := Bool.eq_false_iff.mpr c8
   subst c8
   replace H := iF H
   by_cases c10 : 0 < (t102.length : Int)
   rotate_left
   ·rw [if_neg c10] at H
    exact absurd H (by simp)
   rw [if_pos c10] at H
   have c10b0 := decide_eq_true c10
   have c10b1 : decide (0 < t102.length) = true := decide_eq_true (by omega)
   clear c10
   replace H := oB H
   obtain ⟨t106, A110, H⟩ := H
   replace H : (if 1 < (t102.length : Int) then ((spec_l1Split.f kj2 (rdOf ByteArray.empty t102 1) 44).bind fun t109 => (spec_voParse.l0 kj2 a0 t109 (t109.length : Int) 0 t106 ([] : List Int))) else (none)) = some (r1, r2, r3) := H
   have A11 := Aside0.mk A110
   clear A110
   by_cases c12 : 1 < (t102.length : Int)
   rotate_left
   ·rw [if_neg c12] at H
    exact absurd H (by simp)
   rw [if_pos c12] at H
   have c12b0 := decide_eq_true c12
   have c12b1 : decide (1 < t102.length) = true := decide_eq_true (by omega)
   clear c12
   replace H := oB H
   obtain ⟨t109, A130, H⟩ := H
   replace H : (spec_voParse.l0 kj2 a0 t109 (t109.length : Int) 0 t106 ([] : List Int)) = some (r1, r2, r3) := H
   have A13 := Aside0.mk A130
   clear A130
   have H' := Aside0.mk H
   clear H
   obtain ⟨Ao14, co14, eo14⟩ := Kd.R_slice HO_4.out
   subst eo14
   have p105 : 0 ≤ (0 : Int) := (by omega)
   have q105 : 0 < (t102.length : Int) := oD
   obtain ⟨ad105, e105, hx105_0⟩ := Kd.at_string (Kd.R_reads' HO_4.out).2.2 0 p105 q105
   cases e105
   have qi105 : (0 < t102.length) = True := eq_true (by omega)
   (try rw [show ((0 : Int)).toNat = 0 from rfl] at hx105_0)
   (try rw [Addr.add_zero'] at hx105_0)
   replace p105 := eq_true p105
   replace q105 := eq_true q105
   go_wp2_with (first | ((with_reducible refine gate_callee (f := 77) rfl ?_); refine gL 22 Tryz.func77 #[.string (rdOf ByteArray.empty t102 0)] ?_; (with_reducible refine (spec_l1Read.calls kj2 (rdOf ByteArray.empty t102 0) t106 _ A11.out).mono ?_); rintro e w' ⟨rfl, ⟨nd, rfl⟩⟩; refine ⟨_, rfl, ?_⟩; (try (rw [drewN_self wc]; generalize hq_ : World.drewN wc _ = wc; have n0_ : Aside0 (Kd.R Kd.string 9 wc w.heap.size (fun _ => True) (.slice (some ad105) t102.length co14) t102) := ⟨by rw [← hq_]; exact (rQ HO_4)⟩; have n1_ : Aside0 (wc.heap[gb101]? = some (.cells #[.int .i64 0, .slice none 0 0] 24 (0, 0))) := ⟨by rw [← hq_]; exact (bQ BK101)⟩; have n2_ : Aside0 (Below w.heap.size w wc) := ⟨by rw [← hq_]; exact (wB)⟩; clear HO_4 BK101 HB hq_; have HO_4 := n0_; have BK101 := n1_; have HB := n2_; clear n0_ n1_ n2_))) | ((with_reducible refine gate_dst (N := 5) rfl ?_); (try (refine gate_guard (by rfl) ?_; dsimp only)); refine box_event ?hg (N := 5) ?hd (cs := #[.int .i64 0, .slice none 0 0]) (t := 24) ?hr ?_; (case hd => rfl); (case hg => rfl); (case hr => first | (go_simp; done) | (go_simp; rfl)); intro gb107 hg w15 hbox hb; have n0_ := rP HO_4 hb; have n1_ := bP BK101 hb; have n2_ := sQ hb; have n3_ := Aside0.mk (hbox); have n4_ := Aside0.mk ((by rw [hg]; exact (below_size (wB)) : w.heap.size ≤ gb107)); have n5_ := Aside0.mk ((by rw [hg]; exact (below_size (wB)) : w.heap.size ≤ gb107)); have n6_ := Aside0.mk ((by rw [hg]; exact Nat.ne_of_lt (blk_lt (g := gb101) (o := .cells #[.int .i64 0, .slice none 0 0] 24 (0, 0)) (bQ BK101)) : gb101 ≠ gb107)); have n7_ := Aside0.mk ((by rw [hg]; exact Nat.ne_of_gt (blk_lt (g := gb101) (o := .cells #[.int .i64 0, .slice none 0 0] 24 (0, 0)) (bQ BK101)) : gb107 ≠ gb101)); clear HO_4; clear BK101; clear HB; have HO_4 := n0_; have BK101 := n1_; have HB := n2_; have BK107 := n3_; have GW107 := n4_; have GE107 := n5_; have NB101_107 := n6_; have NB107_101 := n7_; clear n0_ n1_ n2_ n3_ n4_ n5_ n6_ n7_; clear hb hbox hg; have hnb16 := NB107_101.out; have hnc16 := NB101_107.out; obtain ⟨hcz17_0, hcz17_1, hfz17_0, hfz17_1⟩ := zZ BK107; have p108 : 0 ≤ (1 : Int) := (by omega); have q108 : 1 < (t102.length : Int) := oD; obtain ⟨ad108, e108, hx108_0⟩ := Kd.at_string (Kd.R_reads' HO_4.out).2.2 1 p108 q108; obtain rfl : ad105 = ad108 := (by injection e108); (try simp only [show (1 : Int).toNat = 1 from rfl, Nat.reduceMul, Nat.reduceEqDiff, Go.Addr.add, ↓reduceIte] at hx108_0); have qi108 : (1 < t102.length) = True := eq_true (by omega); (try rw [show ((1 : Int)).toNat = 1 from rfl] at hx108_0); have hn108_0 : ad105.block ≠ gb107 := Kd.own_blk (Kd.R_ne HO_4.out BK107.out (by decide)); have hn108_1 : ad105.block ≠ gb107 := Kd.own_blk (Kd.R_ne HO_4.out BK107.out (by decide)); replace hx108_0 := (cell_far (p := ⟨gb107, 0, none⟩) (by first | (rw [add_block]; exact hn108_0) | (show (Addr.add _ _).block ≠ _; rw [add_block]; exact hn108_0) | exact hn108_0) (.int .i64 t106)).trans hx108_0; replace hx108_0 := (cell_far (p := ⟨gb107, 1, none⟩) (by first | (rw [add_block]; exact hn108_1) | (show (Addr.add _ _).block ≠ _; rw [add_block]; exact hn108_1) | exact hn108_1) (.slice none 0 0)).trans hx108_0; clear hn108_0; clear hn108_1; replace p108 := eq_true p108; replace q108 := eq_true q108) | ((with_reducible refine gate_callee (f := 76) rfl ?_); refine gL 27 Tryz.func76 #[.string (rdOf ByteArray.empty t102 1), .int .u8 44] ?_; (with_reducible refine (spec_l1Split.calls kj2 (rdOf ByteArray.empty t102 1) 44 t109 _ A13.out).mono ?_); rintro e w18 ⟨v110, rfl, ho0, hb⟩; refine ⟨_, rfl, ?_⟩; have n0_ := Aside0.mk (Kd.R_elder' (by (try refine rp ?_); exact (Kd.R_mono (Kd.R_far (p := ⟨gb107, 1, none⟩) (Kd.R_far (p := ⟨gb107, 0, none⟩) (Kd.R_types HO_4.out BK107.out (by decide)) (fun _ hk => hk.2) (.int .i64 t106)) (fun _ hk => hk.2) (.slice none 0 0)) (fun _ h_ => h_.1))) (Kd.R_base ho0) hb); have n1_ := Aside0.mk (Kd.R_lower (Kd.R_new' ho0 (Kd.R_lt (by (try refine rp ?_); exact (Kd.R_mono (Kd.R_far (p := ⟨gb107, 1, none⟩) (Kd.R_far (p := ⟨gb107, 0, none⟩) (Kd.R_types HO_4.out BK107.out (by decide)) (fun _ hk => hk.2) (.int .i64 t106)) (fun _ hk => hk.2) (.slice none 0 0)) (fun _ h_ => h_.1))))) (below_size (wB))); have n2_ := Aside0.mk (blk_below (g := gb101) (o := .cells #[.int .i64 0, .slice none 0 0] 24 (0, 0)) (by (try refine bp ?_); refine blk_far ?_ NB101_107.out _; (try refine bp ?_); refine blk_far ?_ NB101_107.out _; (first | exact bp BK101.out | exact BK101.out)) hb); have n3_ := Aside0.mk (blk_below (g := gb107) (o := .cells #[.int .i64 t106, .slice none 0 0] 24 (0, 0)) (by (try refine bp ?_); refine blk_put (cs := #[.int .i64 t106, .slice none 0 0]) ?_ 1 _ rfl; (try refine bp ?_); refine blk_put (cs := #[.int .i64 0, .slice none 0 0]) ?_ 0 _ rfl; (first | exact bp BK107.out | exact BK107.out)) hb); have n4_ := sQ hb; clear HO_4; clear BK101; clear BK107; clear HB; have HO_4 := n0_; have HO111 := n1_; have BK101 := n2_; have BK107 := n3_; have HB := n4_; clear n0_ n1_ n2_ n3_ n4_; (try clear hb); (try clear hb2); (try clear hk); (try clear hi); (try clear ho0); obtain ⟨Ao19, co19, eo19⟩ := Kd.R_slice HO111.out; subst eo19))
   go_loopg [29] kj2 (fun kq v29 w' => ∃ (x29_2 : Int) (x108001_2 : List Int) (u108001 : Value), v29 = .int .i64 x29_2 ∧ Aside0 (spec_voParse.l0 kq a0 t109 (t109.length : Int) x29_2 t106 x108001_2 = some (r1, r2, r3)) ∧ Aside0 (kq ≤ kj2) ∧ Aside0 (Kd.R Kd.string 9 w' w.heap.size (fun _ => True) (.slice Ao19 t109.length co19) t109) ∧ Aside0 (Kd.R (Kd.int .i64) 3 w' w.heap.size (fun _ => True) u108001 x108001_2) ∧ Aside0 (w'.heap[gb101]? = some (.cells #[.int .i64 0, (.slice none 0 0)] 24 (0, 0))) ∧ Aside0 (w'.heap[gb107]? = some (.cells #[.int .i64 t106, u108001] 24 (0, 0))) ∧ Aside0 (Below w.heap.size w w'))
   case atStart => exact ⟨(0), (([] : List Int)), (.slice none 0 0), gR, H', ⟨Nat.le_refl _⟩, ⟨by (try refine rp ?_); exact Kd.R_mono HO111.out (fun _ hk => trivial)⟩, ⟨by first | exact Kd.R_nil _ _ _ _ _ | exact Kd.N_nil _ _ _ _ _ | exact Kd.V_nil _ _ _ _ _ | exact Kd.Q_nil _ _ _ _ _ | exact Kd.S_nil _ _ _ _ _⟩, ⟨bQ BK101⟩, ⟨bQ BK107⟩, ⟨wB⟩⟩
   case round =>
    clear H'
    try clear c1
    try clear p1
    try clear q1
    try clear hx1
    try clear qi1
    try clear p2
    try clear c4
    try clear c6
    try clear c6b0
    try clear c6b1
    try clear c7
    try clear c8
    try clear c10
    try clear c10b0
    try clear c10b1
    try clear p10
    try clear q10
    try clear hx10
    try clear qi10
    try clear c12
    try clear c12b0
    try clear c12b1
    try clear c16
    try clear hcz17_0
    try clear hcz17_1
    try clear hcz9_0
    try clear hcz9_1
    try clear hfz17_0
    try clear hfz17_1
    try clear hfz9_0
    try clear hfz9_1
    try clear hx105_0
    try clear hx108_0
    try clear p105
    try clear p108
    try clear p2
    try clear q105
    try clear q108
    obtain ⟨x29_2, x108001_2, u108001, rfl, HA, HK2, HO_27, HO_108001, BK101, BK107, HB⟩ := hrel
    cases gk with
    | zero => exact absurd HA.out (by simp [spec_voParse.l0])
    | succ k2 =>
     have H := HA.out
     clear HA
     simp only [spec_voParse.l0] at H
     by_cases c20 : x29_2 < (t109.length : Int)
     ·rw [if_pos c20] at H
      have c20b0 := decide_eq_true c20
      clear c20
      by_cases c21 : 0 ≤ x29_2
      rotate_left
      ·rw [if_neg c21] at H
       exact absurd H (by simp)
      rw [if_pos c21] at H
      have c21b0 := decide_eq_true c21
      clear c21
      by_cases c22 : x29_2 < (t109.length : Int)
      rotate_left
      ·rw [if_neg c22] at H
       exact absurd H (by simp)
      rw [if_pos c22] at H
      have c22b0 := decide_eq_true c22
      clear c22
      replace H := oB H
      obtain ⟨t113, A230, H⟩ := H
      replace H : (if x108001_2.length < 17592186044416 then (spec_voParse.l0 k2 a0 t109 (t109.length : Int) (wrap64 (x29_2 + 1)) t106 (x108001_2 ++ [t113])) else (none)) = some (r1, r2, r3) := H
      have A23 := Aside0.mk A230
      clear A230
      by_cases c24 : x108001_2.length < 17592186044416
      rotate_left
      ·rw [if_neg c24] at H
       exact absurd H (by simp)
      rw [if_pos c24] at H
      have LMc24 := Aside0.mk c24
      clear c24
      obtain ⟨y114, hy114⟩ : ∃ y_ : List Int, y_ = (x108001_2 ++ [t113]) := ⟨_, rfl⟩
      replace H : (spec_voParse.l0 k2 a0 t109 (t109.length : Int) (wrap64 (x29_2 + 1)) t106 y114) = some (r1, r2, r3) := by first | (rw [hy114]; with_reducible exact H) | (have H2_ := (Option.bind_some _ _).symm.trans H; rw [hy114]; with_reducible exact H2_) | (have H2_ := (Option.bind_some _ _).symm.trans H; with_reducible exact H2_) | with_reducible exact H | (rw [hy114]; exact H) | exact H
      have Ny114 := Aside0.mk hy114
      clear hy114
      have H' := Aside0.mk H
      clear H
      have p112 : 0 ≤ (x29_2 : Int) := oD
      have q112 : x29_2 < (t109.length : Int) := oD
      obtain ⟨ad112, e112, hx112_0⟩ := Kd.at_string (Kd.R_reads' HO_27.out).2.2 x29_2 p112 q112
      cases e112
      replace p112 := eq_true p112
      replace q112 := eq_true q112
      try go_wp2
      have n0_ := rD HO_27
      have n1_ := rD HO_108001
      have n2_ := bD BK101
      have n3_ := bD BK107
      have n4_ := Aside0.mk (below_drew1 HB.out)
      clear HO_27
      clear HO_108001
      clear BK101
      clear BK107
      clear HB
      have HO_27 := n0_
      have HO_108001 := n1_
      have BK101 := n2_
      have BK107 := n3_
      have HB := n4_
      clear n0_ n1_ n2_ n3_ n4_
      refine start_ (n := 8) (S := fun w' => w'.cell? ⟨gb107, 0, none⟩ = some (.int .i64 t106) ∧ w'.cell? ⟨gb107, 1, none⟩ = some (u108001)) (ds := [7]) #[false, false, false, false, false, false, false, false] (by kernel_rfl) rfl rfl ⟨(blk_cell BK107.out 0).trans rfl, (blk_cell BK107.out 1).trans rfl⟩ (fun hHeld => ?_); refine with_tabW spec_voParse.tab8 spec_voParse.bits8 (fun HT_ HW_ => ?_)
      generalize wr.drew = w25 at HO_27 HO_108001 BK101 BK107 HB hHeld ⊢
      refine pU 0 HT_ ?_
      refine pU 2 HT_ ?_
      refine tK 1 HT_ HW_ hHeld (hy := by rintro w' ⟨s0, s1⟩; go_simp; with_reducible rfl) ?_
      refine oN 3 HT_ (fun K hK => ?_)
      refine gE Tryz.func77 #[.string (rdOf ByteArray.empty t109 x29_2)] ?_
      with_reducible refine (spec_l1Read.calls k2 (rdOf ByteArray.empty t109 x29_2) t113 _ A23.out).mono ?_
      rintro e w' ⟨rfl, ⟨nd, rfl⟩⟩
      refine ⟨_, rfl, ?_⟩
      refine hK.out _ _ ⟨(blk_cell BK107.out 0).trans rfl, (blk_cell BK107.out 1).trans rfl⟩ (fun hHeld => ?_)
      clear hK K
      refine nM ?_
      refine oN 4 HT_ (fun K hK => ?_)
      refine value_ (w1 := ?_) (v := ?_) (by rfl) rfl ?_ ?_
      rotate_left 2
      ·go_simp
       constructor
       ·rfl
       rfl
      refine hK.out _ _ ⟨(blk_cell (blk_alloc BK107.out _) 0).trans rfl, (blk_cell (blk_alloc BK107.out _) 1).trans rfl⟩ (fun hHeld => ?_)
      clear hK K
      refine nM ?_
      refine oN 5 HT_ (fun K hK => ?_)
      refine Kd.R_append_step (Kd.int .i64) (w0 := w) w.heap.size (by rfl) (.tmp 34) (.tmp 37) 22 3 (.int .i64 0) 8 rfl Tryz.underlying22 info3 rfl (by decide) (by omega) u108001 x108001_2 t113 [.int .i64 t113] (fun _ => True) (fun _ => False) rfl rfl ?aP (fun _ hk => hk.elim) ?aF ?aO ?aB ?aS ?aL ?_
      (case aP => exact rfl)
      (case aB => exact (wB))
      (case aF => exact (fun _ _ => trivial))
      (case aO => exact (rQ HO_108001))
      (case aS => exact (below_size (wB)))
      (case aL => have := LMc24.out; omega)
      intro v115 w26 ho hb hg hat
      rw [← Ny114.out] at ho
      have n0_ := Aside0.mk (Kd.R_over' (rQ HO_27) (Kd.R_typed (rQ HO_108001)) (by decide) hg)
      have n1_ := Aside0.mk (blk_grown (g := gb101) (o := .cells #[.int .i64 0, .slice none 0 0] 24 (0, 0)) (bQ BK101) hg (Kd.R_ne HO_108001.out BK101.out (by decide)))
      have n2_ := Aside0.mk (blk_grown (g := gb107) (o := .cells #[.int .i64 t106, u108001] 24 (0, 0)) (bQ BK107) hg (Kd.R_ne HO_108001.out BK107.out (by decide)))
      have n3_ := Aside0.mk (hb)
      have n4_ := Aside0.mk (ho)
      clear HO_27
      clear BK101
      clear BK107
      clear HB
      clear HO_108001
      have HO_27 := n0_
      have BK101 := n1_
      have BK107 := n2_
      have HB := n3_
      have HO116 := n4_
      clear n0_ n1_ n2_ n3_ n4_
      clear ho hb hg hat
      obtain ⟨Ao27, co27, eo27⟩ := Kd.R_slice HO116.out
      (first | subst eo27 | (injection eo27 with f1_ f2_ f3_; have f4_ := f1_.symm; have f5_ := f3_.symm; clear f1_ f2_ f3_; subst f4_; subst f5_))
      refine hK.out _ _ ⟨(blk_cell BK107.out 0).trans rfl, (blk_cell BK107.out 1).trans rfl⟩ (fun hHeld => ?_)
      clear hK K
      refine nM ?_
      refine pU 6 HT_ ?_
      refine last_ (i := 7) (N := none) #[true, true, true, true, true, true, true, true] rfl rfl (one_of HT_.out (by kernel_rfl)) (by decide) (fun K hK => ?_)
      have hs28 : w26.cell? ⟨gb107, 1, none⟩ = some (u108001) := (blk_cell BK107.out 1).trans rfl
      have hfs28 := blk_frozen BK107.out 1
      have hns28_0 := NB101_107.out
      have hms28_0 := NB107_101.out
      refine skip_ (w1 := ?_) (by rfl) rfl ?_ ?_
      rotate_left
      ·go_simp
       rfl
      refine hK.out _ _ ?_
      clear hK K
      refine done_ (done_of HT_.out (by kernel_rfl)) ?_
      try go_wp2
      go_roundg k2
      case measure => have := HJ2.out; have := HK2.out; omega
      case rel => exact ⟨(wrap64 (x29_2 + 1)), (y114), (.slice Ao27 y114.length co27), gR, H', ⟨by have := HJ2.out; have := HK2.out; omega⟩, ⟨by (try refine rp ?_); exact Kd.R_mono (Kd.R_far (p := ⟨gb107, 1, none⟩) (Kd.R_types HO_27.out BK107.out (by decide)) (fun _ hk => hk.2) (.slice Ao27 y114.length co27)) (fun _ hk => trivial)⟩, ⟨by (try refine rp ?_); exact Kd.R_mono (Kd.R_far (p := ⟨gb107, 1, none⟩) (Kd.R_types HO116.out BK107.out (by decide)) (fun _ hk => hk.2) (.slice Ao27 y114.length co27)) (fun _ hk => trivial)⟩, ⟨by (try refine bp ?_); refine blk_far ?_ NB101_107.out _; (first | exact bp BK101.out | exact BK101.out)⟩, ⟨by (try refine bp ?_); refine blk_put (cs := #[.int .i64 t106, u108001]) ?_ 1 _ rfl; (first | exact bp BK107.out | exact BK107.out)⟩, ⟨wB⟩⟩
     rw [if_neg c20] at H
     have c20b0 : decide (x29_2 < (t109.length : Int)) = false := decide_eq_false c20
     clear c20
     replace H := oB H
     obtain ⟨t117, A290, H⟩ := H
     replace H : (if t117 = true then ((spec_voText.f k2 t106 x108001_2).bind fun t118 => (some (t106, x108001_2, (t118.toList == a0.toList)))) else (some (t106, x108001_2, false))) = some (r1, r2, r3) := H
     have A29 := Aside0.mk A290
     clear A290
     by_cases c30 : t117 = true
     rotate_left
     ·replace c30 := Bool.eq_false_iff.mpr c30
      subst c30
      replace H := iF H
      simp only [Option.some.injEq, Prod.mk.injEq] at H
      obtain ⟨rfl, rfl, rfl⟩ := H
      try go_wp2
      have n0_ := rD HO_27
      have n1_ := rD HO_108001
      have n2_ := bD BK101
      have n3_ := bD BK107
      have n4_ := Aside0.mk (below_drew1 HB.out)
      clear HO_27
      clear HO_108001
      clear BK101
      clear BK107
      clear HB
      have HO_27 := n0_
      have HO_108001 := n1_
      have BK101 := n2_
      have BK107 := n3_
      have HB := n4_
      clear n0_ n1_ n2_ n3_ n4_
      obtain ⟨Ao39, co39, eo39⟩ := Kd.R_slice HO_108001.out
      (first | subst eo39 | (injection eo39 with f1_ f2_ f3_; have f4_ := f1_.symm; have f5_ := f3_.symm; clear f1_ f2_ f3_; subst f4_; subst f5_))
      refine start_ (n := 11) (S := fun w' => w'.cell? ⟨gb107, 0, none⟩ = some (.int .i64 t106) ∧ w'.cell? ⟨gb107, 1, none⟩ = some (.slice Ao39 x108001_2.length co39)) (ds := []) #[false, false, false, false, false, false, false, false, false, false, false] (by kernel_rfl) rfl rfl ⟨(blk_cell BK107.out 0).trans rfl, (blk_cell BK107.out 1).trans rfl⟩ (fun hHeld => ?_); refine with_tabW spec_voParse.tab10 spec_voParse.bits10 (fun HT_ HW_ => ?_)
      generalize wr.drew = w38 at HO_27 HO_108001 BK101 BK107 HB hHeld ⊢
      refine tK 0 HT_ HW_ hHeld (hy := by rintro w' ⟨s0, s1⟩; go_simp; with_reducible rfl) ?_
      refine tK 1 HT_ HW_ hHeld (hy := by rintro w' ⟨s0, s1⟩; go_simp; with_reducible rfl) ?_
      refine oN 2 HT_ (fun K hK => ?_)
      refine gE Tryz.func28 #[.agg #[.int .i64 t106, .slice Ao39 x108001_2.length co39]] ?_
      with_reducible refine (spec_voGood.calls k2 t106 _ _ x108001_2 false _ ?side1 ?side2 A29.out).mono ?_
      (case side1 => have hx_ := (Kd.R_reads' HO_108001.out).2.2; exact cC)
      (case side2 => exact (Kd.R_reads' HO_108001.out).2.1)
      rintro e w40 ⟨rfl, hb⟩
      refine ⟨_, rfl, ?_⟩
      have n0_ := rP HO_27 hb
      have n1_ := rP HO_108001 hb
      have n2_ := bP BK101 hb
      have n3_ := bP BK107 hb
      have n4_ := sQ hb
      clear HO_27
      clear HO_108001
      clear BK101
      clear BK107
      clear HB
      have HO_27 := n0_
      have HO_108001 := n1_
      have BK101 := n2_
      have BK107 := n3_
      have HB := n4_
      clear n0_ n1_ n2_ n3_ n4_
      (try clear hb)
      (try clear hb2)
      (try clear hk)
      (try clear hi)
      refine hK.out _ _ ⟨(blk_cell BK107.out 0).trans rfl, (blk_cell BK107.out 1).trans rfl⟩ (fun hHeld => ?_)
      clear hK K
      refine nM ?_
      refine pU 3 HT_ ?_
      refine pV 4 HT_ ?_
      refine pV 5 HT_ ?_
      refine pV 6 HT_ ?_
      refine pV 7 HT_ ?_
      refine pU 8 HT_ ?_
      refine oN 9 HT_ (fun K hK => ?_)
      have hs41 : w40.cell? ⟨gb101, 0, none⟩ = some (.int .i64 0) := (blk_cell BK101.out 0).trans rfl
      have hfs41 := blk_frozen BK101.out 0
      have hns41_1 := NB107_101.out
      have hms41_1 := NB101_107.out
      have hs42 : w40.cell? ⟨gb101, 1, none⟩ = some (.slice none 0 0) := (blk_cell BK101.out 1).trans rfl
      have hfs42 := blk_frozen BK101.out 1
      have hns42_1 := NB107_101.out
      have hms42_1 := NB101_107.out
      refine skip_ (w1 := ?_) (by rfl) rfl ?_ ?_
      rotate_left
      ·go_simp
       rfl
      refine hK.out _ _ ⟨((cell_far (p := ⟨gb101, _, none⟩) NB107_101.out _).trans (((cell_far (p := ⟨gb101, _, none⟩) NB107_101.out _).trans (hHeld.1)))), ((cell_far (p := ⟨gb101, _, none⟩) NB107_101.out _).trans (((cell_far (p := ⟨gb101, _, none⟩) NB107_101.out _).trans (hHeld.2))))⟩ (fun hHeld => ?_)
      clear hK K
      refine pU 10 HT_ ?_
      refine done_ (done_of HT_.out (by kernel_rfl)) ?_
      try go_wp2
      refine bodyPost_ret (results_ct rfl _ _ gb101 24 #[.int .i64 t106, .slice Ao39 x108001_2.length co39] (0, 0) _ rfl (by (try refine bp ?_); refine blk_put (cs := #[.int .i64 t106, .slice none 0 0]) ?_ 1 _ rfl; (try refine bp ?_); refine blk_put (cs := #[.int .i64 0, .slice none 0 0]) ?_ 0 _ rfl; (first | exact bp BK101.out | exact BK101.out)) Tryz.underlying24 rfl (by kernel_rfl)) rfl ?_
      exact ⟨_, fR, by (try refine rp ?_); exact Kd.R_mono (Kd.R_far (p := ⟨gb101, 1, none⟩) (Kd.R_far (p := ⟨gb101, 0, none⟩) (Kd.R_types HO_108001.out BK101.out (by decide)) (fun _ hk => hk.2) (.int .i64 t106)) (fun _ hk => hk.2) (.slice Ao39 x108001_2.length co39)) (fun _ hk => trivial), wB⟩
     subst c30
     replace H := iT H
     replace H := oB H
     obtain ⟨t118, A310, H⟩ := H
     replace H : (some (t106, x108001_2, (t118.toList == a0.toList))) = some (r1, r2, r3) := H
     have A31 := Aside0.mk A310
     clear A310
     simp only [Option.some.injEq, Prod.mk.injEq] at H
     obtain ⟨rfl, rfl, rfl⟩ := H
     try go_wp2
     have n0_ := rD HO_27
     have n1_ := rD HO_108001
     have n2_ := bD BK101
     have n3_ := bD BK107
     have n4_ := Aside0.mk (below_drew1 HB.out)
     clear HO_27
     clear HO_108001
     clear BK101
     clear BK107
     clear HB
     have HO_27 := n0_
     have HO_108001 := n1_
     have BK101 := n2_
     have BK107 := n3_
     have HB := n4_
     clear n0_ n1_ n2_ n3_ n4_
     obtain ⟨Ao33, co33, eo33⟩ := Kd.R_slice HO_108001.out
     (first | subst eo33 | (injection eo33 with f1_ f2_ f3_; have f4_ := f1_.symm; have f5_ := f3_.symm; clear f1_ f2_ f3_; subst f4_; subst f5_))
     refine start_ (n := 11) (S := fun w' => w'.cell? ⟨gb107, 0, none⟩ = some (.int .i64 t106) ∧ w'.cell? ⟨gb107, 1, none⟩ = some (.slice Ao33 x108001_2.length co33)) (ds := []) #[false, false, false, false, false, false, false, false, false, false, false] (by kernel_rfl) rfl rfl ⟨(blk_cell BK107.out 0).trans rfl, (blk_cell BK107.out 1).trans rfl⟩ (fun hHeld => ?_); refine with_tabW spec_voParse.tab10 spec_voParse.bits10 (fun HT_ HW_ => ?_)
     generalize wr.drew = w32 at HO_27 HO_108001 BK101 BK107 HB hHeld ⊢
     refine tK 0 HT_ HW_ hHeld (hy := by rintro w' ⟨s0, s1⟩; go_simp; with_reducible rfl) ?_
     refine tK 1 HT_ HW_ hHeld (hy := by rintro w' ⟨s0, s1⟩; go_simp; with_reducible rfl) ?_
     refine oN 2 HT_ (fun K hK => ?_)
     refine gE Tryz.func28 #[.agg #[.int .i64 t106, .slice Ao33 x108001_2.length co33]] ?_
     with_reducible refine (spec_voGood.calls k2 t106 _ _ x108001_2 true _ ?side1 ?side2 A29.out).mono ?_
     (case side1 => have hx_ := (Kd.R_reads' HO_108001.out).2.2; exact cC)
     (case side2 => exact (Kd.R_reads' HO_108001.out).2.1)
     rintro e w34 ⟨rfl, hb⟩
     refine ⟨_, rfl, ?_⟩
     have n0_ := rP HO_27 hb
     have n1_ := rP HO_108001 hb
     have n2_ := bP BK101 hb
     have n3_ := bP BK107 hb
     have n4_ := sQ hb
     clear HO_27
     clear HO_108001
     clear BK101
     clear BK107
     clear HB
     have HO_27 := n0_
     have HO_108001 := n1_
     have BK101 := n2_
     have BK107 := n3_
     have HB := n4_
     clear n0_ n1_ n2_ n3_ n4_
     (try clear hb)
     (try clear hb2)
     (try clear hk)
     (try clear hi)
     refine hK.out _ _ ⟨(blk_cell BK107.out 0).trans rfl, (blk_cell BK107.out 1).trans rfl⟩ (fun hHeld => ?_)
     clear hK K
     refine nM ?_
     refine pU 3 HT_ ?_
     refine pU 6 HT_ ?_
     refine tK 4 HT_ HW_ hHeld (hy := by rintro w' ⟨s0, s1⟩; go_simp; with_reducible rfl) ?_
     refine oN 5 HT_ (fun K hK => ?_)
     refine gE Tryz.func43 #[.agg #[.int .i64 t106, .slice Ao33 x108001_2.length co33]] ?_
     with_reducible refine (spec_voText.calls k2 t106 _ _ x108001_2 t118 _ ?side1 ?side2 A31.out).mono ?_
     (case side1 => have hx_ := (Kd.R_reads' HO_108001.out).2.2; exact cC)
     (case side2 => exact (Kd.R_reads' HO_108001.out).2.1)
     rintro e w35 ⟨rfl, hb⟩
     refine ⟨_, rfl, ?_⟩
     have n0_ := rP HO_27 hb
     have n1_ := rP HO_108001 hb
     have n2_ := bP BK101 hb
     have n3_ := bP BK107 hb
     have n4_ := sQ hb
     clear HO_27
     clear HO_108001
     clear BK101
     clear BK107
     clear HB
     have HO_27 := n0_
     have HO_108001 := n1_
     have BK101 := n2_
     have BK107 := n3_
     have HB := n4_
     clear n0_ n1_ n2_ n3_ n4_
     (try clear hb)
     (try clear hb2)
     (try clear hk)
     (try clear hi)
     refine hK.out _ _ ⟨(blk_cell BK107.out 0).trans rfl, (blk_cell BK107.out 1).trans rfl⟩ (fun hHeld => ?_)
     clear hK K
     refine nM ?_
     refine pU 7 HT_ ?_
     refine pU 8 HT_ ?_
     refine oN 9 HT_ (fun K hK => ?_)
     have hs36 : w35.cell? ⟨gb101, 0, none⟩ = some (.int .i64 0) := (blk_cell BK101.out 0).trans rfl
     have hfs36 := blk_frozen BK101.out 0
     have hns36_1 := NB107_101.out
     have hms36_1 := NB101_107.out
     have hs37 : w35.cell? ⟨gb101, 1, none⟩ = some (.slice none 0 0) := (blk_cell BK101.out 1).trans rfl
     have hfs37 := blk_frozen BK101.out 1
     have hns37_1 := NB107_101.out
     have hms37_1 := NB101_107.out
     refine skip_ (w1 := ?_) (by rfl) rfl ?_ ?_
     rotate_left
     ·go_simp
      rfl
     refine hK.out _ _ ⟨((cell_far (p := ⟨gb101, _, none⟩) NB107_101.out _).trans (((cell_far (p := ⟨gb101, _, none⟩) NB107_101.out _).trans (hHeld.1)))), ((cell_far (p := ⟨gb101, _, none⟩) NB107_101.out _).trans (((cell_far (p := ⟨gb101, _, none⟩) NB107_101.out _).trans (hHeld.2))))⟩ (fun hHeld => ?_)
     clear hK K
     refine pU 10 HT_ ?_
     refine done_ (done_of HT_.out (by kernel_rfl)) ?_
     try go_wp2
     refine bodyPost_ret (results_ct rfl _ _ gb101 24 #[.int .i64 t106, .slice Ao33 x108001_2.length co33] (0, 0) _ rfl (by (try refine bp ?_); refine blk_put (cs := #[.int .i64 t106, .slice none 0 0]) ?_ 1 _ rfl; (try refine bp ?_); refine blk_put (cs := #[.int .i64 0, .slice none 0 0]) ?_ 0 _ rfl; (first | exact bp BK101.out | exact BK101.out)) Tryz.underlying24 rfl (by kernel_rfl)) rfl ?_
     exact ⟨_, fR, by (try refine rp ?_); exact Kd.R_mono (Kd.R_far (p := ⟨gb101, 1, none⟩) (Kd.R_far (p := ⟨gb101, 0, none⟩) (Kd.R_types HO_108001.out BK101.out (by decide)) (fun _ hk => hk.2) (.int .i64 t106)) (fun _ hk => hk.2) (.slice Ao33 x108001_2.length co33)) (fun _ hk => trivial), wB⟩
def spec_ParseCommittee.f (k : Nat) (a0 : ByteArray) : Option (Int × List Int × Bool) := (spec_voParse.f k a0).bind fun bt102 => (if bt102.2.2 = true then (some (bt102.1, bt102.2.1, true)) else (some (0, ([] : List Int), false)))
theorem spec_ParseCommittee.calls (k : Nat) (a0 : ByteArray) (r1 : Int) (r2 : List Int) (r3 : Bool) (w : World) (h : spec_ParseCommittee.f k a0 = some (r1, r2, r3)) :
  Calls Tryz.prog 16 #[.string a0] w fun e w' => ∃ v1_ : Value, e = .returned (.tuple #[.agg #[.int .i64 r1, v1_], .bool r3]) ∧ Kd.R (Kd.int .i64) 3 w' w.heap.size (fun _ => True) v1_ r2 ∧ Below w.heap.size w w' := by
 have hu24 := Tryz.underlying24
 have HB := Aside0.mk (Below.refl w.heap.size w)
 have H := h
 unfold spec_ParseCommittee.f at H
 clear h
 replace H := oB H
 obtain ⟨⟨t102, t103, t106⟩, A20, H⟩ := H
 replace H : (if t106 = true then (some (t102, t103, true)) else (some (0, ([] : List Int), false))) = some (r1, r2, r3) := H
 have A2 := Aside0.mk A20
 clear A20
 by_cases c3 : t106 = true
 rotate_left
 ·replace c3 := Bool.eq_false_iff.mpr c3
  subst c3
  replace H := iF H
  simp only [Option.some.injEq, Prod.mk.injEq] at H
  obtain ⟨rfl, rfl, rfl⟩ := H
  go_enter Tryz.func16, Tryz.ntmps16
  go_wp2_with (first | ((with_reducible refine gate_dst (N := 2) rfl ?_); refine box_event ?hg (N := 2) ?hd (cs := #[.int .i64 0, .slice none 0 0]) (t := 24) ?hr ?_; (case hd => rfl); (case hg => rfl); (case hr => first | (go_simp; done) | (go_simp; rfl)); intro gb101 hg w11 hbox hb; have n0_ := sQ hb; have n1_ := Aside0.mk (hbox); have n2_ := Aside0.mk ((by rw [hg]; exact (below_size (wB)) : w.heap.size ≤ gb101)); have n3_ := Aside0.mk ((by rw [hg]; exact (below_size (wB)) : w.heap.size ≤ gb101)); clear HB; have HB := n0_; have BK101 := n1_; have GW101 := n2_; have GE101 := n3_; clear n0_ n1_ n2_ n3_; clear hb hbox hg) | ((with_reducible refine gate_callee (f := 47) rfl ?_); refine gL 8 Tryz.func47 #[.string a0] ?_; (with_reducible refine (spec_voParse.calls k a0 t102 t103 false _ A2.out).mono ?_); rintro e w12 ⟨v104, rfl, ho0, hb⟩; refine ⟨_, rfl, ?_⟩; have n0_ := Aside0.mk (Kd.R_lower ho0 (below_size (wB))); have n1_ := bP BK101 hb; have n2_ := sQ hb; clear BK101; clear HB; have HO105 := n0_; have BK101 := n1_; have HB := n2_; clear n0_ n1_ n2_; (try clear hb); (try clear hb2); (try clear hk); (try clear hi); (try clear ho0)) | ((with_reducible refine gate_dst (N := 4) rfl ?_); refine box_event ?hg (N := 4) ?hd (cs := #[.int .i64 0, .slice none 0 0]) (t := 24) ?hr ?_; (case hd => rfl); (case hg => rfl); (case hr => first | (go_simp; done) | (go_simp; rfl)); intro gb107 hg w13 hbox hb; have n0_ := rP HO105 hb; have n1_ := bP BK101 hb; have n2_ := sQ hb; have n3_ := Aside0.mk (hbox); have n4_ := Aside0.mk ((by rw [hg]; exact (below_size (wB)) : w.heap.size ≤ gb107)); have n5_ := Aside0.mk ((by rw [hg]; exact (below_size (wB)) : w.heap.size ≤ gb107)); have n6_ := Aside0.mk ((by rw [hg]; exact Nat.ne_of_lt (blk_lt (g := gb101) (o := .cells #[.int .i64 0, .slice none 0 0] 24 (0, 0)) (bQ BK101)) : gb101 ≠ gb107)); have n7_ := Aside0.mk ((by rw [hg]; exact Nat.ne_of_gt (blk_lt (g := gb101) (o := .cells #[.int .i64 0, .slice none 0 0] 24 (0, 0)) (bQ BK101)) : gb107 ≠ gb101)); clear HO105; clear BK101; clear HB; have HO105 := n0_; have BK101 := n1_; have HB := n2_; have BK107 := n3_; have GW107 := n4_; have GE107 := n5_; have NB101_107 := n6_; have NB107_101 := n7_; clear n0_ n1_ n2_ n3_ n4_ n5_ n6_ n7_; clear hb hbox hg; have hnb14 := NB107_101.out; have hnc14 := NB101_107.out; obtain ⟨hcz15_0, hcz15_1, hfz15_0, hfz15_1⟩ := zZ BK107; obtain ⟨Ao16, co16, eo16⟩ := Kd.R_slice HO105.out; subst eo16; obtain ⟨hcz17_0, hcz17_1, hfz17_0, hfz17_1⟩ := zZ BK101))
  refine bodyPost_ret (results_ct rfl _ _ gb101 24 #[.int .i64 0, .slice none 0 0] (0, 0) _ rfl (by (try refine bp ?_); refine blk_put (cs := #[.int .i64 0, .slice none 0 0]) ?_ 1 _ rfl; (try refine bp ?_); refine blk_put (cs := #[.int .i64 0, .slice none 0 0]) ?_ 0 _ rfl; (try refine bp ?_); refine blk_far ?_ NB101_107.out _; (try refine bp ?_); refine blk_far ?_ NB101_107.out _; (first | exact bp BK101.out | exact BK101.out)) Tryz.underlying24 rfl (by kernel_rfl)) rfl ?_
  exact ⟨_, fR, by first | exact Kd.R_nil _ _ _ _ _ | exact Kd.N_nil _ _ _ _ _ | exact Kd.V_nil _ _ _ _ _ | exact Kd.Q_nil _ _ _ _ _ | exact Kd.S_nil _ _ _ _ _, wB⟩
 subst c3
 replace H := iT H
 simp only [Option.some.injEq, Prod.mk.injEq] at H
 obtain ⟨rfl, rfl, rfl⟩ := H
 go_enter Tryz.func16, Tryz.ntmps16
 go_wp2_with (first | ((with_reducible refine gate_dst (N := 2) rfl ?_); refine box_event ?hg (N := 2) ?hd (cs := #[.int .i64 0, .slice none 0 0]) (t := 24) ?hr ?_; (case hd => rfl); (case hg => rfl); (case hr => first | (go_simp; done) | (go_simp; rfl)); intro gb101 hg w4 hbox hb; have n0_ := sQ hb; have n1_ := Aside0.mk (hbox); have n2_ := Aside0.mk ((by rw [hg]; exact (below_size (wB)) : w.heap.size ≤ gb101)); have n3_ := Aside0.mk ((by rw [hg]; exact (below_size (wB)) : w.heap.size ≤ gb101)); clear HB; have HB := n0_; have BK101 := n1_; have GW101 := n2_; have GE101 := n3_; clear n0_ n1_ n2_ n3_; clear hb hbox hg) | ((with_reducible refine gate_callee (f := 47) rfl ?_); refine gL 8 Tryz.func47 #[.string a0] ?_; (with_reducible refine (spec_voParse.calls k a0 t102 t103 true _ A2.out).mono ?_); rintro e w5 ⟨v104, rfl, ho0, hb⟩; refine ⟨_, rfl, ?_⟩; have n0_ := Aside0.mk (Kd.R_lower ho0 (below_size (wB))); have n1_ := bP BK101 hb; have n2_ := sQ hb; clear BK101; clear HB; have HO105 := n0_; have BK101 := n1_; have HB := n2_; clear n0_ n1_ n2_; (try clear hb); (try clear hb2); (try clear hk); (try clear hi); (try clear ho0)) | ((with_reducible refine gate_dst (N := 4) rfl ?_); refine box_event ?hg (N := 4) ?hd (cs := #[.int .i64 0, .slice none 0 0]) (t := 24) ?hr ?_; (case hd => rfl); (case hg => rfl); (case hr => first | (go_simp; done) | (go_simp; rfl)); intro gb107 hg w6 hbox hb; have n0_ := rP HO105 hb; have n1_ := bP BK101 hb; have n2_ := sQ hb; have n3_ := Aside0.mk (hbox); have n4_ := Aside0.mk ((by rw [hg]; exact (below_size (wB)) : w.heap.size ≤ gb107)); have n5_ := Aside0.mk ((by rw [hg]; exact (below_size (wB)) : w.heap.size ≤ gb107)); have n6_ := Aside0.mk ((by rw [hg]; exact Nat.ne_of_lt (blk_lt (g := gb101) (o := .cells #[.int .i64 0, .slice none 0 0] 24 (0, 0)) (bQ BK101)) : gb101 ≠ gb107)); have n7_ := Aside0.mk ((by rw [hg]; exact Nat.ne_of_gt (blk_lt (g := gb101) (o := .cells #[.int .i64 0, .slice none 0 0] 24 (0, 0)) (bQ BK101)) : gb107 ≠ gb101)); clear HO105; clear BK101; clear HB; have HO105 := n0_; have BK101 := n1_; have HB := n2_; have BK107 := n3_; have GW107 := n4_; have GE107 := n5_; have NB101_107 := n6_; have NB107_101 := n7_; clear n0_ n1_ n2_ n3_ n4_ n5_ n6_ n7_; clear hb hbox hg; have hnb7 := NB107_101.out; have hnc7 := NB101_107.out; obtain ⟨hcz8_0, hcz8_1, hfz8_0, hfz8_1⟩ := zZ BK107; obtain ⟨Ao9, co9, eo9⟩ := Kd.R_slice HO105.out; subst eo9; obtain ⟨hcz10_0, hcz10_1, hfz10_0, hfz10_1⟩ := zZ BK101))
 refine bodyPost_ret (results_ct rfl _ _ gb101 24 #[.int .i64 t102, .slice Ao9 t103.length co9] (0, 0) _ rfl (by (try refine bp ?_); refine blk_put (cs := #[.int .i64 t102, .slice none 0 0]) ?_ 1 _ rfl; (try refine bp ?_); refine blk_put (cs := #[.int .i64 0, .slice none 0 0]) ?_ 0 _ rfl; (try refine bp ?_); refine blk_far ?_ NB101_107.out _; (try refine bp ?_); refine blk_far ?_ NB101_107.out _; (first | exact bp BK101.out | exact BK101.out)) Tryz.underlying24 rfl (by kernel_rfl)) rfl ?_
 exact ⟨_, fR, by (try refine rp ?_); exact Kd.R_mono (Kd.R_far (p := ⟨gb101, 1, none⟩) (Kd.R_far (p := ⟨gb101, 0, none⟩) (Kd.R_far (p := ⟨gb107, 1, none⟩) (Kd.R_far (p := ⟨gb107, 0, none⟩) (Kd.R_types (Kd.R_types HO105.out BK107.out (by decide)) BK101.out (by decide)) (fun _ hk => hk.1.2) (.int .i64 t102)) (fun _ hk => hk.1.2) (.slice Ao9 t103.length co9)) (fun _ hk => hk.2) (.int .i64 t102)) (fun _ hk => hk.2) (.slice Ao9 t103.length co9)) (fun _ hk => trivial), wB⟩
def laws_mSum.l0 : Nat → Int → List Int → Int → Int → Option (Int)
 | 0, _, _, _, _ => none
 | k + 1, x3, x6, x7, x8 => if x8 < x7 then (if 0 ≤ x8 then (if x8 < (x6.length : Int) then (laws_mSum.l0 k (wrap64 (x3 + (rd x6 x8))) x6 x7 (wrap64 (x8 + 1))) else (none)) else (none)) else (some x3)
def laws_mSum.f (k : Nat) (l0 : List Int) : Option (Int) := laws_mSum.l0 k 0 l0 (l0.length : Int) 0
theorem laws_mSum.calls (k : Nat) (A0 : Option Addr) (c0 : Nat) (l0 : List Int) (r : Int) (w : World) (hr0 : Kd.C (Kd.int .i64) w A0 l0.length l0) (hc0 : l0.length ≤ c0) (h : laws_mSum.f k l0 = some r) :
  Calls Tryz.prog 18 #[.slice A0 l0.length c0] w fun e w' => e = .returned (.int .i64 r) ∧ Drawn0 w w' := by
 have HR0 := Aside0.mk hr0
 have HC0 := Aside0.mk hc0
 clear hr0 hc0
 have H := h
 unfold laws_mSum.f at H
 clear h
 have H' := Aside0.mk H
 clear H
 go_enter Tryz.func18, Tryz.ntmps18
 go_wp2
 go_loopg [3, 8] k (fun kq v3 v8 w' => ∃ (x3_1 : Int) (x8_1 : Int), v3 = .int .i64 x3_1 ∧ v8 = .int .i64 x8_1 ∧ Aside0 (laws_mSum.l0 kq x3_1 l0 (l0.length : Int) x8_1 = some r) ∧ Aside0 (kq ≤ k) ∧ Drawn0 w w')
 case atStart => exact ⟨(0), (0), gR, gR, H', ⟨Nat.le_refl _⟩, dS⟩
 case round =>
  clear H'
  try clear c1
  obtain ⟨x3_1, x8_1, rfl, rfl, HA, HK1, ⟨m1, rfl⟩⟩ := hrel
  cases gk with
  | zero => exact absurd HA.out (by simp [laws_mSum.l0])
  | succ k1 =>
   have H := HA.out
   clear HA
   simp only [laws_mSum.l0] at H
   by_cases c2 : x8_1 < (l0.length : Int)
   rotate_left
   ·rw [if_neg c2] at H
    have c2b0 : decide (x8_1 < (l0.length : Int)) = false := decide_eq_false c2
    clear c2
    obtain rfl := Option.some.inj H
    go_wp2
    go_ret
    exact ⟨by first | rfl | (simp; done) | (simp [*]; done), dS⟩
   rw [if_pos c2] at H
   have c2b0 := decide_eq_true c2
   clear c2
   by_cases c3 : 0 ≤ x8_1
   rotate_left
   ·rw [if_neg c3] at H
    exact absurd H (by simp)
   rw [if_pos c3] at H
   have c3b0 := decide_eq_true c3
   clear c3
   by_cases c4 : x8_1 < (l0.length : Int)
   rotate_left
   ·rw [if_neg c4] at H
    exact absurd H (by simp)
   rw [if_pos c4] at H
   have c4b0 := decide_eq_true c4
   clear c4
   have H' := Aside0.mk H
   clear H
   have p101 : 0 ≤ (x8_1 : Int) := oD
   have q101 : x8_1 < (l0.length : Int) := oD
   obtain ⟨ad101, e101, hx101_0⟩ := Kd.at_int HR0.out x8_1 p101 q101
   cases e101
   replace p101 := eq_true p101
   replace q101 := eq_true q101
   go_wp2
   go_roundg k1
   case measure => have := HK1.out; omega
   case rel => exact ⟨(wrap64 (x3_1 + (rd l0 x8_1))), (wrap64 (x8_1 + 1)), gR, gR, H', ⟨by have := HK1.out; omega⟩, dS⟩
def impl_votes_isLeast.l0 : Nat → Int → Int → Int → Int → List Bool → Option (Bool)
 | 0, _, _, _, _, _ => none
 | k + 1, x1, x13, x14, x102000, x102001 => if x14 < x13 then ((impl_has.f x1 x14).bind fun t103 => (if t103 = true then (if 0 ≤ x14 then (if 0 ≤ (Go.bits .andNot .i64 x1 (shl .i64 1 x14)) then (if (Go.bits .andNot .i64 x1 (shl .i64 1 x14)) < (x102001.length : Int) then (if rdOf false x102001 (Go.bits .andNot .i64 x1 (shl .i64 1 x14)) = true then (some false) else (impl_votes_isLeast.l0 k x1 x13 (wrap64 (x14 + 1)) x102000 x102001)) else (none)) else (none)) else (none)) else (impl_votes_isLeast.l0 k x1 x13 (wrap64 (x14 + 1)) x102000 x102001))) else (some true)
def impl_votes_isLeast.f (k : Nat) (a0_0 : Int) (l0_1 : List Bool) (a1 : Int) : Option (Bool) := if 0 ≤ a1 then (if a1 < (l0_1.length : Int) then (if rdOf false l0_1 a1 = true then (impl_votes_isLeast.l0 k a1 a0_0 0 a0_0 l0_1) else (some false)) else (none)) else (none)
theorem impl_votes_isLeast.calls (k : Nat) (a0_0 : Int) (A0_1 : Option Addr) (c0_1 : Nat) (l0_1 : List Bool) (a1 : Int) (r : Bool) (w : World) (hr0_1 : Kd.C Kd.bool w A0_1 l0_1.length l0_1) (hc0_1 : l0_1.length ≤ c0_1) (h : impl_votes_isLeast.f k a0_0 l0_1 a1 = some r) :
  Calls Tryz.prog 81 #[.agg #[.int .i64 a0_0, .slice A0_1 l0_1.length c0_1], .int .i64 a1] w fun e w' => e = .returned (.bool r) ∧ Below w.heap.size w w' := by
 have hu58 := Tryz.underlying58
 have HR0_1 := Aside0.mk hr0_1
 have HC0_1 := Aside0.mk hc0_1
 clear hr0_1 hc0_1
 have HB := Aside0.mk (Below.refl w.heap.size w)
 have H := h
 unfold impl_votes_isLeast.f at H
 clear h
 by_cases c3 : 0 ≤ a1
 rotate_left
 ·rw [if_neg c3] at H
  exact absurd H (by simp)
 rw [if_pos c3] at H
 have c3b0 := decide_eq_true c3
 clear c3
 by_cases c4 : a1 < (l0_1.length : Int)
 rotate_left
 ·rw [if_neg c4] at H
  exact absurd H (by simp)
 rw [if_pos c4] at H
 have c4b0 := decide_eq_true c4
 clear c4
 obtain ⟨bq5, hbq5⟩ : ∃ b_ : Bool, b_ = (rdOf false l0_1 a1) := ⟨_, rfl⟩
 replace H : (if bq5 = true then (impl_votes_isLeast.l0 k a1 a0_0 0 a0_0 l0_1) else (some false)) = some r := by rw [← hbq5] at H; exact H
 have Nbq5 := Aside0.mk hbq5
 clear hbq5
 by_cases c6 : bq5 = true
 rotate_left
 ·replace c6 := Bool.eq_false_iff.mpr c6
  subst c6
  replace H := iF H
  obtain rfl := Option.some.inj H
  go_enter Tryz.func81, Tryz.ntmps81
  go_wp2_with (first | ((with_reducible refine gate_dst (N := 2) rfl ?_); refine box_event ?hg (N := 2) ?hd (cs := #[.int .i64 a0_0, .slice A0_1 l0_1.length c0_1]) (t := 58) ?hr ?_; (case hd => rfl); (case hg => rfl); (case hr => first | (go_simp; done) | (go_simp; rfl)); intro gb101 hg w20 hbox hb; have n0_ := sQ hb; have n1_ := Aside0.mk (hbox); have n2_ := Aside0.mk ((by rw [hg]; exact (below_size (wB)) : w.heap.size ≤ gb101)); have n3_ := Aside0.mk ((by rw [hg]; exact (below_size (wB)) : w.heap.size ≤ gb101)); clear HB; have HB := n0_; have BK101 := n1_; have GW101 := n2_; have GE101 := n3_; clear n0_ n1_ n2_ n3_; clear hb hbox hg; obtain ⟨hcz21_0, hcz21_1, hfz21_0, hfz21_1⟩ := zZ BK101; have p102 : 0 ≤ (a1 : Int) := oD; have q102 : a1 < (l0_1.length : Int) := oD; obtain ⟨ad102, e102, hx102_0⟩ := Kd.at_bool HR0_1.out a1 p102 q102; (try rw [← Nbq5.out] at hx102_0); cases e102; replace hx102_0 := (HB.out.cell (World.block_lt_of_cell? w _ hx102_0)).trans hx102_0; replace p102 := eq_true p102; replace q102 := eq_true q102))
  repeat (go_quiet (first | ((with_reducible refine gate_dst (N := 2) rfl ?_); refine box_event ?hg (N := 2) ?hd (cs := #[.int .i64 a0_0, .slice A0_1 l0_1.length c0_1]) (t := 58) ?hr ?_; (case hd => rfl); (case hg => rfl); (case hr => first | (go_simp; done) | (go_simp; rfl)); intro gb101 hg w20 hbox hb; have n0_ := sQ hb; have n1_ := Aside0.mk (hbox); have n2_ := Aside0.mk ((by rw [hg]; exact (below_size (wB)) : w.heap.size ≤ gb101)); have n3_ := Aside0.mk ((by rw [hg]; exact (below_size (wB)) : w.heap.size ≤ gb101)); clear HB; have HB := n0_; have BK101 := n1_; have GW101 := n2_; have GE101 := n3_; clear n0_ n1_ n2_ n3_; clear hb hbox hg; obtain ⟨hcz21_0, hcz21_1, hfz21_0, hfz21_1⟩ := zZ BK101; have p102 : 0 ≤ (a1 : Int) := oD; have q102 : a1 < (l0_1.length : Int) := oD; obtain ⟨ad102, e102, hx102_0⟩ := Kd.at_bool HR0_1.out a1 p102 q102; (try rw [← Nbq5.out] at hx102_0); cases e102; replace hx102_0 := (HB.out.cell (World.block_lt_of_cell? w _ hx102_0)).trans hx102_0; replace p102 := eq_true p102; replace q102 := eq_true q102)); try go_wp2_with (first | ((with_reducible refine gate_dst (N := 2) rfl ?_); refine box_event ?hg (N := 2) ?hd (cs := #[.int .i64 a0_0, .slice A0_1 l0_1.length c0_1]) (t := 58) ?hr ?_; (case hd => rfl); (case hg => rfl); (case hr => first | (go_simp; done) | (go_simp; rfl)); intro gb101 hg w20 hbox hb; have n0_ := sQ hb; have n1_ := Aside0.mk (hbox); have n2_ := Aside0.mk ((by rw [hg]; exact (below_size (wB)) : w.heap.size ≤ gb101)); have n3_ := Aside0.mk ((by rw [hg]; exact (below_size (wB)) : w.heap.size ≤ gb101)); clear HB; have HB := n0_; have BK101 := n1_; have GW101 := n2_; have GE101 := n3_; clear n0_ n1_ n2_ n3_; clear hb hbox hg; obtain ⟨hcz21_0, hcz21_1, hfz21_0, hfz21_1⟩ := zZ BK101; have p102 : 0 ≤ (a1 : Int) := oD; have q102 : a1 < (l0_1.length : Int) := oD; obtain ⟨ad102, e102, hx102_0⟩ := Kd.at_bool HR0_1.out a1 p102 q102; (try rw [← Nbq5.out] at hx102_0); cases e102; replace hx102_0 := (HB.out.cell (World.block_lt_of_cell? w _ hx102_0)).trans hx102_0; replace p102 := eq_true p102; replace q102 := eq_true q102)))
  go_ret
  exact ⟨fR, wB⟩
 subst c6
 replace H := iT H
 have H' := Aside0.mk H
 clear H
 go_enter Tryz.func81, Tryz.ntmps81
 go_wp2_with (first | ((with_reducible refine gate_dst (N := 2) rfl ?_); refine box_event ?hg (N := 2) ?hd (cs := #[.int .i64 a0_0, .slice A0_1 l0_1.length c0_1]) (t := 58) ?hr ?_; (case hd => rfl); (case hg => rfl); (case hr => first | (go_simp; done) | (go_simp; rfl)); intro gb101 hg w7 hbox hb; have n0_ := sQ hb; have n1_ := Aside0.mk (hbox); have n2_ := Aside0.mk ((by rw [hg]; exact (below_size (wB)) : w.heap.size ≤ gb101)); have n3_ := Aside0.mk ((by rw [hg]; exact (below_size (wB)) : w.heap.size ≤ gb101)); clear HB; have HB := n0_; have BK101 := n1_; have GW101 := n2_; have GE101 := n3_; clear n0_ n1_ n2_ n3_; clear hb hbox hg; obtain ⟨hcz8_0, hcz8_1, hfz8_0, hfz8_1⟩ := zZ BK101; have p102 : 0 ≤ (a1 : Int) := oD; have q102 : a1 < (l0_1.length : Int) := oD; obtain ⟨ad102, e102, hx102_0⟩ := Kd.at_bool HR0_1.out a1 p102 q102; (try rw [← Nbq5.out] at hx102_0); cases e102; replace hx102_0 := (HB.out.cell (World.block_lt_of_cell? w _ hx102_0)).trans hx102_0; replace p102 := eq_true p102; replace q102 := eq_true q102))
 repeat (go_quiet (first | ((with_reducible refine gate_dst (N := 2) rfl ?_); refine box_event ?hg (N := 2) ?hd (cs := #[.int .i64 a0_0, .slice A0_1 l0_1.length c0_1]) (t := 58) ?hr ?_; (case hd => rfl); (case hg => rfl); (case hr => first | (go_simp; done) | (go_simp; rfl)); intro gb101 hg w7 hbox hb; have n0_ := sQ hb; have n1_ := Aside0.mk (hbox); have n2_ := Aside0.mk ((by rw [hg]; exact (below_size (wB)) : w.heap.size ≤ gb101)); have n3_ := Aside0.mk ((by rw [hg]; exact (below_size (wB)) : w.heap.size ≤ gb101)); clear HB; have HB := n0_; have BK101 := n1_; have GW101 := n2_; have GE101 := n3_; clear n0_ n1_ n2_ n3_; clear hb hbox hg; obtain ⟨hcz8_0, hcz8_1, hfz8_0, hfz8_1⟩ := zZ BK101; have p102 : 0 ≤ (a1 : Int) := oD; have q102 : a1 < (l0_1.length : Int) := oD; obtain ⟨ad102, e102, hx102_0⟩ := Kd.at_bool HR0_1.out a1 p102 q102; (try rw [← Nbq5.out] at hx102_0); cases e102; replace hx102_0 := (HB.out.cell (World.block_lt_of_cell? w _ hx102_0)).trans hx102_0; replace p102 := eq_true p102; replace q102 := eq_true q102)); try go_wp2_with (first | ((with_reducible refine gate_dst (N := 2) rfl ?_); refine box_event ?hg (N := 2) ?hd (cs := #[.int .i64 a0_0, .slice A0_1 l0_1.length c0_1]) (t := 58) ?hr ?_; (case hd => rfl); (case hg => rfl); (case hr => first | (go_simp; done) | (go_simp; rfl)); intro gb101 hg w7 hbox hb; have n0_ := sQ hb; have n1_ := Aside0.mk (hbox); have n2_ := Aside0.mk ((by rw [hg]; exact (below_size (wB)) : w.heap.size ≤ gb101)); have n3_ := Aside0.mk ((by rw [hg]; exact (below_size (wB)) : w.heap.size ≤ gb101)); clear HB; have HB := n0_; have BK101 := n1_; have GW101 := n2_; have GE101 := n3_; clear n0_ n1_ n2_ n3_; clear hb hbox hg; obtain ⟨hcz8_0, hcz8_1, hfz8_0, hfz8_1⟩ := zZ BK101; have p102 : 0 ≤ (a1 : Int) := oD; have q102 : a1 < (l0_1.length : Int) := oD; obtain ⟨ad102, e102, hx102_0⟩ := Kd.at_bool HR0_1.out a1 p102 q102; (try rw [← Nbq5.out] at hx102_0); cases e102; replace hx102_0 := (HB.out.cell (World.block_lt_of_cell? w _ hx102_0)).trans hx102_0; replace p102 := eq_true p102; replace q102 := eq_true q102)))
 go_loopg [14] k (fun kq v14 w' => ∃ (x14_1 : Int), v14 = .int .i64 x14_1 ∧ Aside0 (impl_votes_isLeast.l0 kq a1 a0_0 x14_1 a0_0 l0_1 = some r) ∧ Aside0 (kq ≤ k) ∧ Aside0 (w'.heap[gb101]? = some (.cells #[.int .i64 a0_0, (.slice (some ad102) l0_1.length c0_1)] 58 (0, 0))) ∧ Aside0 (Below w.heap.size w w'))
 case atStart => exact ⟨(0), gR, H', ⟨Nat.le_refl _⟩, ⟨bQ BK101⟩, ⟨wB⟩⟩
 case round =>
  clear H'
  try clear p1
  try clear q1
  try clear hx1
  try clear p2
  try clear c3
  try clear c3b0
  try clear c4
  try clear c4b0
  try clear q5
  try clear c6
  try clear c8
  try clear hcz8_0
  try clear hcz8_1
  try clear hfz8_0
  try clear hfz8_1
  try clear hx102_0
  try clear p102
  try clear q102
  obtain ⟨x14_1, rfl, HA, HK1, BK101, HB⟩ := hrel
  cases gk with
  | zero => exact absurd HA.out (by simp [impl_votes_isLeast.l0])
  | succ k1 =>
   have H := HA.out
   clear HA
   simp only [impl_votes_isLeast.l0] at H
   by_cases c9 : x14_1 < a0_0
   rotate_left
   ·rw [if_neg c9] at H
    have c9b0 : decide (x14_1 < a0_0) = false := decide_eq_false c9
    clear c9
    obtain rfl := Option.some.inj H
    go_wp2
    repeat (go_quiet (fail); try go_wp2)
    go_ret
    exact ⟨fR, wB⟩
   rw [if_pos c9] at H
   have c9b0 := decide_eq_true c9
   clear c9
   replace H := oB H
   obtain ⟨t103, A100, H⟩ := H
   replace H : (if t103 = true then (if 0 ≤ x14_1 then (if 0 ≤ (Go.bits .andNot .i64 a1 (shl .i64 1 x14_1)) then (if (Go.bits .andNot .i64 a1 (shl .i64 1 x14_1)) < (l0_1.length : Int) then (if rdOf false l0_1 (Go.bits .andNot .i64 a1 (shl .i64 1 x14_1)) = true then (some false) else (impl_votes_isLeast.l0 k1 a1 a0_0 (wrap64 (x14_1 + 1)) a0_0 l0_1)) else (none)) else (none)) else (none)) else (impl_votes_isLeast.l0 k1 a1 a0_0 (wrap64 (x14_1 + 1)) a0_0 l0_1)) = some r := H
   have A10 := Aside0.mk A100
   clear A100
   by_cases c11 : t103 = true
   rotate_left
   ·replace c11 := Bool.eq_false_iff.mpr c11
    subst c11
    replace H := iF H
    have H' := Aside0.mk H
    clear H
    go_wp2_with (first | (go_at_call 85; (with_reducible refine (impl_has.calls a1 x14_1 false _ A10.out).mono ?_); rintro e w' ⟨rfl, ⟨nd, rfl⟩⟩; (try exact dR)))
    repeat (go_quiet (first | (go_at_call 85; (with_reducible refine (impl_has.calls a1 x14_1 false _ A10.out).mono ?_); rintro e w' ⟨rfl, ⟨nd, rfl⟩⟩; (try exact dR))); try go_wp2_with (first | (go_at_call 85; (with_reducible refine (impl_has.calls a1 x14_1 false _ A10.out).mono ?_); rintro e w' ⟨rfl, ⟨nd, rfl⟩⟩; (try exact dR))))
    go_roundg k1
    case measure => have := HK1.out; omega
    case rel => exact ⟨(wrap64 (x14_1 + 1)), gR, H', ⟨by have := HK1.out; omega⟩, ⟨bQ BK101⟩, ⟨wB⟩⟩
   subst c11
   replace H := iT H
   by_cases c12 : 0 ≤ x14_1
   rotate_left
   ·rw [if_neg c12] at H
    exact absurd H (by simp)
   rw [if_pos c12] at H
   have c12b0 := eq_true c12
   have c12b1 := decide_eq_true c12
   clear c12
   obtain ⟨ji13, hji13⟩ : ∃ j_ : Int, (shl .i64 1 x14_1) = j_ := ⟨_, rfl⟩
   replace H : (if 0 ≤ (Go.bits .andNot .i64 a1 (ji13)) then (if (Go.bits .andNot .i64 a1 (ji13)) < (l0_1.length : Int) then (if rdOf false l0_1 (Go.bits .andNot .i64 a1 (ji13)) = true then (some false) else (impl_votes_isLeast.l0 k1 a1 a0_0 (wrap64 (x14_1 + 1)) a0_0 l0_1)) else (none)) else (none)) = some r := by first | (rw [hji13] at H; exact H) | (simp only [hji13] at H ⊢; exact H)
   (try rw [hji13] at A10)
   have hji13_ : (IntKind.i64.wrap (1 * 2 ^ min x14_1.toNat 64)) = ji13 := hji13
   have hji13z : x14_1 ≤ 64 → (IntKind.i64.wrap (1 * 2 ^ x14_1.toNat)) = ji13 := shl_small hji13
   have hji13u : (IntKind.i64.wrap (2 ^ min x14_1.toNat 64)) = ji13 := by have h_ := hji13_; rw [Int.one_mul] at h_; exact h_
   have hji13v : x14_1 ≤ 64 → (IntKind.i64.wrap (2 ^ x14_1.toNat)) = ji13 := fun hle_ => by have h_ := hji13z hle_; rw [Int.one_mul] at h_; exact h_
   have hji13y : (wrap64 (1 * 2 ^ min x14_1.toNat 64)) = ji13 := (i64_w _).symm.trans hji13_
   have hji13x : x14_1 ≤ 64 → (wrap64 (1 * 2 ^ x14_1.toNat)) = ji13 := fun h_ => (i64_w _).symm.trans (hji13z h_)
   by_cases c14 : 0 ≤ (Go.bits .andNot .i64 a1 (ji13))
   rotate_left
   ·rw [if_neg c14] at H
    exact absurd H (by simp)
   rw [if_pos c14] at H
   have c14b0 := decide_eq_true c14
   clear c14
   by_cases c15 : (Go.bits .andNot .i64 a1 (ji13)) < (l0_1.length : Int)
   rotate_left
   ·rw [if_neg c15] at H
    exact absurd H (by simp)
   rw [if_pos c15] at H
   have c15b0 := decide_eq_true c15
   clear c15
   obtain ⟨bq16, hbq16⟩ : ∃ b_ : Bool, b_ = (rdOf false l0_1 (Go.bits .andNot .i64 a1 (ji13))) := ⟨_, rfl⟩
   replace H : (if bq16 = true then (some false) else (impl_votes_isLeast.l0 k1 a1 a0_0 (wrap64 (x14_1 + 1)) a0_0 l0_1)) = some r := by rw [← hbq16] at H; exact H
   have Nbq16 := Aside0.mk hbq16
   clear hbq16
   by_cases c17 : bq16 = true
   ·subst c17
    replace H := iT H
    obtain rfl := Option.some.inj H
    go_wp2_with (first | (go_at_call 85; (with_reducible refine (impl_has.calls a1 x14_1 true _ A10.out).mono ?_); rintro e w' ⟨rfl, ⟨nd, rfl⟩⟩; (try exact dR); obtain ⟨hcz18_0, hcz18_1, hfz18_0, hfz18_1⟩ := zZ BK101; have p104 : 0 ≤ ((Go.bits .andNot .i64 a1 (ji13)) : Int) := oD; have q104 : (Go.bits .andNot .i64 a1 (ji13)) < (l0_1.length : Int) := oD; obtain ⟨ad104, e104, hx104_0⟩ := Kd.at_bool HR0_1.out (Go.bits .andNot .i64 a1 (ji13)) p104 q104; (try rw [← Nbq5.out] at hx104_0); (try rw [← Nbq16.out] at hx104_0); obtain rfl : ad102 = ad104 := (by injection e104); replace hx104_0 := (HB.out.cell (World.block_lt_of_cell? w _ hx104_0)).trans hx104_0; replace p104 := eq_true p104; replace q104 := eq_true q104))
    repeat (go_quiet (first | (go_at_call 85; (with_reducible refine (impl_has.calls a1 x14_1 true _ A10.out).mono ?_); rintro e w' ⟨rfl, ⟨nd, rfl⟩⟩; (try exact dR); obtain ⟨hcz18_0, hcz18_1, hfz18_0, hfz18_1⟩ := zZ BK101; have p104 : 0 ≤ ((Go.bits .andNot .i64 a1 (ji13)) : Int) := oD; have q104 : (Go.bits .andNot .i64 a1 (ji13)) < (l0_1.length : Int) := oD; obtain ⟨ad104, e104, hx104_0⟩ := Kd.at_bool HR0_1.out (Go.bits .andNot .i64 a1 (ji13)) p104 q104; (try rw [← Nbq5.out] at hx104_0); (try rw [← Nbq16.out] at hx104_0); obtain rfl : ad102 = ad104 := (by injection e104); replace hx104_0 := (HB.out.cell (World.block_lt_of_cell? w _ hx104_0)).trans hx104_0; replace p104 := eq_true p104; replace q104 := eq_true q104)); try go_wp2_with (first | (go_at_call 85; (with_reducible refine (impl_has.calls a1 x14_1 true _ A10.out).mono ?_); rintro e w' ⟨rfl, ⟨nd, rfl⟩⟩; (try exact dR); obtain ⟨hcz18_0, hcz18_1, hfz18_0, hfz18_1⟩ := zZ BK101; have p104 : 0 ≤ ((Go.bits .andNot .i64 a1 (ji13)) : Int) := oD; have q104 : (Go.bits .andNot .i64 a1 (ji13)) < (l0_1.length : Int) := oD; obtain ⟨ad104, e104, hx104_0⟩ := Kd.at_bool HR0_1.out (Go.bits .andNot .i64 a1 (ji13)) p104 q104; (try rw [← Nbq5.out] at hx104_0); (try rw [← Nbq16.out] at hx104_0); obtain rfl : ad102 = ad104 := (by injection e104); replace hx104_0 := (HB.out.cell (World.block_lt_of_cell? w _ hx104_0)).trans hx104_0; replace p104 := eq_true p104; replace q104 := eq_true q104)))
    go_ret
    exact ⟨by first | rfl | (simp <;> rfl) | (simp only [← hji13]; first | rfl | (simp <;> rfl)) | (simp [*] <;> rfl), wB⟩
   replace c17 := Bool.eq_false_iff.mpr c17
   subst c17
   replace H := iF H
   have H' := Aside0.mk H
   clear H
   go_wp2_with (first | (go_at_call 85; (with_reducible refine (impl_has.calls a1 x14_1 true _ A10.out).mono ?_); rintro e w' ⟨rfl, ⟨nd, rfl⟩⟩; (try exact dR); obtain ⟨hcz19_0, hcz19_1, hfz19_0, hfz19_1⟩ := zZ BK101; have p104 : 0 ≤ ((Go.bits .andNot .i64 a1 (ji13)) : Int) := oD; have q104 : (Go.bits .andNot .i64 a1 (ji13)) < (l0_1.length : Int) := oD; obtain ⟨ad104, e104, hx104_0⟩ := Kd.at_bool HR0_1.out (Go.bits .andNot .i64 a1 (ji13)) p104 q104; (try rw [← Nbq5.out] at hx104_0); (try rw [← Nbq16.out] at hx104_0); obtain rfl : ad102 = ad104 := (by injection e104); replace hx104_0 := (HB.out.cell (World.block_lt_of_cell? w _ hx104_0)).trans hx104_0; replace p104 := eq_true p104; replace q104 := eq_true q104))
   repeat (go_quiet (first | (go_at_call 85; (with_reducible refine (impl_has.calls a1 x14_1 true _ A10.out).mono ?_); rintro e w' ⟨rfl, ⟨nd, rfl⟩⟩; (try exact dR); obtain ⟨hcz19_0, hcz19_1, hfz19_0, hfz19_1⟩ := zZ BK101; have p104 : 0 ≤ ((Go.bits .andNot .i64 a1 (ji13)) : Int) := oD; have q104 : (Go.bits .andNot .i64 a1 (ji13)) < (l0_1.length : Int) := oD; obtain ⟨ad104, e104, hx104_0⟩ := Kd.at_bool HR0_1.out (Go.bits .andNot .i64 a1 (ji13)) p104 q104; (try rw [← Nbq5.out] at hx104_0); (try rw [← Nbq16.out] at hx104_0); obtain rfl : ad102 = ad104 := (by injection e104); replace hx104_0 := (HB.out.cell (World.block_lt_of_cell? w _ hx104_0)).trans hx104_0; replace p104 := eq_true p104; replace q104 := eq_true q104)); try go_wp2_with (first | (go_at_call 85; (with_reducible refine (impl_has.calls a1 x14_1 true _ A10.out).mono ?_); rintro e w' ⟨rfl, ⟨nd, rfl⟩⟩; (try exact dR); obtain ⟨hcz19_0, hcz19_1, hfz19_0, hfz19_1⟩ := zZ BK101; have p104 : 0 ≤ ((Go.bits .andNot .i64 a1 (ji13)) : Int) := oD; have q104 : (Go.bits .andNot .i64 a1 (ji13)) < (l0_1.length : Int) := oD; obtain ⟨ad104, e104, hx104_0⟩ := Kd.at_bool HR0_1.out (Go.bits .andNot .i64 a1 (ji13)) p104 q104; (try rw [← Nbq5.out] at hx104_0); (try rw [← Nbq16.out] at hx104_0); obtain rfl : ad102 = ad104 := (by injection e104); replace hx104_0 := (HB.out.cell (World.block_lt_of_cell? w _ hx104_0)).trans hx104_0; replace p104 := eq_true p104; replace q104 := eq_true q104)))
   go_roundg k1
   case measure => have := HK1.out; omega
   case rel => exact ⟨(wrap64 (x14_1 + 1)), gR, H', ⟨by have := HK1.out; omega⟩, ⟨bQ BK101⟩, ⟨wB⟩⟩
def cmp_isNaN_int.f (a0 : Int) : Option (Bool) := some (a0 != a0)
theorem cmp_isNaN_int.calls (a0 : Int) (r : Bool) (w : World) (h : cmp_isNaN_int.f a0 = some r) :
  Calls Tryz.prog 145 #[.int .i64 a0] w fun e w' => e = .returned (.bool r) ∧ Drawn0 w w' := by
 have H : (some (a0 != a0)) = some r := h
 clear h
 obtain rfl := Option.some.inj H
 go_enter Tryz.func145, Tryz.ntmps145
 go_wp2
 go_ret
 exact ⟨by first | rfl | (simp; done) | (simp [*]; done), dS⟩
def cmp_Compare_int.f (a0 : Int) (a1 : Int) : Option (Int) := (cmp_isNaN_int.f a0).bind fun t101 => ((cmp_isNaN_int.f a1).bind fun t102 => (if t101 = true then (if t102 = true then (some 0) else (some (-1))) else (if t102 = true then (some 1) else (if a0 < a1 then (some (-1)) else (if a0 > a1 then (some 1) else (some 0))))))
theorem cmp_Compare_int.calls (a0 : Int) (a1 : Int) (r : Int) (w : World) (h : cmp_Compare_int.f a0 a1 = some r) :
  Calls Tryz.prog 120 #[.int .i64 a0, .int .i64 a1] w fun e w' => e = .returned (.int .i64 r) ∧ Drawn0 w w' := by
 have H := h
 unfold cmp_Compare_int.f at H
 clear h
 replace H := oB H
 obtain ⟨t101, A30, H⟩ := H
 replace H : ((cmp_isNaN_int.f a1).bind fun t102 => (if t101 = true then (if t102 = true then (some 0) else (some (-1))) else (if t102 = true then (some 1) else (if a0 < a1 then (some (-1)) else (if a0 > a1 then (some 1) else (some 0)))))) = some r := H
 have A3 := Aside0.mk A30
 clear A30
 replace H := oB H
 obtain ⟨t102, A40, H⟩ := H
 replace H : (if t101 = true then (if t102 = true then (some 0) else (some (-1))) else (if t102 = true then (some 1) else (if a0 < a1 then (some (-1)) else (if a0 > a1 then (some 1) else (some 0))))) = some r := H
 have A4 := Aside0.mk A40
 clear A40
 by_cases c5 : t101 = true
 ·subst c5
  replace H := iT H
  by_cases c6 : t102 = true
  ·subst c6
   replace H := iT H
   obtain rfl := Option.some.inj H
   go_enter Tryz.func120, Tryz.ntmps120
   go_wp2_with (first | ((with_reducible refine gate_callee (f := 145) rfl ?_); refine gL 8 Tryz.func145 #[.int .i64 a0] ?_; (with_reducible refine (cmp_isNaN_int.calls a0 true _ A3.out).mono ?_); rintro e w' ⟨rfl, ⟨nd, rfl⟩⟩; refine ⟨_, rfl, ?_⟩) | ((with_reducible refine gate_callee (f := 145) rfl ?_); refine gL 10 Tryz.func145 #[.int .i64 a1] ?_; (with_reducible refine (cmp_isNaN_int.calls a1 true _ A4.out).mono ?_); rintro e w' ⟨rfl, ⟨nd, rfl⟩⟩; refine ⟨_, rfl, ?_⟩))
   go_ret
   exact ⟨by first | rfl | (simp; done) | (simp [*]; done), dS⟩
  replace c6 := Bool.eq_false_iff.mpr c6
  subst c6
  replace H := iF H
  obtain rfl := Option.some.inj H
  go_enter Tryz.func120, Tryz.ntmps120
  go_wp2_with (first | ((with_reducible refine gate_callee (f := 145) rfl ?_); refine gL 8 Tryz.func145 #[.int .i64 a0] ?_; (with_reducible refine (cmp_isNaN_int.calls a0 true _ A3.out).mono ?_); rintro e w' ⟨rfl, ⟨nd, rfl⟩⟩; refine ⟨_, rfl, ?_⟩) | ((with_reducible refine gate_callee (f := 145) rfl ?_); refine gL 10 Tryz.func145 #[.int .i64 a1] ?_; (with_reducible refine (cmp_isNaN_int.calls a1 false _ A4.out).mono ?_); rintro e w' ⟨rfl, ⟨nd, rfl⟩⟩; refine ⟨_, rfl, ?_⟩))
  go_ret
  exact ⟨by first | rfl | (simp; done) | (simp [*]; done), dS⟩
 replace c5 := Bool.eq_false_iff.mpr c5
 subst c5
 replace H := iF H
 by_cases c7 : t102 = true
 ·subst c7
  replace H := iT H
  obtain rfl := Option.some.inj H
  go_enter Tryz.func120, Tryz.ntmps120
  go_wp2_with (first | ((with_reducible refine gate_callee (f := 145) rfl ?_); refine gL 8 Tryz.func145 #[.int .i64 a0] ?_; (with_reducible refine (cmp_isNaN_int.calls a0 false _ A3.out).mono ?_); rintro e w' ⟨rfl, ⟨nd, rfl⟩⟩; refine ⟨_, rfl, ?_⟩) | ((with_reducible refine gate_callee (f := 145) rfl ?_); refine gL 10 Tryz.func145 #[.int .i64 a1] ?_; (with_reducible refine (cmp_isNaN_int.calls a1 true _ A4.out).mono ?_); rintro e w' ⟨rfl, ⟨nd, rfl⟩⟩; refine ⟨_, rfl, ?_⟩))
  go_ret
  exact ⟨by first | rfl | (simp; done) | (simp [*]; done), dS⟩
 replace c7 := Bool.eq_false_iff.mpr c7
 subst c7
 replace H := iF H
 by_cases c8 : a0 < a1
 ·rw [if_pos c8] at H
  have c8b0 := decide_eq_true c8
  clear c8
  obtain rfl := Option.some.inj H
  go_enter Tryz.func120, Tryz.ntmps120
  go_wp2_with (first | ((with_reducible refine gate_callee (f := 145) rfl ?_); refine gL 8 Tryz.func145 #[.int .i64 a0] ?_; (with_reducible refine (cmp_isNaN_int.calls a0 false _ A3.out).mono ?_); rintro e w' ⟨rfl, ⟨nd, rfl⟩⟩; refine ⟨_, rfl, ?_⟩) | ((with_reducible refine gate_callee (f := 145) rfl ?_); refine gL 10 Tryz.func145 #[.int .i64 a1] ?_; (with_reducible refine (cmp_isNaN_int.calls a1 false _ A4.out).mono ?_); rintro e w' ⟨rfl, ⟨nd, rfl⟩⟩; refine ⟨_, rfl, ?_⟩))
  go_ret
  exact ⟨by first | rfl | (simp; done) | (simp [*]; done), dS⟩
 rw [if_neg c8] at H
 have c8b0 : decide (a0 < a1) = false := decide_eq_false c8
 clear c8
 by_cases c9 : a0 > a1
 ·rw [if_pos c9] at H
  have c9b0 : decide (a1 < a0) = true := decide_eq_true c9
  clear c9
  obtain rfl := Option.some.inj H
  go_enter Tryz.func120, Tryz.ntmps120
  go_wp2_with (first | ((with_reducible refine gate_callee (f := 145) rfl ?_); refine gL 8 Tryz.func145 #[.int .i64 a0] ?_; (with_reducible refine (cmp_isNaN_int.calls a0 false _ A3.out).mono ?_); rintro e w' ⟨rfl, ⟨nd, rfl⟩⟩; refine ⟨_, rfl, ?_⟩) | ((with_reducible refine gate_callee (f := 145) rfl ?_); refine gL 10 Tryz.func145 #[.int .i64 a1] ?_; (with_reducible refine (cmp_isNaN_int.calls a1 false _ A4.out).mono ?_); rintro e w' ⟨rfl, ⟨nd, rfl⟩⟩; refine ⟨_, rfl, ?_⟩))
  go_ret
  exact ⟨by first | rfl | (simp; done) | (simp [*]; done), dS⟩
 rw [if_neg c9] at H
 have c9b0 : decide (a1 < a0) = false := decide_eq_false c9
 clear c9
 obtain rfl := Option.some.inj H
 go_enter Tryz.func120, Tryz.ntmps120
 go_wp2_with (first | ((with_reducible refine gate_callee (f := 145) rfl ?_); refine gL 8 Tryz.func145 #[.int .i64 a0] ?_; (with_reducible refine (cmp_isNaN_int.calls a0 false _ A3.out).mono ?_); rintro e w' ⟨rfl, ⟨nd, rfl⟩⟩; refine ⟨_, rfl, ?_⟩) | ((with_reducible refine gate_callee (f := 145) rfl ?_); refine gL 10 Tryz.func145 #[.int .i64 a1] ?_; (with_reducible refine (cmp_isNaN_int.calls a1 false _ A4.out).mono ?_); rintro e w' ⟨rfl, ⟨nd, rfl⟩⟩; refine ⟨_, rfl, ?_⟩))
 go_ret
 exact ⟨by first | rfl | (simp; done) | (simp [*]; done), dS⟩
def slices_Compare_int_int.l0 : Nat → List Int → List Int → List Int → Int → Int → Option (Int)
 | 0, _, _, _, _, _ => none
 | k + 1, x0, x1, x9, x10, x11 => if x11 < x10 then (if 0 ≤ x11 then (if x11 < (x9.length : Int) then (if x11 ≥ (x1.length : Int) then (some 1) else (if x11 < (x1.length : Int) then ((cmp_Compare_int.f (rd x9 x11) (rd x1 x11)).bind fun t103 => (if t103 = 0 then (slices_Compare_int_int.l0 k x0 x1 x9 x10 (wrap64 (x11 + 1))) else (some t103))) else (none))) else (none)) else (none)) else (if (x0.length : Int) < (x1.length : Int) then (some (-1)) else (some 0))
def slices_Compare_int_int.f (k : Nat) (l0 : List Int) (l1 : List Int) : Option (Int) := slices_Compare_int_int.l0 k l0 l1 l0 (l0.length : Int) 0
theorem slices_Compare_int_int.calls (k : Nat) (A0 : Option Addr) (c0 : Nat) (l0 : List Int) (A1 : Option Addr) (c1 : Nat) (l1 : List Int) (r : Int) (w : World) (hr0 : Kd.C (Kd.int .i64) w A0 l0.length l0) (hc0 : l0.length ≤ c0) (hr1 : Kd.C (Kd.int .i64) w A1 l1.length l1) (hc1 : l1.length ≤ c1) (h : slices_Compare_int_int.f k l0 l1 = some r) :
  Calls Tryz.prog 97 #[.slice A0 l0.length c0, .slice A1 l1.length c1] w fun e w' => e = .returned (.int .i64 r) ∧ Drawn0 w w' := by
 have HR0 := Aside0.mk hr0
 have HC0 := Aside0.mk hc0
 clear hr0 hc0
 have HR1 := Aside0.mk hr1
 have HC1 := Aside0.mk hc1
 clear hr1 hc1
 have H := h
 unfold slices_Compare_int_int.f at H
 clear h
 have H' := Aside0.mk H
 clear H
 go_enter Tryz.func97, Tryz.ntmps97
 go_wp2
 go_loopg [11] k (fun kq v11 w' => ∃ (x11_1 : Int), v11 = .int .i64 x11_1 ∧ Aside0 (slices_Compare_int_int.l0 kq l0 l1 l0 (l0.length : Int) x11_1 = some r) ∧ Aside0 (kq ≤ k) ∧ Drawn0 w w')
 case atStart => exact ⟨(0), gR, H', ⟨Nat.le_refl _⟩, dS⟩
 case round =>
  clear H'
  try clear c1
  try clear p2
  obtain ⟨x11_1, rfl, HA, HK1, ⟨m1, rfl⟩⟩ := hrel
  cases gk with
  | zero => exact absurd HA.out (by simp [slices_Compare_int_int.l0])
  | succ k1 =>
   have H := HA.out
   clear HA
   simp only [slices_Compare_int_int.l0] at H
   by_cases c3 : x11_1 < (l0.length : Int)
   rotate_left
   ·rw [if_neg c3] at H
    have c3b0 : decide (x11_1 < (l0.length : Int)) = false := decide_eq_false c3
    clear c3
    by_cases c10 : (l0.length : Int) < (l1.length : Int)
    ·rw [if_pos c10] at H
     have c10b0 := decide_eq_true c10
     have c10b1 : decide (l0.length < l1.length) = true := decide_eq_true (Int.ofNat_lt.mp c10)
     clear c10
     obtain rfl := Option.some.inj H
     go_wp2
     go_ret
     exact ⟨by first | rfl | (simp; done) | (simp [*]; done), dS⟩
    rw [if_neg c10] at H
    have c10b0 : decide ((l0.length : Int) < (l1.length : Int)) = false := decide_eq_false c10
    have c10b1 : decide (l0.length < l1.length) = false := decide_eq_false (fun h => c10 (Int.ofNat_lt.mpr h))
    clear c10
    obtain rfl := Option.some.inj H
    go_wp2
    go_ret
    exact ⟨by first | rfl | (simp; done) | (simp [*]; done), dS⟩
   rw [if_pos c3] at H
   have c3b0 := decide_eq_true c3
   clear c3
   by_cases c4 : 0 ≤ x11_1
   rotate_left
   ·rw [if_neg c4] at H
    exact absurd H (by simp)
   rw [if_pos c4] at H
   have c4b0 := decide_eq_true c4
   clear c4
   by_cases c5 : x11_1 < (l0.length : Int)
   rotate_left
   ·rw [if_neg c5] at H
    exact absurd H (by simp)
   rw [if_pos c5] at H
   have c5b0 := decide_eq_true c5
   clear c5
   by_cases c6 : x11_1 ≥ (l1.length : Int)
   ·rw [if_pos c6] at H
    have c6b0 : decide ((l1.length : Int) ≤ x11_1) = true := decide_eq_true c6
    clear c6
    obtain rfl := Option.some.inj H
    have p101 : 0 ≤ (x11_1 : Int) := oD
    have q101 : x11_1 < (l0.length : Int) := oD
    obtain ⟨ad101, e101, hx101_0⟩ := Kd.at_int HR0.out x11_1 p101 q101
    cases e101
    replace p101 := eq_true p101
    replace q101 := eq_true q101
    go_wp2
    go_ret
    exact ⟨by first | rfl | (simp; done) | (simp [*]; done), dS⟩
   rw [if_neg c6] at H
   have c6b0 : decide ((l1.length : Int) ≤ x11_1) = false := decide_eq_false c6
   clear c6
   by_cases c7 : x11_1 < (l1.length : Int)
   rotate_left
   ·rw [if_neg c7] at H
    exact absurd H (by simp)
   rw [if_pos c7] at H
   have c7b0 := decide_eq_true c7
   clear c7
   replace H := oB H
   obtain ⟨t103, A80, H⟩ := H
   replace H : (if t103 = 0 then (slices_Compare_int_int.l0 k1 l0 l1 l0 (l0.length : Int) (wrap64 (x11_1 + 1))) else (some t103)) = some r := H
   have A8 := Aside0.mk A80
   clear A80
   by_cases c9 : t103 = 0
   rotate_left
   ·rw [if_neg c9] at H
    have c9b0 : (t103 == 0) = false := beq_eq_false_iff_ne.mpr c9
    have c9b1 : (t103 != 0) = true := bne_iff_ne.mpr c9
    obtain rfl := Option.some.inj H
    have p101 : 0 ≤ (x11_1 : Int) := oD
    have q101 : x11_1 < (l0.length : Int) := oD
    obtain ⟨ad101, e101, hx101_0⟩ := Kd.at_int HR0.out x11_1 p101 q101
    cases e101
    replace p101 := eq_true p101
    replace q101 := eq_true q101
    have p102 : 0 ≤ (x11_1 : Int) := oD
    have q102 : x11_1 < (l1.length : Int) := oD
    obtain ⟨ad102, e102, hx102_0⟩ := Kd.at_int HR1.out x11_1 p102 q102
    cases e102
    replace p102 := eq_true p102
    replace q102 := eq_true q102
    go_wp2_with (first | ((with_reducible refine gate_callee (f := 120) rfl ?_); refine gL 26 Tryz.func120 #[.int .i64 (rd l0 x11_1), .int .i64 (rd l1 x11_1)] ?_; (with_reducible refine (cmp_Compare_int.calls (rd l0 x11_1) (rd l1 x11_1) t103 _ A8.out).mono ?_); rintro e w' ⟨rfl, ⟨nd, rfl⟩⟩; refine ⟨_, rfl, ?_⟩))
    go_ret
    exact ⟨by first | rfl | (simp; done) | (simp [*]; done), dS⟩
   rw [if_pos c9] at H
   have c9b0 : (t103 == 0) = true := beq_iff_eq.mpr c9
   have c9b1 : (t103 != 0) = false := bne_eq_false_iff_eq.mpr c9
   clear c9
   have H' := Aside0.mk H
   clear H
   have p101 : 0 ≤ (x11_1 : Int) := oD
   have q101 : x11_1 < (l0.length : Int) := oD
   obtain ⟨ad101, e101, hx101_0⟩ := Kd.at_int HR0.out x11_1 p101 q101
   cases e101
   replace p101 := eq_true p101
   replace q101 := eq_true q101
   have p102 : 0 ≤ (x11_1 : Int) := oD
   have q102 : x11_1 < (l1.length : Int) := oD
   obtain ⟨ad102, e102, hx102_0⟩ := Kd.at_int HR1.out x11_1 p102 q102
   cases e102
   replace p102 := eq_true p102
   replace q102 := eq_true q102
   go_wp2_with (first | ((with_reducible refine gate_callee (f := 120) rfl ?_); refine gL 26 Tryz.func120 #[.int .i64 (rd l0 x11_1), .int .i64 (rd l1 x11_1)] ?_; (with_reducible refine (cmp_Compare_int.calls (rd l0 x11_1) (rd l1 x11_1) t103 _ A8.out).mono ?_); rintro e w' ⟨rfl, ⟨nd, rfl⟩⟩; refine ⟨_, rfl, ?_⟩))
   go_roundg k1
   case measure => have := HK1.out; omega
   case rel => exact ⟨(wrap64 (x11_1 + 1)), gR, H', ⟨by have := HK1.out; omega⟩, dS⟩
def impl_setOf.l0 : Nat → Int → List Int → Int → Option (List Int)
 | 0, _, _, _ => none
 | k + 1, x0, x3, x4 => if 0 ≤ x4 then (if (shr .i64 x0 x4) > 0 then (if (Go.bits .and .i64 (shr .i64 x0 x4) 1) = 1 then (if x3.length < 17592186044416 then (impl_setOf.l0 k x0 (x3 ++ [x4]) (wrap64 (x4 + 1))) else (none)) else (impl_setOf.l0 k x0 x3 (wrap64 (x4 + 1)))) else (some x3)) else (none)
def impl_setOf.f (k : Nat) (a0 : Int) : Option (List Int) := impl_setOf.l0 k a0 (([] : List Int)) 0
theorem impl_setOf.calls (k : Nat) (a0 : Int) (r : List Int) (w : World) (h : impl_setOf.f k a0 = some r) :
  Calls Tryz.prog 95 #[.int .i64 a0] w fun e w' => ∃ v0_ : Value, e = .returned (v0_) ∧ Kd.R (Kd.int .i64) 3 w' w.heap.size (fun _ => True) v0_ r ∧ Below w.heap.size w w' := by
 have HB := Aside0.mk (Below.refl w.heap.size w)
 have H := h
 unfold impl_setOf.f at H
 clear h
 obtain ⟨y101, hy101⟩ : ∃ y_ : List Int, y_ = (([] : List Int)) := ⟨_, rfl⟩
 replace H : (impl_setOf.l0 k a0 y101 0) = some r := by first | (rw [hy101]; with_reducible exact H) | (have H2_ := (Option.bind_some _ _).symm.trans H; rw [hy101]; with_reducible exact H2_) | (have H2_ := (Option.bind_some _ _).symm.trans H; with_reducible exact H2_) | with_reducible exact H | (rw [hy101]; exact H) | exact H
 have Ny101 := Aside0.mk hy101
 clear hy101
 have H' := Aside0.mk H
 clear H
 go_enter Tryz.func95, Tryz.ntmps95
 go_wp2_with (first | ((with_reducible refine gate_dst (N := 5) rfl ?_); refine Kd.R_lit (Kd.int .i64) _ 3 ?hg (N := 5) ?hd (xs := ([] : List Int)) (inner := []) (ok := fun _ => True) (okp := fun _ => True) ?hr ?hp (fun _ hk => hk) trivial (Below.refl _ _) (Nat.le_refl _) (by simp) ?_; (case hd => rfl); (case hg => rfl); (case hr => first | (go_simp; done) | (go_simp; rfl)); (case hp => exact (Reps.none _ _)); intro v102 w2 ho3 hb hg_ hnew_; clear hg_ hnew_; (first | rw [← Ny101.out] at ho3 | (simp only [Int.reduceToNat] at ho3; rw [← Ny101.out] at ho3)); have n0_ := Aside0.mk (Kd.R_lower ho3 (below_size (wB))); have n1_ := sQ hb; clear HB; have HO103 := n0_; have HB := n1_; clear n0_ n1_; clear hb ho3))
 go_loopg [3, 4] k (fun kq v3 v4 w' => ∃ (x3_1 : List Int) (x4_1 : Int), v4 = .int .i64 x4_1 ∧ Aside0 (impl_setOf.l0 kq a0 x3_1 x4_1 = some r) ∧ Aside0 (kq ≤ k) ∧ Aside0 (Kd.R (Kd.int .i64) 3 w' w.heap.size (fun _ => True) v3 x3_1) ∧ Aside0 (Below w.heap.size w w'))
 case atStart => exact ⟨(y101), (0), gR, H', ⟨Nat.le_refl _⟩, ⟨rQ HO103⟩, ⟨wB⟩⟩
 case round =>
  clear H'
  try clear p2
  obtain ⟨x3_1, x4_1, rfl, HA, HK1, HO_3, HB⟩ := hrel
  cases gk with
  | zero => exact absurd HA.out (by simp [impl_setOf.l0])
  | succ k1 =>
   have H := HA.out
   clear HA
   simp only [impl_setOf.l0] at H
   by_cases c4 : 0 ≤ x4_1
   rotate_left
   ·rw [if_neg c4] at H
    exact absurd H (by simp)
   rw [if_pos c4] at H
   have c4b0 := eq_true c4
   have c4b1 := decide_eq_true c4
   clear c4
   obtain ⟨ji5, hji5⟩ : ∃ j_ : Int, (shr .i64 a0 x4_1) = j_ := ⟨_, rfl⟩
   replace H : (if (ji5) > 0 then (if (Go.bits .and .i64 (ji5) 1) = 1 then (if x3_1.length < 17592186044416 then (impl_setOf.l0 k1 a0 (x3_1 ++ [x4_1]) (wrap64 (x4_1 + 1))) else (none)) else (impl_setOf.l0 k1 a0 x3_1 (wrap64 (x4_1 + 1)))) else (some x3_1)) = some r := by first | (rw [hji5] at H; exact H) | (simp only [hji5] at H ⊢; exact H)
   have hji5_ : (a0 / 2 ^ min x4_1.toNat 64) = ji5 := hji5
   have hji5z : x4_1 ≤ 64 → (a0 / 2 ^ x4_1.toNat) = ji5 := shr_small hji5
   by_cases c6 : (ji5) > 0
   rotate_left
   ·rw [if_neg c6] at H
    have c6b0 : decide (0 < (ji5)) = false := decide_eq_false c6
    clear c6
    obtain rfl := Option.some.inj H
    go_wp2
    go_ret
    exact ⟨_, by first | rfl | (simp <;> rfl) | (simp only [← hji5]; first | rfl | (simp <;> rfl)) | (simp [*] <;> rfl), by (first | exact rp HO_3.out | exact HO_3.out), wB⟩
   rw [if_pos c6] at H
   have c6b0 : decide (0 < (ji5)) = true := decide_eq_true c6
   clear c6
   have c7b0 := eq_true (oD : 0 ≤ x4_1)
   by_cases c9 : (Go.bits .and .i64 (ji5) 1) = 1
   rotate_left
   ·rw [if_neg c9] at H
    have c9b0 : ((Go.bits .and .i64 (ji5) 1) == 1) = false := beq_eq_false_iff_ne.mpr c9
    have c9b1 : ((Go.bits .and .i64 (ji5) 1) != 1) = true := bne_iff_ne.mpr c9
    have H' := Aside0.mk H
    clear H
    go_wp2
    go_roundg k1
    case measure => have := HK1.out; omega
    case rel => exact ⟨(x3_1), (wrap64 (x4_1 + 1)), gR, H', ⟨by have := HK1.out; omega⟩, ⟨rQ HO_3⟩, ⟨wB⟩⟩
   rw [if_pos c9] at H
   have c9b0 : ((Go.bits .and .i64 (ji5) 1) == 1) = true := beq_iff_eq.mpr c9
   have c9b1 : ((Go.bits .and .i64 (ji5) 1) != 1) = false := bne_eq_false_iff_eq.mpr c9
   clear c9
   by_cases c10 : x3_1.length < 17592186044416
   rotate_left
   ·rw [if_neg c10] at H
    exact absurd H (by simp)
   rw [if_pos c10] at H
   have LMc10 := Aside0.mk c10
   clear c10
   obtain ⟨y104, hy104⟩ : ∃ y_ : List Int, y_ = (x3_1 ++ [x4_1]) := ⟨_, rfl⟩
   replace H : (impl_setOf.l0 k1 a0 y104 (wrap64 (x4_1 + 1))) = some r := by first | (rw [hy104]; with_reducible exact H) | (have H2_ := (Option.bind_some _ _).symm.trans H; rw [hy104]; with_reducible exact H2_) | (have H2_ := (Option.bind_some _ _).symm.trans H; with_reducible exact H2_) | with_reducible exact H | (rw [hy104]; exact H) | exact H
   have Ny104 := Aside0.mk hy104
   clear hy104
   have H' := Aside0.mk H
   clear H
   go_wp2_with (first | ((with_reducible refine gate_builtin (b := .append) (xs := #[.tmp 17, .tmp 19]) rfl ?_); at_builtin; refine Kd.R_append (Kd.int .i64) (w0 := w) w.heap.size rfl (.tmp 17) (.tmp 19) 22 3 (.int .i64 0) 8 rfl Tryz.underlying22 info3 rfl (by decide) (by omega) u3 x3_1 x4_1 [.int .i64 x4_1] (fun _ => True) (fun _ => False) rfl rfl ?aP (fun _ hk => hk.elim) ?aF ?aO ?aB ?aS ?aL ?_; (case aP => exact rfl); (case aB => exact (wB)); (case aF => exact (fun _ _ => trivial)); (case aO => exact (rQ HO_3)); (case aS => exact (below_size (wB))); (case aL => have := LMc10.out; omega); intro v105 w11 ho hb hg hat; rw [← Ny104.out] at ho; have n0_ := Aside0.mk (hb); have n1_ := Aside0.mk (ho); clear HB; clear HO_3; have HB := n0_; have HO106 := n1_; clear n0_ n1_; clear ho hb hg hat))
   go_roundg k1
   case measure => have := HK1.out; omega
   case rel => exact ⟨(y104), (wrap64 (x4_1 + 1)), gR, H', ⟨by have := HK1.out; omega⟩, ⟨rQ HO106⟩, ⟨wB⟩⟩
open Go.Proofs.YtaambkdiokbdgacGreatDoorM in
theorem impl_votes_sets.cmp_v (a b : Int) : cmp_Compare_int.f a b = some (if a < b then -1 else if b < a then 1 else 0) := by
 have h : ∀ x : Int, cmp_isNaN_int.f x = some false := fun x => by simp [cmp_isNaN_int.f]
 simp only [cmp_Compare_int.f, h, Option.bind_some, Bool.false_eq_true, if_false]
 by_cases h1 : a < b
 ·rw [if_pos h1, if_pos h1]
 by_cases h2 : b < a
 ·rw [if_neg h1, if_pos h2, if_neg h1, if_pos h2]
 rw [if_neg h1, if_neg h2, if_neg h1, if_neg h2]
open Go.Proofs.YtaambkdiokbdgacGreatDoorM in
theorem impl_votes_sets.cmp_ev_l (a b : List Int) (ha : a.length ≤ 9223372036854775807) : ∀ (d i : Nat), i + d = a.length → i ≤ b.length → a.take i = b.take i → Ev (fun k => slices_Compare_int_int.l0 k a b a (a.length : Int) (i : Int)) (Go.Proofs.YtaambkdiokbdgacGreatDoorM.cmpL (a.drop i) (b.drop i)) := by
 intro d
 induction d with
 | zero =>
  intro i h hb _
  refine ev_step ?_
  simp only [slices_Compare_int_int.l0]
  rw [ev_neg (by omega), List.drop_of_length_le (by omega)]
  by_cases hc : (a.length : Int) < (b.length : Int)
  ·rw [ev_pos hc, ev_now, List.drop_eq_getElem_cons (by omega)]
   rfl
  rw [ev_neg hc, ev_now, List.drop_of_length_le (by omega)]
  rfl
 | succ d ih =>
  intro i h hb ht
  refine ev_step ?_
  simp only [slices_Compare_int_int.l0]
  have hi : i < a.length := by omega
  rw [ev_pos (by omega), ev_pos (by omega), ev_pos (by omega)]
  by_cases hc : (i : Int) ≥ (b.length : Int)
  ·rw [ev_pos hc, ev_now, List.drop_eq_getElem_cons hi, List.drop_of_length_le (by omega : b.length ≤ i)]
   rfl
  have hib : i < b.length := by omega
  rw [ev_neg hc, ev_pos (by omega), rd_lt a i hi, rd_lt b i hib, ev_bind (ev_of (impl_votes_sets.cmp_v _ _)), w64i (n := a.length) (by omega) (by omega) ha, List.drop_eq_getElem_cons hi, List.drop_eq_getElem_cons hib]
  simp only [Go.Proofs.YtaambkdiokbdgacGreatDoorM.cmpL]
  by_cases h1 : a[i] < b[i]
  ·rw [if_pos h1, ev_neg (by decide), ev_now, if_pos h1]
  by_cases h2 : b[i] < a[i]
  ·rw [if_neg h1, if_pos h2, ev_neg (by decide), ev_now, if_neg h1, if_pos h2]
  rw [if_neg h1, if_neg h2, ev_pos rfl, if_neg h1, if_neg h2]
  refine ih (i + 1) (by omega) (by omega) ?_
  rw [List.take_succ_eq_append_getElem hi, List.take_succ_eq_append_getElem hib, ht, show a[i] = b[i] by omega]
open Go.Proofs.YtaambkdiokbdgacGreatDoorM in
theorem impl_votes_sets.cmp_ev (a b : List Int) (ha : a.length ≤ 9223372036854775807) : Ev (fun k => slices_Compare_int_int.f k a b) (Go.Proofs.YtaambkdiokbdgacGreatDoorM.cmpL a b) := impl_votes_sets.cmp_ev_l a b ha a.length 0 (by omega) (by omega) (by simp)
def impl_votes_sets.l0 : Nat → (Int → Option Bool) → List Bool → List (List Int) → Int → Option (List (List Int))
 | 0, _, _, _, _ => none
 | k + 1, p, ws, out, x => if x < (ws.length : Int) then ((p x).bind fun b => if b = true then ((impl_setOf.f k x).bind fun s => if out.length < 5000000000000 then impl_votes_sets.l0 k p ws (out ++ [s]) (wrap64 (x + 1)) else none) else impl_votes_sets.l0 k p ws out (wrap64 (x + 1))) else some out
def impl_votes_sets.g (k : Nat) (ws : List Bool) (p : Int → Option Bool) : Option (List (List Int)) := (impl_votes_sets.l0 k p ws [] 0).bind fun out => if out.length < 5000000000000 then some (Go.Proofs.YtaambkdiokbdgacGreatDoorS.sortL out) else none
theorem impl_votes_sets.hof (k : Nat) (a0 : Int) (A1 : Option Addr) (c1 : Nat) (ws : List Bool) (p : Int → Option Bool) (g : Nat) (fb lb : Array Value) (r : List (List Int)) (w : World) (hr1 : Kd.C Kd.bool w A1 ws.length ws) (eg : ∀ args w, (callFunc g args).run Tryz.prog w = .ok (.enter g args) w)
  (hp : ∀ (W : World) (x : Int) (b : Bool), Below w.heap.size w W → 0 ≤ x → x < (ws.length : Int) → p x = some b → Calls Tryz.prog g (fb ++ #[.int .i64 x] ++ lb) W fun e W' => e = .returned (.bool b) ∧ Below W.heap.size W W') (h : impl_votes_sets.g k ws p = some r) :
  Calls Tryz.prog 80 #[.agg #[.int .i64 a0, .slice A1 ws.length c1], .func (.func g) fb lb] w fun e w' => ∃ v0_ : Value, e = .returned (v0_) ∧ Kd.S (Kd.slice 3 (Kd.int .i64)) 22 w' w.heap.size (fun _ => True) v0_ r ∧ Below w.heap.size w w' := by
 have egC : ∀ args w, (callFunc 97 args).run Tryz.prog w = .ok (.enter 97 args) w := enters_of Tryz.func97 (by kernel_rfl) rfl
 have huV := Tryz.underlying58
 obtain ⟨OUT, hout, hr⟩ := oB h
 by_cases hlo : OUT.length < 5000000000000
 case neg => rw [if_neg hlo] at hr; cases hr
 rw [if_pos hlo] at hr
 obtain rfl := Option.some.inj hr
 have HLO := Aside0.mk hlo
 have HN := Aside0.mk (Kd.C_max hr1)
 have HR := Aside0.mk hr1
 have HP := Aside0.mk hp
 have H' := Aside0.mk hout
 have HB := Aside0.mk (Below.refl w.heap.size w)
 clear hr1 h hout hr hlo hp
 go_enter Tryz.func80, Tryz.ntmps80
 go_wp2_with (first | ((with_reducible refine gate_dst (N := 2) rfl ?_); refine box_event ?hg (N := 2) ?hd (cs := #[.int .i64 a0, .slice A1 ws.length c1]) (t := 58) ?hr ?_; (case hd => rfl); (case hg => rfl); (case hr => first | (go_simp; done) | (go_simp; rfl)); intro gb hg w7 hbox hb; have n0_ := sQ hb; have n1_ := Aside0.mk (hbox); clear HB; have HB := n0_; have BK := n1_; clear n0_ n1_; clear hb hbox hg) | ((with_reducible refine gate_dst (N := 7) rfl ?_); refine Kd.S_lit (Kd.slice 3 (Kd.int .i64)) _ 22 ?hg (N := 7) ?hd (xs := ([] : List (List Int))) (inner := []) (ok := fun _ => True) (okp := fun _ => True) ?hr ?hp (fun _ hk => hk) trivial (Below.refl _ _) (Nat.le_refl _) (by simp) ?_; (case hd => rfl); (case hg => rfl); (case hr => first | (go_simp; done) | (go_simp; rfl)); (case hp => exact (Reps.none _ _)); intro v102 w8 ho hb hg_ hnew_; clear hg_ hnew_; have n0_ := Aside0.mk (Kd.S_lower ho (below_size (wB))); have n1_ := Aside0.mk (blk_below (by (first | exact bp BK.out | exact BK.out)) hb); have n2_ := sQ hb; clear HB BK; have HO := n0_; have BK := n1_; have HB := n2_; clear n0_ n1_ n2_; clear hb ho; obtain ⟨Ao9, co9, eo9⟩ := Kd.S_slice HO.out; subst eo9; have hcz1 := cZ BK 1))
 go_loopg [5, 11] k (fun kq v5 v11 w' => ∃ (out : List (List Int)) (x : Int), v11 = .int .i64 x ∧ Aside0 (impl_votes_sets.l0 kq p ws out x = some OUT) ∧ Aside0 (kq ≤ k) ∧ Aside0 (0 ≤ x) ∧ Aside0 (Kd.S (Kd.slice 3 (Kd.int .i64)) 22 w' w.heap.size (fun _ => True) v5 out) ∧ Aside0 (w'.heap[gb]? = some (.cells #[.int .i64 a0, .slice A1 ws.length c1] 58 (0, 0))) ∧ Aside0 (Below w.heap.size w w'))
 case atStart => exact ⟨[], 0, gR, H', ⟨Nat.le_refl _⟩, ⟨Int.le_refl _⟩, ⟨by (with_reducible repeat (first | apply Kd.S_alloc | apply Kd.S_drewN | apply Kd.S_drew)); exact HO.out⟩, ⟨by (first | exact bp BK.out | exact BK.out)⟩, ⟨(wB)⟩⟩
 case round =>
  clear H' HB BK HO
  try clear hcz1
  obtain ⟨out, x, rfl, HA, HK1, HX0, HO, BK, HB⟩ := hrel
  cases gk with
  | zero => exact absurd HA.out (by simp [impl_votes_sets.l0])
  | succ k1 =>
   have H := HA.out
   clear HA
   simp only [impl_votes_sets.l0] at H
   by_cases c1 : x < (ws.length : Int)
   rotate_left
   ·rw [if_neg c1] at H
    obtain rfl := Option.some.inj H
    have c1b0 : decide (x < (ws.length : Int)) = false := decide_eq_false c1
    clear c1 H
    obtain ⟨Ao, co, eo⟩ := Kd.S_slice HO.out
    subst eo
    go_wp2_with fail
    have hs := Go.Proofs.YtaambkdiokbdgacGreatDoorS.sort_rows Go.Proofs.YtaambkdiokbdgacGreatDoorL.sortLL (Kd.slice 3 (Kd.int .i64)) rfl Go.Proofs.YtaambkdiokbdgacGreatDoorM.cmpL Go.Proofs.YtaambkdiokbdgacGreatDoorS.swoL 97 egC HO.out (by have := HLO.out; omega) (fun W a b u v _ _ ha hb => by
     obtain ⟨A1_, c1_, e1_, hl1, hC1⟩ := ha
     obtain ⟨A2_, c2_, e2_, hl2, hC2⟩ := hb
     obtain rfl := (List.cons.inj e1_).1
     obtain rfl := (List.cons.inj e2_).1
     obtain ⟨K, hK⟩ := impl_votes_sets.cmp_ev a b (Kd.C_max hC1)
     refine (slices_Compare_int_int.calls K A1_ c1_ a A2_ c2_ b _ W hC1 hl1 hC2 hl2 (hK K (Nat.le_refl _))).mono ?_
     rintro e W' ⟨rfl, ⟨q, rfl⟩⟩
     exact ⟨rfl, q, rfl⟩)
    change Calls Tryz.prog 96 _ _ _ at hs
    refine hs.mono ?_
    rintro e w' ⟨rfl, ys, hperm, hsd, hS, hg⟩
    obtain rfl := Go.Proofs.YtaambkdiokbdgacGreatDoorS.sortL_of hperm hsd
    have HS := Aside0.mk hS
    have HBN := Aside0.mk (HB.out.grown hg HB.out.size (fun k_ hk_ => Kd.S_base HO.out k_ hk_))
    clear hS hg hs HO HB
    go_wp2
    go_ret
    exact ⟨_, rfl, by (with_reducible repeat (first | apply Kd.S_alloc | apply Kd.S_drewN | apply Kd.S_drew)); exact HS.out, HBN.out⟩
   rw [if_pos c1] at H
   obtain ⟨b, A5, H⟩ := oB H
   have hcall := HP.out wr x b HB.out HX0.out c1 A5
   have HXW : Aside0 (0 ≤ wrap64 (x + 1)) := ⟨by have h1_ := HX0.out; have h2_ := HN.out; unfold wrap64; omega⟩
   have c1b0 := decide_eq_true c1
   clear c1
   cases b with
   | true =>
    rw [if_pos rfl] at H
    obtain ⟨s, A6, H⟩ := oB H
    have A6 := Aside0.mk A6
    by_cases c3 : out.length < 5000000000000
    rotate_left
    ·rw [if_neg c3] at H
     exact absurd H (by simp)
    rw [if_pos c3] at H
    obtain ⟨y, hy⟩ : ∃ y_ : List (List Int), y_ = (out ++ [s]) := ⟨_, rfl⟩
    rw [← hy] at H
    have NY := Aside0.mk hy
    have LM := Aside0.mk c3
    have H' := Aside0.mk H
    clear hy c3 H
    go_wp2_with fail
    refine hcall.mono ?_
    rintro e w' ⟨rfl, hb⟩
    have n0_ := tB HO hb
    have n1_ := bB BK hb
    have n2_ := Aside0.mk (HB.out.trans (hb.mono HB.out.size))
    clear HO BK HB hb hcall
    have HO := n0_
    have BK := n1_
    have HB := n2_
    clear n0_ n1_ n2_
    go_wp2_with (first | ((with_reducible refine gate_callee (f := 95) rfl ?_); refine gL 19 Tryz.func95 #[.int .i64 x] ?_; (with_reducible refine (impl_setOf.calls k1 x s _ A6.out).mono ?_); rintro e w22 ⟨v111, rfl, ho0, hb⟩; refine ⟨_, rfl, ?_⟩; have n0_ := Aside0.mk (Kd.S_elder' (by (with_reducible repeat (first | apply Kd.S_alloc | apply Kd.S_drewN | apply Kd.S_drew)); exact HO.out) (Kd.R_base ho0) hb); have n1_ := Aside0.mk (Kd.R_lower ho0 (below_size (wB))); have n2_ := sQ hb; have n3_ := Aside0.mk (blk_below (by (first | exact bp BK.out | exact BK.out)) hb); clear HO HB BK; have HO := n0_; have HOs := n1_; have HB := n2_; have BK := n3_; clear n0_ n1_ n2_ n3_ hb ho0; obtain ⟨Ao24, co24, eo24⟩ := Kd.R_slice HOs.out; subst eo24) | ((with_reducible refine gate_builtin (b := .append) (xs := #[.tmp 17, .tmp 20]) rfl ?_); at_builtin; refine Kd.S_append (Kd.slice 3 (Kd.int .i64)) (w0 := w) w.heap.size rfl (.tmp 17) (.tmp 20) 38 22 (.slice none 0 0) 24 rfl Tryz.underlying38 info22 rfl (by decide) (by omega) u5 out s [.slice Ao24 s.length co24] (fun _ => True) (fun k_ => some k_ = (.slice Ao24 s.length co24 : Value).ownBlock) rfl rfl ?aP (fun k_ hk_ => (Kd.R_mono (ok' := fun k_ => True ∧ nb u5 k_) (Kd.R_apart' HOs.out (Kd.S_typed HO.out) (by decide)) (fun k_ hk => ⟨trivial, hk.2⟩)).1 k_ hk_.symm) ?aF ?aO ?aB ?aS ?aL ?_; (case aP => exact Kd.M_row (Kd.R_mono (Kd.R_tight rfl (Kd.R_mono (ok' := fun k_ => True ∧ nb u5 k_) (Kd.R_apart' HOs.out (Kd.S_typed HO.out) (by decide)) (fun k_ hk => ⟨trivial, hk.2⟩))) (fun _ h_ => h_))); (case aB => exact (wB)); (case aF => exact (fun _ _ => trivial)); (case aO => exact (by (with_reducible repeat (first | apply Kd.S_alloc | apply Kd.S_drewN | apply Kd.S_drew)); exact Kd.S_mono HO.out (fun k_ hk => ⟨trivial, fun e_ => hk.2 e_⟩))); (case aS => exact (below_size (wB))); (case aL => have := LM.out; omega); intro v114 w23 ho hb hg hat; rw [← NY.out] at ho; have n0_ := Aside0.mk (blk_grown (by (first | exact bp BK.out | exact BK.out)) hg (Kd.S_ne HO.out BK.out (by decide))); have n1_ := Aside0.mk hb; have n2_ := Aside0.mk ho; clear BK HB HO HOs; have BK := n0_; have HB := n1_; have HO := n2_; clear n0_ n1_ n2_ ho hb hg hat))
    go_roundg k1
    case measure => have := HK1.out; omega
    case rel => exact ⟨y, (wrap64 (x + 1)), gR, H', ⟨by have := HK1.out; omega⟩, HXW, ⟨by (with_reducible repeat (first | apply Kd.S_alloc | apply Kd.S_drewN | apply Kd.S_drew)); exact HO.out⟩, ⟨by (first | exact bp BK.out | exact BK.out)⟩, ⟨(wB)⟩⟩
   | false =>
    rw [if_neg (by decide)] at H
    have H' := Aside0.mk H
    clear H
    go_wp2_with fail
    refine hcall.mono ?_
    rintro e w' ⟨rfl, hb⟩
    have n0_ := tB HO hb
    have n1_ := bB BK hb
    have n2_ := Aside0.mk (HB.out.trans (hb.mono HB.out.size))
    clear HO BK HB hb hcall
    have HO := n0_
    have BK := n1_
    have HB := n2_
    clear n0_ n1_ n2_
    go_wp2
    go_roundg k1
    case measure => have := HK1.out; omega
    case rel => exact ⟨out, (wrap64 (x + 1)), gR, H', ⟨by have := HK1.out; omega⟩, HXW, ⟨by (with_reducible repeat (first | apply Kd.S_alloc | apply Kd.S_drewN | apply Kd.S_drew)); exact HO.out⟩, ⟨by (first | exact bp BK.out | exact BK.out)⟩, ⟨(wB)⟩⟩
def impl_votes_least.f (k : Nat) (a0_0 : Int) (l0_1 : List Bool) : Option (List (List Int)) := impl_votes_sets.g k l0_1 (fun x => impl_votes_isLeast.f k a0_0 l0_1 x)
theorem impl_votes_least.calls (k : Nat) (a0_0 : Int) (A0_1 : Option Addr) (c0_1 : Nat) (l0_1 : List Bool) (r : List (List Int)) (w : World) (hr0_1 : Kd.C Kd.bool w A0_1 l0_1.length l0_1) (hc0_1 : l0_1.length ≤ c0_1) (h : impl_votes_least.f k a0_0 l0_1 = some r) :
  Calls Tryz.prog 51 #[.agg #[.int .i64 a0_0, .slice A0_1 l0_1.length c0_1]] w fun e w' => ∃ v0_ : Value, e = .returned (v0_) ∧ Kd.S (Kd.slice 3 (Kd.int .i64)) 22 w' w.heap.size (fun _ => True) v0_ r ∧ Below w.heap.size w w' := by
 have eg : ∀ args w, (callFunc 81 args).run Tryz.prog w = .ok (.enter 81 args) w := enters_of Tryz.func81 (by kernel_rfl) rfl
 have hmf : ∀ (fn : Fn) (first cap : Array Value) (w : World), (Instr.makeFunc fn first cap).run Tryz.prog w = .ok (.func fn first cap) w := fun _ _ _ _ => rfl
 have huV := Tryz.underlying58
 have HR := Aside0.mk hr0_1
 have HC := Aside0.mk hc0_1
 have H := Aside0.mk h
 clear hr0_1 hc0_1 h
 go_enter Tryz.func51, Tryz.ntmps51
 go_wp2_with fail
 have hB1 : Below w.heap.size w (w.alloc (.cells #[.int .i64 a0_0, .slice A0_1 l0_1.length c0_1] 58)) := (Below.refl _ _).alloc (Nat.le_refl _) _
 refine (impl_votes_sets.hof k a0_0 A0_1 c0_1 l0_1 (fun x => impl_votes_isLeast.f k a0_0 l0_1 x) 81 #[.agg #[.int .i64 a0_0, .slice A0_1 l0_1.length c0_1]] #[] r _ (Kd.C_below HR.out hB1) eg ?_ H.out).mono ?_
 ·intro W x b hb _ _ hx
  exact impl_votes_isLeast.calls k a0_0 A0_1 c0_1 l0_1 x b W (Kd.C_below HR.out (hB1.trans (hb.mono hB1.size))) HC.out hx
 rintro e w' ⟨v1, rfl, hS, hb⟩
 have HS := Aside0.mk (Kd.S_lower hS hB1.size)
 have HBN := Aside0.mk (hB1.trans (hb.mono hB1.size))
 clear hS hb hB1
 go_wp2
 go_ret
 exact ⟨_, rfl, HS.out, HBN.out⟩
def impl_LeastWinning.f (k : Nat) (a0_0 : Int) (l0_1 : List Int) : Option ((List (List Int)) × Bool) := (impl_IsCommittee.f k a0_0 l0_1).bind fun t102 => (if t102 = true then ((impl_Committee_votes.f k a0_0 l0_1).bind fun bt103 => ((impl_votes_least.f k bt103.1 bt103.2).bind fun t107 => (some (t107, true)))) else (some (([] : List (List Int)), false)))
theorem impl_LeastWinning.calls (k : Nat) (a0_0 : Int) (A0_1 : Option Addr) (c0_1 : Nat) (l0_1 : List Int) (r1 : List (List Int)) (r2 : Bool) (w : World) (hr0_1 : Kd.C (Kd.int .i64) w A0_1 l0_1.length l0_1) (hc0_1 : l0_1.length ≤ c0_1) (h : impl_LeastWinning.f k a0_0 l0_1 = some (r1, r2)) :
  Calls Tryz.prog 19 #[.agg #[.int .i64 a0_0, .slice A0_1 l0_1.length c0_1]] w fun e w' => ∃ v0_ : Value, e = .returned (.tuple #[v0_, .bool r2]) ∧ Kd.S (Kd.slice 3 (Kd.int .i64)) 22 w' w.heap.size (fun _ => True) v0_ r1 ∧ Below w.heap.size w w' := by
 have hu24 := Tryz.underlying24
 have HR0_1 := Aside0.mk hr0_1
 have HC0_1 := Aside0.mk hc0_1
 clear hr0_1 hc0_1
 have HB := Aside0.mk (Below.refl w.heap.size w)
 have H := h
 unfold impl_LeastWinning.f at H
 clear h
 replace H := oB H
 obtain ⟨t102, A20, H⟩ := H
 replace H : (if t102 = true then ((impl_Committee_votes.f k a0_0 l0_1).bind fun bt103 => ((impl_votes_least.f k bt103.1 bt103.2).bind fun t107 => (some (t107, true)))) else (some (([] : List (List Int)), false))) = some (r1, r2) := H
 have A2 := Aside0.mk A20
 clear A20
 by_cases c3 : t102 = true
 rotate_left
 ·replace c3 := Bool.eq_false_iff.mpr c3
  subst c3
  replace H := iF H
  simp only [Option.some.injEq, Prod.mk.injEq] at H
  obtain ⟨rfl, rfl⟩ := H
  go_enter Tryz.func19, Tryz.ntmps19
  go_wp2_with (first | ((with_reducible refine gate_dst (N := 1) rfl ?_); refine box_event ?hg (N := 1) ?hd (cs := #[.int .i64 a0_0, .slice A0_1 l0_1.length c0_1]) (t := 24) ?hr ?_; (case hd => rfl); (case hg => rfl); (case hr => first | (go_simp; done) | (go_simp; rfl)); intro gb101 hg w13 hbox hb; have n0_ := sQ hb; have n1_ := Aside0.mk (hbox); have n2_ := Aside0.mk ((by rw [hg]; exact (below_size (wB)) : w.heap.size ≤ gb101)); have n3_ := Aside0.mk ((by rw [hg]; exact (below_size (wB)) : w.heap.size ≤ gb101)); clear HB; have HB := n0_; have BK101 := n1_; have GW101 := n2_; have GE101 := n3_; clear n0_ n1_ n2_ n3_; clear hb hbox hg; obtain ⟨hcz14_0, hcz14_1, hfz14_0, hfz14_1⟩ := zZ BK101) | ((with_reducible refine gate_callee (f := 17) rfl ?_); refine gL 5 Tryz.func17 #[.agg #[.int .i64 a0_0, .slice A0_1 l0_1.length c0_1]] ?_; (with_reducible refine (impl_IsCommittee.calls k a0_0 _ _ l0_1 false _ ?side1 ?side2 A2.out).mono ?_); (case side1 => have hx_ := (Kd.C_below HR0_1.out HB.out); exact cC); (case side2 => exact HC0_1.out); rintro e w15 ⟨rfl, hb⟩; refine ⟨_, rfl, ?_⟩; have n0_ := bP BK101 hb; have n1_ := sQ hb; clear BK101; clear HB; have BK101 := n0_; have HB := n1_; clear n0_ n1_; (try clear hb); (try clear hb2); (try clear hk); (try clear hi)))
  go_ret2
  exact ⟨_, fR, by first | exact Kd.S_nil _ _ _ _ _ | exact Kd.N_nil _ _ _ _ _ | exact Kd.V_nil _ _ _ _ _ | exact Kd.Q_nil _ _ _ _ _ | exact Kd.R_nil _ _ _ _ _, wB⟩
 subst c3
 replace H := iT H
 replace H := oB H
 obtain ⟨⟨t103, t104⟩, A40, H⟩ := H
 replace H : ((impl_votes_least.f k t103 t104).bind fun t107 => (some (t107, true))) = some (r1, r2) := H
 have A4 := Aside0.mk A40
 clear A40
 replace H := oB H
 obtain ⟨t107, A50, H⟩ := H
 replace H : (some (t107, true)) = some (r1, r2) := H
 have A5 := Aside0.mk A50
 clear A50
 simp only [Option.some.injEq, Prod.mk.injEq] at H
 obtain ⟨rfl, rfl⟩ := H
 go_enter Tryz.func19, Tryz.ntmps19
 go_wp2_with (first | ((with_reducible refine gate_dst (N := 1) rfl ?_); refine box_event ?hg (N := 1) ?hd (cs := #[.int .i64 a0_0, .slice A0_1 l0_1.length c0_1]) (t := 24) ?hr ?_; (case hd => rfl); (case hg => rfl); (case hr => first | (go_simp; done) | (go_simp; rfl)); intro gb101 hg w6 hbox hb; have n0_ := sQ hb; have n1_ := Aside0.mk (hbox); have n2_ := Aside0.mk ((by rw [hg]; exact (below_size (wB)) : w.heap.size ≤ gb101)); have n3_ := Aside0.mk ((by rw [hg]; exact (below_size (wB)) : w.heap.size ≤ gb101)); clear HB; have HB := n0_; have BK101 := n1_; have GW101 := n2_; have GE101 := n3_; clear n0_ n1_ n2_ n3_; clear hb hbox hg; obtain ⟨hcz7_0, hcz7_1, hfz7_0, hfz7_1⟩ := zZ BK101) | ((with_reducible refine gate_callee (f := 17) rfl ?_); refine gL 5 Tryz.func17 #[.agg #[.int .i64 a0_0, .slice A0_1 l0_1.length c0_1]] ?_; (with_reducible refine (impl_IsCommittee.calls k a0_0 _ _ l0_1 true _ ?side1 ?side2 A2.out).mono ?_); (case side1 => have hx_ := (Kd.C_below HR0_1.out HB.out); exact cC); (case side2 => exact HC0_1.out); rintro e w8 ⟨rfl, hb⟩; refine ⟨_, rfl, ?_⟩; have n0_ := bP BK101 hb; have n1_ := sQ hb; clear BK101; clear HB; have BK101 := n0_; have HB := n1_; clear n0_ n1_; (try clear hb); (try clear hb2); (try clear hk); (try clear hi); obtain ⟨hcz9_0, hcz9_1, hfz9_0, hfz9_1⟩ := zZ BK101) | ((with_reducible refine gate_callee (f := 31) rfl ?_); refine gL 8 Tryz.func31 #[.agg #[.int .i64 a0_0, .slice A0_1 l0_1.length c0_1]] ?_; (with_reducible refine (impl_Committee_votes.calls k a0_0 _ _ l0_1 t103 t104 _ ?side1 ?side2 A4.out).mono ?_); (case side1 => have hx_ := (Kd.C_below HR0_1.out HB.out); exact cC); (case side2 => exact HC0_1.out); rintro e w10 ⟨v105, rfl, ho0, hb⟩; refine ⟨_, rfl, ?_⟩; have n0_ := Aside0.mk (Kd.R_lower ho0 (below_size (wB))); have n1_ := bP BK101 hb; have n2_ := sQ hb; clear BK101; clear HB; have HO106 := n0_; have BK101 := n1_; have HB := n2_; clear n0_ n1_ n2_; (try clear hb); (try clear hb2); (try clear hk); (try clear hi); (try clear ho0); obtain ⟨Ao11, co11, eo11⟩ := Kd.R_slice HO106.out; subst eo11) | ((with_reducible refine gate_callee (f := 51) rfl ?_); refine gL 9 Tryz.func51 #[.agg #[.int .i64 t103, .slice Ao11 t104.length co11]] ?_; (with_reducible refine (impl_votes_least.calls k t103 _ _ t104 t107 _ ?side1 ?side2 A5.out).mono ?_); (case side1 => have hx_ := (Kd.R_reads' HO106.out).2.2; exact cC); (case side2 => exact (Kd.R_reads' HO106.out).2.1); rintro e w12 ⟨v108, rfl, ho0, hb⟩; refine ⟨_, rfl, ?_⟩; have n0_ := rP HO106 hb; have n1_ := Aside0.mk (Kd.S_lower ho0 (below_size (wB))); have n2_ := bP BK101 hb; have n3_ := sQ hb; clear HO106; clear BK101; clear HB; have HO106 := n0_; have HO109 := n1_; have BK101 := n2_; have HB := n3_; clear n0_ n1_ n2_ n3_; (try clear hb); (try clear hb2); (try clear hk); (try clear hi); (try clear ho0)))
 go_ret2
 exact ⟨_, fR, by (with_reducible repeat (first | apply Kd.S_alloc | apply Kd.S_drewN | apply Kd.S_drew)); exact HO109.out, wB⟩
def laws_mSets.l0 : Nat → List (List Int) → List (List Int) → Int → Int → Option (Bool)
 | 0, _, _, _, _ => none
 | k + 1, x0, x1, x12, x13 => if x13 < x12 then (if 0 ≤ x13 then (if x13 < (x0.length : Int) then (if x13 < (x1.length : Int) then ((laws_mSame.f k (rd_L2 x0 x13) (rd_L2 x1 x13)).bind fun t103 => (if t103 = true then (laws_mSets.l0 k x0 x1 x12 (wrap64 (x13 + 1))) else (some false))) else (none)) else (none)) else (none)) else (some true)
def laws_mSets.f (k : Nat) (l0 : List (List Int)) (l1 : List (List Int)) : Option (Bool) := if (l0.length : Int) = (l1.length : Int) then (laws_mSets.l0 k l0 l1 (l0.length : Int) 0) else (some false)
theorem laws_mSets.calls (k : Nat) (A0 : Option Addr) (c0 : Nat) (l0 : List (List Int)) (A1 : Option Addr) (c1 : Nat) (l1 : List (List Int)) (r : Bool) (w : World) (hr0 : Kd.C (Kd.slice 3 (Kd.int .i64)) w A0 l0.length l0) (hc0 : l0.length ≤ c0) (hr1 : Kd.C (Kd.slice 3 (Kd.int .i64)) w A1 l1.length l1) (hc1 : l1.length ≤ c1) (h : laws_mSets.f k l0 l1 = some r) :
  Calls Tryz.prog 20 #[.slice A0 l0.length c0, .slice A1 l1.length c1] w fun e w' => e = .returned (.bool r) ∧ Drawn0 w w' := by
 have HR0 := Aside0.mk hr0
 have HC0 := Aside0.mk hc0
 clear hr0 hc0
 have HR1 := Aside0.mk hr1
 have HC1 := Aside0.mk hc1
 clear hr1 hc1
 have H := h
 unfold laws_mSets.f at H
 clear h
 by_cases c3 : (l0.length : Int) = (l1.length : Int)
 rotate_left
 ·rw [if_neg c3] at H
  have c3b0 : ((l0.length : Int) == (l1.length : Int)) = false := beq_eq_false_iff_ne.mpr c3
  have c3b1 : ((l0.length : Int) != (l1.length : Int)) = true := bne_iff_ne.mpr c3
  have c3b2 : (l0.length == l1.length) = false := by first | simpa using c3 | (simp at c3 ⊢; omega)
  obtain rfl := Option.some.inj H
  go_enter Tryz.func20, Tryz.ntmps20
  go_wp2
  repeat (go_quiet (fail); try go_wp2)
  go_ret
  exact ⟨by first | rfl | (simp; done) | (simp [*]; done), dS⟩
 rw [if_pos c3] at H
 have c3b0 : ((l0.length : Int) == (l1.length : Int)) = true := beq_iff_eq.mpr c3
 have c3b1 : ((l0.length : Int) != (l1.length : Int)) = false := bne_eq_false_iff_eq.mpr c3
 have c3b2 : (l0.length == l1.length) = true := by first | simpa using c3 | (simp at c3 ⊢; omega)
 clear c3
 have H' := Aside0.mk H
 clear H
 go_enter Tryz.func20, Tryz.ntmps20
 go_wp2
 repeat (go_quiet (fail); try go_wp2)
 go_loopg [13] k (fun kq v13 w' => ∃ (x13_1 : Int), v13 = .int .i64 x13_1 ∧ Aside0 (laws_mSets.l0 kq l0 l1 (l0.length : Int) x13_1 = some r) ∧ Aside0 (kq ≤ k) ∧ Drawn0 w w')
 case atStart => exact ⟨(0), gR, H', ⟨Nat.le_refl _⟩, dS⟩
 case round =>
  clear H'
  try clear c1
  try clear c2
  try clear p2
  try clear c3
  try clear c3b0
  try clear c3b1
  try clear c3b2
  obtain ⟨x13_1, rfl, HA, HK1, ⟨m1, rfl⟩⟩ := hrel
  cases gk with
  | zero => exact absurd HA.out (by simp [laws_mSets.l0])
  | succ k1 =>
   have H := HA.out
   clear HA
   simp only [laws_mSets.l0] at H
   by_cases c4 : x13_1 < (l0.length : Int)
   rotate_left
   ·rw [if_neg c4] at H
    have c4b0 : decide (x13_1 < (l0.length : Int)) = false := decide_eq_false c4
    clear c4
    obtain rfl := Option.some.inj H
    go_wp2
    repeat (go_quiet (fail); try go_wp2)
    go_ret
    exact ⟨by first | rfl | (simp; done) | (simp [*]; done), dS⟩
   rw [if_pos c4] at H
   have c4b0 := decide_eq_true c4
   clear c4
   by_cases c5 : 0 ≤ x13_1
   rotate_left
   ·rw [if_neg c5] at H
    exact absurd H (by simp)
   rw [if_pos c5] at H
   have c5b0 := decide_eq_true c5
   clear c5
   by_cases c6 : x13_1 < (l0.length : Int)
   rotate_left
   ·rw [if_neg c6] at H
    exact absurd H (by simp)
   rw [if_pos c6] at H
   have c6b0 := decide_eq_true c6
   clear c6
   by_cases c7 : x13_1 < (l1.length : Int)
   rotate_left
   ·rw [if_neg c7] at H
    exact absurd H (by simp)
   rw [if_pos c7] at H
   have c7b0 := decide_eq_true c7
   clear c7
   replace H := oB H
   obtain ⟨t103, A80, H⟩ := H
   replace H : (if t103 = true then (laws_mSets.l0 k1 l0 l1 (l0.length : Int) (wrap64 (x13_1 + 1))) else (some false)) = some r := H
   have A8 := Aside0.mk A80
   clear A80
   by_cases c9 : t103 = true
   rotate_left
   ·replace c9 := Bool.eq_false_iff.mpr c9
    subst c9
    replace H := iF H
    obtain rfl := Option.some.inj H
    have p101 : 0 ≤ (x13_1 : Int) := oD
    have q101 : x13_1 < (l0.length : Int) := oD
    obtain ⟨ad101, A101_0, c101_0, e101, hx101_0, hl101_0, hi101_0⟩ := at_L2 HR0.out x13_1 p101 q101
    cases e101
    have HR101_0 := Aside0.mk hi101_0
    have HC101_0 := Aside0.mk hl101_0
    clear hi101_0 hl101_0
    replace p101 := eq_true p101
    replace q101 := eq_true q101
    have p102 : 0 ≤ (x13_1 : Int) := oD
    have q102 : x13_1 < (l1.length : Int) := oD
    obtain ⟨ad102, A102_0, c102_0, e102, hx102_0, hl102_0, hi102_0⟩ := at_L2 HR1.out x13_1 p102 q102
    cases e102
    have HR102_0 := Aside0.mk hi102_0
    have HC102_0 := Aside0.mk hl102_0
    clear hi102_0 hl102_0
    replace p102 := eq_true p102
    replace q102 := eq_true q102
    go_wp2_with (first | (go_at_call 30; (with_reducible refine (laws_mSame.calls k1 _ _ (rd_L2 l0 x13_1) _ _ (rd_L2 l1 x13_1) false _ ?side1 ?side2 ?side3 ?side4 A8.out).mono ?_); (case side1 => have hx_ := HR101_0.out; exact cC); (case side2 => exact HC101_0.out); (case side3 => have hx_ := HR102_0.out; exact cC); (case side4 => exact HC102_0.out); rintro e w' ⟨rfl, ⟨nd, rfl⟩⟩; (try exact dR)))
    repeat (go_quiet (first | (go_at_call 30; (with_reducible refine (laws_mSame.calls k1 _ _ (rd_L2 l0 x13_1) _ _ (rd_L2 l1 x13_1) false _ ?side1 ?side2 ?side3 ?side4 A8.out).mono ?_); (case side1 => have hx_ := HR101_0.out; exact cC); (case side2 => exact HC101_0.out); (case side3 => have hx_ := HR102_0.out; exact cC); (case side4 => exact HC102_0.out); rintro e w' ⟨rfl, ⟨nd, rfl⟩⟩; (try exact dR))); try go_wp2_with (first | (go_at_call 30; (with_reducible refine (laws_mSame.calls k1 _ _ (rd_L2 l0 x13_1) _ _ (rd_L2 l1 x13_1) false _ ?side1 ?side2 ?side3 ?side4 A8.out).mono ?_); (case side1 => have hx_ := HR101_0.out; exact cC); (case side2 => exact HC101_0.out); (case side3 => have hx_ := HR102_0.out; exact cC); (case side4 => exact HC102_0.out); rintro e w' ⟨rfl, ⟨nd, rfl⟩⟩; (try exact dR))))
    go_ret
    exact ⟨by first | rfl | (simp; done) | (simp [*]; done), dS⟩
   subst c9
   replace H := iT H
   have H' := Aside0.mk H
   clear H
   have p101 : 0 ≤ (x13_1 : Int) := oD
   have q101 : x13_1 < (l0.length : Int) := oD
   obtain ⟨ad101, A101_0, c101_0, e101, hx101_0, hl101_0, hi101_0⟩ := at_L2 HR0.out x13_1 p101 q101
   cases e101
   have HR101_0 := Aside0.mk hi101_0
   have HC101_0 := Aside0.mk hl101_0
   clear hi101_0 hl101_0
   replace p101 := eq_true p101
   replace q101 := eq_true q101
   have p102 : 0 ≤ (x13_1 : Int) := oD
   have q102 : x13_1 < (l1.length : Int) := oD
   obtain ⟨ad102, A102_0, c102_0, e102, hx102_0, hl102_0, hi102_0⟩ := at_L2 HR1.out x13_1 p102 q102
   cases e102
   have HR102_0 := Aside0.mk hi102_0
   have HC102_0 := Aside0.mk hl102_0
   clear hi102_0 hl102_0
   replace p102 := eq_true p102
   replace q102 := eq_true q102
   go_wp2_with (first | (go_at_call 30; (with_reducible refine (laws_mSame.calls k1 _ _ (rd_L2 l0 x13_1) _ _ (rd_L2 l1 x13_1) true _ ?side1 ?side2 ?side3 ?side4 A8.out).mono ?_); (case side1 => have hx_ := HR101_0.out; exact cC); (case side2 => exact HC101_0.out); (case side3 => have hx_ := HR102_0.out; exact cC); (case side4 => exact HC102_0.out); rintro e w' ⟨rfl, ⟨nd, rfl⟩⟩; (try exact dR)))
   repeat (go_quiet (first | (go_at_call 30; (with_reducible refine (laws_mSame.calls k1 _ _ (rd_L2 l0 x13_1) _ _ (rd_L2 l1 x13_1) true _ ?side1 ?side2 ?side3 ?side4 A8.out).mono ?_); (case side1 => have hx_ := HR101_0.out; exact cC); (case side2 => exact HC101_0.out); (case side3 => have hx_ := HR102_0.out; exact cC); (case side4 => exact HC102_0.out); rintro e w' ⟨rfl, ⟨nd, rfl⟩⟩; (try exact dR))); try go_wp2_with (first | (go_at_call 30; (with_reducible refine (laws_mSame.calls k1 _ _ (rd_L2 l0 x13_1) _ _ (rd_L2 l1 x13_1) true _ ?side1 ?side2 ?side3 ?side4 A8.out).mono ?_); (case side1 => have hx_ := HR101_0.out; exact cC); (case side2 => exact HC101_0.out); (case side3 => have hx_ := HR102_0.out; exact cC); (case side4 => exact HC102_0.out); rintro e w' ⟨rfl, ⟨nd, rfl⟩⟩; (try exact dR))))
   go_roundg k1
   case measure => have := HK1.out; omega
   case rel => exact ⟨(wrap64 (x13_1 + 1)), gR, H', ⟨by have := HK1.out; omega⟩, dS⟩
def laws_big.f (l0 : List Int) (l1 : List Int) : Option (Bool) := if (l0.length : Int) > 1048576 then (some true) else (some (decide ((l1.length : Int) > (wrap64 (1048576 - (l0.length : Int))))))
theorem laws_big.calls (A0 : Option Addr) (c0 : Nat) (l0 : List Int) (A1 : Option Addr) (c1 : Nat) (l1 : List Int) (r : Bool) (w : World) (hr0 : Kd.C (Kd.int .u8) w A0 l0.length l0) (hc0 : l0.length ≤ c0) (hr1 : Kd.C (Kd.int .u8) w A1 l1.length l1) (hc1 : l1.length ≤ c1) (h : laws_big.f l0 l1 = some r) :
  Calls Tryz.prog 21 #[.slice A0 l0.length c0, .slice A1 l1.length c1] w fun e w' => e = .returned (.bool r) ∧ Drawn0 w w' := by
 have HR0 := Aside0.mk hr0
 have HC0 := Aside0.mk hc0
 clear hr0 hc0
 have HR1 := Aside0.mk hr1
 have HC1 := Aside0.mk hc1
 clear hr1 hc1
 have H := h
 unfold laws_big.f at H
 clear h
 by_cases c3 : (l0.length : Int) > 1048576
 ·rw [if_pos c3] at H
  have c3b0 : decide (1048576 < (l0.length : Int)) = true := decide_eq_true c3
  have c3b1 : decide (1048576 < l0.length) = true := decide_eq_true (by omega)
  clear c3
  obtain rfl := Option.some.inj H
  go_enter Tryz.func21, Tryz.ntmps21
  go_wp2
  go_ret
  exact ⟨by first | rfl | (simp; done) | (simp [*]; done), dS⟩
 rw [if_neg c3] at H
 have c3b0 : decide (1048576 < (l0.length : Int)) = false := decide_eq_false c3
 have c3b1 : decide (1048576 < l0.length) = false := decide_eq_false (by omega)
 clear c3
 obtain rfl := Option.some.inj H
 go_enter Tryz.func21, Tryz.ntmps21
 go_wp2
 go_ret
 exact ⟨by first | rfl | (simp; done) | (simp [*]; done), dS⟩
def IsS81 (w0 W : World) (g : Nat) (f0 : List Int) (f1 : Int) (f2 : Int) : Prop := ∃ A0 c0, W.heap[g]? = some (.cells #[.slice A0 f0.length c0, .int .i64 f1, .int .u64 f2] 81 (0, 0)) ∧ w0.heap.size ≤ g ∧ Kd.C (Kd.int .u8) w0 A0 f0.length f0
theorem IsS81.grown {w0 W : World} {g : Nat} {f0 : List Int} {f1 : Int} {f2 : Int} {W1 : World} {row : Option Nat} (h : IsS81 w0 W g f0 f1 f2) (hw : W.grownBy W1 row) (hne : some g ≠ row) : IsS81 w0 W1 g f0 f1 f2 := by
 obtain ⟨A0, c0, hb, hg, hr0⟩ := h
 exact ⟨A0, c0, blk_grown hb hw hne, hg, hr0⟩
theorem IsS81.kept {w0 W : World} {g : Nat} {f0 : List Int} {f1 : Int} {f2 : Int} {W1 : World} {S : Nat → Prop} (h : IsS81 w0 W g f0 f1 f2) (hk : Kept W W1 S) (hne : ¬ S g) : IsS81 w0 W1 g f0 f1 f2 := by
 obtain ⟨A0, c0, hb, hg, hr0⟩ := h
 exact ⟨A0, c0, blk_kept hb hk hne, hg, hr0⟩
theorem IsS81.below {w0 W : World} {g : Nat} {f0 : List Int} {f1 : Int} {f2 : Int} {W1 : World} (h : IsS81 w0 W g f0 f1 f2) (hw : Below W.heap.size W W1) : IsS81 w0 W1 g f0 f1 f2 := h.grown (grown_of_below hw none) (by simp)
theorem IsS81.alloc {w0 W : World} {g : Nat} {f0 : List Int} {f1 : Int} {f2 : Int} (h : IsS81 w0 W g f0 f1 f2) (o : Obj) : IsS81 w0 (W.alloc o) g f0 f1 f2 := h.below (below_alloc (Below.refl _ _) o)
theorem IsS81.drewN {w0 W : World} {g : Nat} {f0 : List Int} {f1 : Int} {f2 : Int} (h : IsS81 w0 W g f0 f1 f2) (m : Nat) : IsS81 w0 (W.drewN m) g f0 f1 f2 := h
theorem IsS81.drew {w0 W : World} {g : Nat} {f0 : List Int} {f1 : Int} {f2 : Int} (h : IsS81 w0 W g f0 f1 f2) : IsS81 w0 W.drew g f0 f1 f2 := h
theorem IsS81.at_ {w0 W : World} {g : Nat} {f0 : List Int} {f1 : Int} {f2 : Int} {w' : World} {m : Nat} (hq : W.drewN m = w') (h : IsS81 w0 W g f0 f1 f2) : IsS81 w0 w' g f0 f1 f2 := by subst hq; exact IsS81.drewN h m
theorem IsS81.apart {w0 W : World} {g : Nat} {f0 : List Int} {f1 : Int} {f2 : Int} {α : Type} {d : Kd α} {e : Nat} {base : Nat} {ok : Nat → Prop} {v : Value} {xs : List α} (h : IsS81 w0 W g f0 f1 f2) (ho : d.R e W base ok v xs) (ht : ∀ q, q ∈ e :: d.E → q ≠ 81) : d.R e W base (fun k => ok k ∧ k ≠ g) v xs := by
 obtain ⟨A0, c0, hb, hg, hr0⟩ := h
 exact Kd.R_types ho hb ht
theorem IsS81.own_ne {w0 W : World} {g : Nat} {f0 : List Int} {f1 : Int} {f2 : Int} {α : Type} {d : Kd α} {e : Nat} {base : Nat} {ok : Nat → Prop} {v : Value} {xs : List α} (h : IsS81 w0 W g f0 f1 f2) (ho : d.R e W base ok v xs) (ht : e ≠ 81) : some g ≠ v.ownBlock := by
 obtain ⟨A0, c0, hb, hg, hr0⟩ := h
 exact Kd.R_ne ho hb ht
theorem IsS81.lt {w0 W : World} {g : Nat} {f0 : List Int} {f1 : Int} {f2 : Int} (h : IsS81 w0 W g f0 f1 f2) : g < W.heap.size := by
 obtain ⟨A0, c0, hb, hg, hr0⟩ := h
 exact blk_lt hb
theorem IsS81.ge {w0 W : World} {g : Nat} {f0 : List Int} {f1 : Int} {f2 : Int} (h : IsS81 w0 W g f0 f1 f2) : w0.heap.size ≤ g := by
 obtain ⟨A0, c0, hb, hg, hr0⟩ := h
 exact hg
theorem IsS81.far {w0 W : World} {g : Nat} {f0 : List Int} {f1 : Int} {f2 : Int} {p : Addr} (h : IsS81 w0 W g f0 f1 f2) (hne : g ≠ p.block) (u : Value) : IsS81 w0 (W.setCell p u) g f0 f1 f2 := by
 obtain ⟨A0, c0, hb, hg, hr0⟩ := h
 exact ⟨A0, c0, blk_far hb hne u, hg, hr0⟩
theorem cellS81_0 {W : World} {g : Nat} {A0 : Option Addr} {c0 : Nat} {f0 : List Int} {f1 : Int} {f2 : Int} (h : W.heap[g]? = some (.cells #[.slice A0 f0.length c0, .int .i64 f1, .int .u64 f2] 81 (0, 0))) : W.cell? ⟨g, 0, none⟩ = some (.slice A0 f0.length c0) := (blk_cell h 0).trans rfl
theorem cellS81_1 {W : World} {g : Nat} {A0 : Option Addr} {c0 : Nat} {f0 : List Int} {f1 : Int} {f2 : Int} (h : W.heap[g]? = some (.cells #[.slice A0 f0.length c0, .int .i64 f1, .int .u64 f2] 81 (0, 0))) : W.cell? ⟨g, 1, none⟩ = some (.int .i64 f1) := (blk_cell h 1).trans rfl
theorem IsS81.set_1 {w0 W : World} {g : Nat} {f0 : List Int} {f1 : Int} {f2 : Int} (h : IsS81 w0 W g f0 f1 f2) (x : Int) : IsS81 w0 (W.setCell ⟨g, 1, none⟩ (.int .i64 x)) g f0 x f2 := by
 obtain ⟨A0, c0, hb, hg, hr0⟩ := h
 exact ⟨A0, c0, by simpa using blk_set hb 1 (.int .i64 x), hg, hr0⟩
theorem cellS81_2 {W : World} {g : Nat} {A0 : Option Addr} {c0 : Nat} {f0 : List Int} {f1 : Int} {f2 : Int} (h : W.heap[g]? = some (.cells #[.slice A0 f0.length c0, .int .i64 f1, .int .u64 f2] 81 (0, 0))) : W.cell? ⟨g, 2, none⟩ = some (.int .u64 f2) := (blk_cell h 2).trans rfl
theorem IsS81.set_2 {w0 W : World} {g : Nat} {f0 : List Int} {f1 : Int} {f2 : Int} (h : IsS81 w0 W g f0 f1 f2) (x : Int) : IsS81 w0 (W.setCell ⟨g, 2, none⟩ (.int .u64 x)) g f0 f1 x := by
 obtain ⟨A0, c0, hb, hg, hr0⟩ := h
 exact ⟨A0, c0, by simpa using blk_set hb 2 (.int .u64 x), hg, hr0⟩
def spec_l1Cur_next.f (s0_0 : List Int) (s0_1 : Int) (s0_2 : Int) : Option (Int × Int × Int) := if s0_1 < (s0_0.length : Int) then (if 0 ≤ s0_1 then (if (wrap64 (s0_1 + 1)) ≤ (s0_0.length : Int) then (some (wrap64 (rd s0_0 s0_1), wrap64 (s0_1 + 1), IntKind.u64.wrap ((IntKind.u64.wrap ((IntKind.u64.wrap (s0_2 * 6364136223846793005)) + (IntKind.u64.wrap (wrap64 (rd s0_0 s0_1))))) + 1442695040888963407))) else (some (wrap64 (Go.bits .and .u64 ((IntKind.u64.wrap ((IntKind.u64.wrap ((IntKind.u64.wrap (s0_2 * 6364136223846793005)) + (IntKind.u64.wrap (wrap64 (rd s0_0 s0_1))))) + 1442695040888963407)) / 1099511627776) 255), wrap64 (s0_1 + 1), IntKind.u64.wrap ((IntKind.u64.wrap ((IntKind.u64.wrap (s0_2 * 6364136223846793005)) + (IntKind.u64.wrap (wrap64 (rd s0_0 s0_1))))) + 1442695040888963407)))) else (none)) else (if (wrap64 (s0_1 + 1)) ≤ (s0_0.length : Int) then (some (0, wrap64 (s0_1 + 1), IntKind.u64.wrap ((IntKind.u64.wrap (IntKind.u64.wrap (s0_2 * 6364136223846793005))) + 1442695040888963407))) else (some (wrap64 (Go.bits .and .u64 ((IntKind.u64.wrap ((IntKind.u64.wrap (IntKind.u64.wrap (s0_2 * 6364136223846793005))) + 1442695040888963407)) / 1099511627776) 255), wrap64 (s0_1 + 1), IntKind.u64.wrap ((IntKind.u64.wrap (IntKind.u64.wrap (s0_2 * 6364136223846793005))) + 1442695040888963407))))
theorem wHI0_spec_l1Cur_next {p : Prop} (h : p := by repeat (first | (with_reducible first | exact HI0.out | apply IsS81.alloc | apply IsS81.drewN | apply IsS81.drew | apply IsS81.set_1 | apply IsS81.set_2) | exact HI0.out)) : p := h
theorem wHB_spec_l1Cur_next {p : Prop} (h : p := by repeat (first | (with_reducible first | exact HB.out | apply ba | apply bd | apply be | refine bs ?_ (IsS81.ge HI0.out)) | exact HB.out)) : p := h
theorem spec_l1Cur_next.calls (g : Nat) (s0_0 : List Int) (s0_1 : Int) (s0_2 : Int) (r1 : Int) (r2 : Int) (r3 : Int) (w0 w : World) (hI : IsS81 w0 w g s0_0 s0_1 s0_2) (hB : Below w0.heap.size w0 w) (h : spec_l1Cur_next.f s0_0 s0_1 s0_2 = some (r1, r2, r3)) :
  Calls Tryz.prog 83 #[.pointer (some ⟨g, 0, none⟩)] w fun e w' => e = .returned (.int .i64 r1) ∧ IsS81 w0 w' g s0_0 r2 r3 ∧ Below w0.heap.size w0 w' ∧ KeepBut w w' g none := by
 have HI0 := Aside0.mk hI
 have HK := Aside0.mk (KeepBut.refl w g none)
 have HL := Aside0.mk hB.size
 clear hI
 have HW0 := Aside0.mk hB.size
 have HB := Aside0.mk hB
 clear hB
 have H := h
 unfold spec_l1Cur_next.f at H
 clear h
 by_cases c2 : s0_1 < (s0_0.length : Int)
 rotate_left
 ·rw [if_neg c2] at H
  have c2b0 : decide (s0_1 < (s0_0.length : Int)) = false := decide_eq_false c2
  clear c2
  by_cases c7 : (wrap64 (s0_1 + 1)) ≤ (s0_0.length : Int)
  ·rw [if_pos c7] at H
   have c7b0 := decide_eq_true c7
   clear c7
   simp only [Option.some.injEq, Prod.mk.injEq] at H
   obtain ⟨rfl, rfl, rfl⟩ := H
   obtain ⟨ASz8_0, cSz8_0, HGz8, hgz8, HSz8_0⟩ := HI0.out
   have hcz8_0 := cellS81_0 HGz8
   have hcz8_1 := cellS81_1 HGz8
   have hcz8_2 := cellS81_2 HGz8
   have hfz8_1 := blk_frozen HGz8 1
   have hfz8_2 := blk_frozen HGz8 2
   clear HGz8 hgz8
   go_enter Tryz.func83, Tryz.ntmps83
   go_wp2
   repeat (go_quiet (fail); try go_wp2)
   go_ret
   exact ⟨fR, wHI0_spec_l1Cur_next, wHB_spec_l1Cur_next, by repeat (first | (with_reducible first | exact HK.out | apply KeepBut.set_ | apply keep_drewN | apply keep_drew | apply keep_alloc) | exact HK.out)⟩
  rw [if_neg c7] at H
  have c7b0 : decide ((wrap64 (s0_1 + 1)) ≤ (s0_0.length : Int)) = false := decide_eq_false c7
  clear c7
  simp only [Option.some.injEq, Prod.mk.injEq] at H
  obtain ⟨rfl, rfl, rfl⟩ := H
  obtain ⟨ASz9_0, cSz9_0, HGz9, hgz9, HSz9_0⟩ := HI0.out
  have hcz9_0 := cellS81_0 HGz9
  have hcz9_1 := cellS81_1 HGz9
  have hcz9_2 := cellS81_2 HGz9
  have hfz9_1 := blk_frozen HGz9 1
  have hfz9_2 := blk_frozen HGz9 2
  clear HGz9 hgz9
  go_enter Tryz.func83, Tryz.ntmps83
  go_wp2
  repeat (go_quiet (fail); try go_wp2)
  go_ret
  exact ⟨fR, wHI0_spec_l1Cur_next, wHB_spec_l1Cur_next, by repeat (first | (with_reducible first | exact HK.out | apply KeepBut.set_ | apply keep_drewN | apply keep_drew | apply keep_alloc) | exact HK.out)⟩
 rw [if_pos c2] at H
 have c2b0 := decide_eq_true c2
 clear c2
 by_cases c3 : 0 ≤ s0_1
 rotate_left
 ·rw [if_neg c3] at H
  exact absurd H (by simp)
 rw [if_pos c3] at H
 have c3b0 := decide_eq_true c3
 clear c3
 by_cases c4 : (wrap64 (s0_1 + 1)) ≤ (s0_0.length : Int)
 ·rw [if_pos c4] at H
  have c4b0 := decide_eq_true c4
  clear c4
  simp only [Option.some.injEq, Prod.mk.injEq] at H
  obtain ⟨rfl, rfl, rfl⟩ := H
  obtain ⟨ASz5_0, cSz5_0, HGz5, hgz5, HSz5_0⟩ := HI0.out
  have hcz5_0 := cellS81_0 HGz5
  have hcz5_1 := cellS81_1 HGz5
  have hcz5_2 := cellS81_2 HGz5
  have hfz5_1 := blk_frozen HGz5 1
  have hfz5_2 := blk_frozen HGz5 2
  clear HGz5 hgz5
  have p101 : 0 ≤ (s0_1 : Int) := oD
  have q101 : s0_1 < (s0_0.length : Int) := oD
  obtain ⟨ad101, e101, hx101_0⟩ := Kd.at_int HSz5_0 s0_1 p101 q101
  cases e101
  replace hx101_0 := pw_cell_below HB.out hx101_0
  replace p101 := eq_true p101
  replace q101 := eq_true q101
  go_enter Tryz.func83, Tryz.ntmps83
  go_wp2
  repeat (go_quiet (fail); try go_wp2)
  go_ret
  exact ⟨fR, wHI0_spec_l1Cur_next, wHB_spec_l1Cur_next, by repeat (first | (with_reducible first | exact HK.out | apply KeepBut.set_ | apply keep_drewN | apply keep_drew | apply keep_alloc) | exact HK.out)⟩
 rw [if_neg c4] at H
 have c4b0 : decide ((wrap64 (s0_1 + 1)) ≤ (s0_0.length : Int)) = false := decide_eq_false c4
 clear c4
 simp only [Option.some.injEq, Prod.mk.injEq] at H
 obtain ⟨rfl, rfl, rfl⟩ := H
 obtain ⟨ASz6_0, cSz6_0, HGz6, hgz6, HSz6_0⟩ := HI0.out
 have hcz6_0 := cellS81_0 HGz6
 have hcz6_1 := cellS81_1 HGz6
 have hcz6_2 := cellS81_2 HGz6
 have hfz6_1 := blk_frozen HGz6 1
 have hfz6_2 := blk_frozen HGz6 2
 clear HGz6 hgz6
 have p101 : 0 ≤ (s0_1 : Int) := oD
 have q101 : s0_1 < (s0_0.length : Int) := oD
 obtain ⟨ad101, e101, hx101_0⟩ := Kd.at_int HSz6_0 s0_1 p101 q101
 cases e101
 replace hx101_0 := pw_cell_below HB.out hx101_0
 replace p101 := eq_true p101
 replace q101 := eq_true q101
 go_enter Tryz.func83, Tryz.ntmps83
 go_wp2
 repeat (go_quiet (fail); try go_wp2)
 go_ret
 exact ⟨fR, wHI0_spec_l1Cur_next, wHB_spec_l1Cur_next, by repeat (first | (with_reducible first | exact HK.out | apply KeepBut.set_ | apply keep_drewN | apply keep_drew | apply keep_alloc) | exact HK.out)⟩
def spec_l1Cur_pick.f (s0_0 : List Int) (s0_1 : Int) (s0_2 : Int) (a1 : Int) : Option (Int × Int × Int) := if a1 ≤ 1 then (some (0, s0_1, s0_2)) else ((spec_l1Cur_next.f s0_0 s0_1 s0_2).bind fun bt101 => (if a1 > 200 then ((spec_l1Cur_next.f s0_0 bt101.2.1 bt101.2.2).bind fun bt104 => (if a1 = 0 then (none) else (some (Int.tmod (wrap64 ((wrap64 (bt101.1 * 256)) + bt104.1)) a1, bt104.2.1, bt104.2.2)))) else (if a1 = 0 then (none) else (some (Int.tmod bt101.1 a1, bt101.2.1, bt101.2.2)))))
theorem wHI0_spec_l1Cur_pick {p : Prop} (h : p := by repeat (first | (with_reducible first | exact HI0.out | apply IsS81.alloc | apply IsS81.drewN | apply IsS81.drew | apply IsS81.set_1 | apply IsS81.set_2) | exact HI0.out)) : p := h
theorem wHB_spec_l1Cur_pick {p : Prop} (h : p := by repeat (first | (with_reducible first | exact HB.out | apply ba | apply bd | apply be | refine bs ?_ (IsS81.ge HI0.out)) | exact HB.out)) : p := h
theorem wHK_spec_l1Cur_pick {p : Prop} (h : p := by repeat (first | (with_reducible first | exact HK.out | apply KeepBut.set_ | apply keep_drewN | apply keep_drew | apply keep_alloc) | exact HK.out)) : p := h
theorem spec_l1Cur_pick.calls (g : Nat) (s0_0 : List Int) (s0_1 : Int) (s0_2 : Int) (a1 : Int) (r1 : Int) (r2 : Int) (r3 : Int) (w0 w : World) (hI : IsS81 w0 w g s0_0 s0_1 s0_2) (hB : Below w0.heap.size w0 w) (h : spec_l1Cur_pick.f s0_0 s0_1 s0_2 a1 = some (r1, r2, r3)) :
  Calls Tryz.prog 54 #[.pointer (some ⟨g, 0, none⟩), .int .i64 a1] w fun e w' => e = .returned (.int .i64 r1) ∧ IsS81 w0 w' g s0_0 r2 r3 ∧ Below w0.heap.size w0 w' ∧ KeepBut w w' g none := by
 have HI0 := Aside0.mk hI
 have HK := Aside0.mk (KeepBut.refl w g none)
 have HL := Aside0.mk hB.size
 clear hI
 have HW0 := Aside0.mk hB.size
 have HB := Aside0.mk hB
 clear hB
 have H := h
 unfold spec_l1Cur_pick.f at H
 clear h
 by_cases c3 : a1 ≤ 1
 ·rw [if_pos c3] at H
  have c3b0 := decide_eq_true c3
  clear c3
  simp only [Option.some.injEq, Prod.mk.injEq] at H
  obtain ⟨rfl, rfl, rfl⟩ := H
  go_enter Tryz.func54, Tryz.ntmps54
  go_wp2
  go_ret
  exact ⟨fR, wHI0_spec_l1Cur_pick, wHB_spec_l1Cur_pick, wHK_spec_l1Cur_pick⟩
 rw [if_neg c3] at H
 have c3b0 : decide (a1 ≤ 1) = false := decide_eq_false c3
 clear c3
 replace H := oB H
 obtain ⟨⟨t101, t102, t103⟩, A40, H⟩ := H
 replace H : (if a1 > 200 then ((spec_l1Cur_next.f s0_0 t102 t103).bind fun bt104 => (if a1 = 0 then (none) else (some (Int.tmod (wrap64 ((wrap64 (t101 * 256)) + bt104.1)) a1, bt104.2.1, bt104.2.2)))) else (if a1 = 0 then (none) else (some (Int.tmod t101 a1, t102, t103)))) = some (r1, r2, r3) := H
 have A4 := Aside0.mk A40
 clear A40
 by_cases c5 : a1 > 200
 rotate_left
 ·rw [if_neg c5] at H
  have c5b0 : decide (200 < a1) = false := decide_eq_false c5
  clear c5
  by_cases c10 : a1 = 0
  ·rw [if_pos c10] at H
   exact absurd H (by simp)
  rw [if_neg c10] at H
  have c10b0 : (a1 == 0) = false := beq_eq_false_iff_ne.mpr c10
  have c10b1 : (a1 != 0) = true := bne_iff_ne.mpr c10
  simp only [Option.some.injEq, Prod.mk.injEq] at H
  obtain ⟨rfl, rfl, rfl⟩ := H
  go_enter Tryz.func54, Tryz.ntmps54
  go_wp2_with (first | ((with_reducible refine gate_callee (f := 83) rfl ?_); refine gL 9 Tryz.func83 #[.pointer (some ⟨g, 0, none⟩)] ?_; (with_reducible refine (spec_l1Cur_next.calls g s0_0 s0_1 s0_2 t101 t102 t103 w0 _ ?side1 ?side2 A4.out).mono ?_); (case side1 => exact wHI0_spec_l1Cur_pick); (case side2 => exact wHB_spec_l1Cur_pick); rintro e w11 ⟨rfl, hi, hb, hk⟩; refine ⟨_, rfl, ?_⟩; have n0_ := Aside0.mk (KeepBut.trans (wHK_spec_l1Cur_pick) hk (.inl rfl)); have n1_ := Aside0.mk (hb); have n2_ := Aside0.mk (hi); clear HK; clear HB; clear HI0; have HK := n0_; have HB := n1_; have HI0 := n2_; clear n0_ n1_ n2_; (try clear hb); (try clear hb2); (try clear hk); (try clear hi)))
  go_ret
  exact ⟨fR, wHI0_spec_l1Cur_pick, wHB_spec_l1Cur_pick, wHK_spec_l1Cur_pick⟩
 rw [if_pos c5] at H
 have c5b0 : decide (200 < a1) = true := decide_eq_true c5
 clear c5
 replace H := oB H
 obtain ⟨⟨t104, t105, t106⟩, A60, H⟩ := H
 replace H : (if a1 = 0 then (none) else (some (Int.tmod (wrap64 ((wrap64 (t101 * 256)) + t104)) a1, t105, t106))) = some (r1, r2, r3) := H
 have A6 := Aside0.mk A60
 clear A60
 by_cases c7 : a1 = 0
 ·rw [if_pos c7] at H
  exact absurd H (by simp)
 rw [if_neg c7] at H
 have c7b0 : (a1 == 0) = false := beq_eq_false_iff_ne.mpr c7
 have c7b1 : (a1 != 0) = true := bne_iff_ne.mpr c7
 simp only [Option.some.injEq, Prod.mk.injEq] at H
 obtain ⟨rfl, rfl, rfl⟩ := H
 go_enter Tryz.func54, Tryz.ntmps54
 go_wp2_with (first | ((with_reducible refine gate_callee (f := 83) rfl ?_); refine gL 9 Tryz.func83 #[.pointer (some ⟨g, 0, none⟩)] ?_; (with_reducible refine (spec_l1Cur_next.calls g s0_0 s0_1 s0_2 t101 t102 t103 w0 _ ?side1 ?side2 A4.out).mono ?_); (case side1 => exact wHI0_spec_l1Cur_pick); (case side2 => exact wHB_spec_l1Cur_pick); rintro e w8 ⟨rfl, hi, hb, hk⟩; refine ⟨_, rfl, ?_⟩; have n0_ := Aside0.mk (KeepBut.trans (wHK_spec_l1Cur_pick) hk (.inl rfl)); have n1_ := Aside0.mk (hb); have n2_ := Aside0.mk (hi); clear HK; clear HB; clear HI0; have HK := n0_; have HB := n1_; have HI0 := n2_; clear n0_ n1_ n2_; (try clear hb); (try clear hb2); (try clear hk); (try clear hi)) | ((with_reducible refine gate_callee (f := 83) rfl ?_); refine gL 15 Tryz.func83 #[.pointer (some ⟨g, 0, none⟩)] ?_; (with_reducible refine (spec_l1Cur_next.calls g s0_0 t102 t103 t104 t105 t106 w0 _ ?side1 ?side2 A6.out).mono ?_); (case side1 => exact wHI0_spec_l1Cur_pick); (case side2 => exact wHB_spec_l1Cur_pick); rintro e w9 ⟨rfl, hi, hb, hk⟩; refine ⟨_, rfl, ?_⟩; have n0_ := Aside0.mk (KeepBut.trans (wHK_spec_l1Cur_pick) hk (.inl rfl)); have n1_ := Aside0.mk (hb); have n2_ := Aside0.mk (hi); clear HK; clear HB; clear HI0; have HK := n0_; have HB := n1_; have HI0 := n2_; clear n0_ n1_ n2_; (try clear hb); (try clear hb2); (try clear hk); (try clear hi)))
 go_ret
 exact ⟨fR, wHI0_spec_l1Cur_pick, wHB_spec_l1Cur_pick, wHK_spec_l1Cur_pick⟩
def spec_l1Cur_one.f (s0_0 : List Int) (s0_1 : Int) (s0_2 : Int) (a1 : Int) : Option (Bool × Int × Int) := (spec_l1Cur_pick.f s0_0 s0_1 s0_2 a1).bind fun bt101 => (some ((bt101.1 == 0), bt101.2.1, bt101.2.2))
theorem spec_l1Cur_one.calls (g : Nat) (s0_0 : List Int) (s0_1 : Int) (s0_2 : Int) (a1 : Int) (r1 : Bool) (r2 : Int) (r3 : Int) (w0 w : World) (hI : IsS81 w0 w g s0_0 s0_1 s0_2) (hB : Below w0.heap.size w0 w) (h : spec_l1Cur_one.f s0_0 s0_1 s0_2 a1 = some (r1, r2, r3)) :
  Calls Tryz.prog 55 #[.pointer (some ⟨g, 0, none⟩), .int .i64 a1] w fun e w' => e = .returned (.bool r1) ∧ IsS81 w0 w' g s0_0 r2 r3 ∧ Below w0.heap.size w0 w' ∧ KeepBut w w' g none := by
 have HI0 := Aside0.mk hI
 have HK := Aside0.mk (KeepBut.refl w g none)
 have HL := Aside0.mk hB.size
 clear hI
 have HW0 := Aside0.mk hB.size
 have HB := Aside0.mk hB
 clear hB
 have H := h
 unfold spec_l1Cur_one.f at H
 clear h
 replace H := oB H
 obtain ⟨⟨t101, t102, t103⟩, A30, H⟩ := H
 replace H : (some ((t101 == 0), t102, t103)) = some (r1, r2, r3) := H
 have A3 := Aside0.mk A30
 clear A30
 simp only [Option.some.injEq, Prod.mk.injEq] at H
 obtain ⟨rfl, rfl, rfl⟩ := H
 go_enter Tryz.func55, Tryz.ntmps55
 go_wp2_with (first | ((with_reducible refine gate_callee (f := 54) rfl ?_); refine gL 7 Tryz.func54 #[.pointer (some ⟨g, 0, none⟩), .int .i64 a1] ?_; (with_reducible refine (spec_l1Cur_pick.calls g s0_0 s0_1 s0_2 a1 t101 t102 t103 w0 _ ?side1 ?side2 A3.out).mono ?_); (case side1 => repeat (first | (with_reducible first | exact HI0.out | apply IsS81.alloc | apply IsS81.drewN | apply IsS81.drew | apply IsS81.set_1 | apply IsS81.set_2) | exact HI0.out)); (case side2 => repeat (first | (with_reducible first | exact HB.out | apply ba | apply bd | apply be | refine bs ?_ (IsS81.ge HI0.out)) | exact HB.out)); rintro e w4 ⟨rfl, hi, hb, hk⟩; refine ⟨_, rfl, ?_⟩; have n0_ := Aside0.mk (KeepBut.trans (by repeat (first | (with_reducible first | exact HK.out | apply KeepBut.set_ | apply keep_drewN | apply keep_drew | apply keep_alloc) | exact HK.out)) hk (.inl rfl)); have n1_ := Aside0.mk (hb); have n2_ := Aside0.mk (hi); clear HK; clear HB; clear HI0; have HK := n0_; have HB := n1_; have HI0 := n2_; clear n0_ n1_ n2_; (try clear hb); (try clear hb2); (try clear hk); (try clear hi)))
 go_ret
 exact ⟨fR, by repeat (first | (with_reducible first | exact HI0.out | apply IsS81.alloc | apply IsS81.drewN | apply IsS81.drew | apply IsS81.set_1 | apply IsS81.set_2) | exact HI0.out), by repeat (first | (with_reducible first | exact HB.out | apply ba | apply bd | apply be | refine bs ?_ (IsS81.ge HI0.out)) | exact HB.out), by repeat (first | (with_reducible first | exact HK.out | apply KeepBut.set_ | apply keep_drewN | apply keep_drew | apply keep_alloc) | exact HK.out)⟩
end Go.Proofs.YtaambkdiokbdgacGreatDoor.Q
namespace Go.Proofs.YtaambkdiokbdgacGreatDoor.Q
open Go.RowKit Go.Proofs.YtaambkdiokbdgacGreatDoorX Go.Proofs.YtaambkdiokbdgacGreatDoorY Go.Proofs.YtaambkdiokbdgacGreatDoorX Go.Proofs.YtaambkdiokbdgacGreatDoorW.PrintWords Go.Proofs.YtaambkdiokbdgacGreatDoorW.PrintLast Go.Proofs.YtaambkdiokbdgacGreatDoorW.PrintMore
attribute [local go_sem] max2_int min2_int max_two min_two max_three min_three max_four min_four   -- for this text's walks alone
set_option linter.unusedVariables false
set_option linter.unusedSimpArgs false
mutual
def spec_l1Cur_sureCommittee.l0 : Nat → Int → List Int → Int → Int → Int → List Int → Option (Int × List Int × Int × Int)
 | 0, _, _, _, _, _, _ => none
 | k + 1, x6, x1000, x1001, x1002, x103000, x103001 => if x6 > 0 then ((spec_l1Cur_pick.f x1000 x1001 x1002 7).bind fun bt106 => (if x103001.length < 17592186044416 then (spec_l1Cur_sureCommittee.l0 k (wrap64 (x6 - 1)) x1000 bt106.2.1 bt106.2.2 x103000 (x103001 ++ [bt106.1])) else (none))) else ((spec_voSum.f k x103001).bind fun t112 => (if t112 = 0 then (if 0 < (x103001.length : Int) then (spec_l1Cur_sureCommittee.j1 k x1000 x1001 x1002 x103000 (x103001.set (0 : Int).toNat 1)) else (none)) else (spec_l1Cur_sureCommittee.j1 k x1000 x1001 x1002 x103000 x103001)))
def spec_l1Cur_sureCommittee.j1 : Nat → List Int → Int → Int → Int → List Int → Option (Int × List Int × Int × Int)
 | 0, _, _, _, _, _ => none
 | k + 1, x1000, x1001, x1002, x103000, x103001 => (spec_voSum.f k x103001).bind fun t114 => ((spec_l1Cur_one.f x1000 x1001 x1002 2).bind fun bt115 => (if bt115.1 = true then ((spec_l1Cur_pick.f x1000 bt115.2.1 bt115.2.2 t114).bind fun bt118 => (some (wrap64 (1 + bt118.1), x103001, bt118.2.1, bt118.2.2))) else (some (wrap64 ((wrap64 (Int.tdiv t114 2)) + 1), x103001, bt115.2.1, bt115.2.2))))
end
def spec_l1Cur_sureCommittee.f (k : Nat) (s0_0 : List Int) (s0_1 : Int) (s0_2 : Int) (a1 : Int) : Option (Int × List Int × Int × Int) := (spec_l1Cur_pick.f s0_0 s0_1 s0_2 a1).bind fun bt103 => (spec_l1Cur_sureCommittee.l0 k (wrap64 (1 + bt103.1)) s0_0 bt103.2.1 bt103.2.2 0 ([] : List Int))
def spec_l1Cur_sureCommittee.T5 : Bool × List (List Nat × List Nat) := (true, [([], []), ([0], [0]), ([], []), ([2], [2]), ([3], [3]), ([1, 4, 3], [1, 4]), ([0, 1, 2, 3, 4, 5], []), ([6, 5, 5, 0, 1, 2, 3, 4, 5], [5, 6])])
def spec_l1Cur_sureCommittee.B5 : List Nat := [0, 1, 0, 4, 12, 31, 63, 127]
theorem spec_l1Cur_sureCommittee.tab5 : rtab .any (opsOf Tryz.f57 5) = spec_l1Cur_sureCommittee.T5 := by kernel_rfl
theorem spec_l1Cur_sureCommittee.bits5 : waitsOk spec_l1Cur_sureCommittee.T5.2 spec_l1Cur_sureCommittee.B5 = true := by kernel_rfl
theorem wHK_spec_l1Cur_sureCommittee {p : Prop} (h : p := by repeat (first | (with_reducible first | exact HK.out | apply KeepBut.set_ | apply keep_drewN | apply keep_drew | apply keep_alloc | refine keep_far ?_ GW101.out _ | refine keep_far ?_ GW102.out _) | exact HK.out)) : p := h
theorem wHI0_spec_l1Cur_sureCommittee {p : Prop} (h : p := by repeat (first | (with_reducible first | exact HI0.out | apply IsS81.alloc | apply IsS81.drewN | apply IsS81.drew | apply IsS81.set_1 | apply IsS81.set_2 | refine IsS81.far ?_ NB0_101.out _ | refine IsS81.far ?_ NB0_102.out _) | exact HI0.out)) : p := h
theorem wHB_spec_l1Cur_sureCommittee {p : Prop} (h : p := by repeat (first | (with_reducible first | exact HB.out | apply ba | apply bd | apply be | refine bs ?_ (IsS81.ge HI0.out) | refine bs ?_ GE101.out | refine bs ?_ GE102.out) | exact HB.out)) : p := h
theorem spec_l1Cur_sureCommittee.calls (k : Nat) (g : Nat) (s0_0 : List Int) (s0_1 : Int) (s0_2 : Int) (a1 : Int) (r1 : Int) (r2 : List Int) (r3 : Int) (r4 : Int) (w0 w : World) (hI : IsS81 w0 w g s0_0 s0_1 s0_2) (hB : Below w0.heap.size w0 w) (h : spec_l1Cur_sureCommittee.f k s0_0 s0_1 s0_2 a1 = some (r1, r2, r3, r4)) :
  Calls Tryz.prog 57 #[.pointer (some ⟨g, 0, none⟩), .int .i64 a1] w fun e w' => ∃ v1_ : Value, e = .returned (.agg #[.int .i64 r1, v1_]) ∧ Kd.R (Kd.int .i64) 3 w' w.heap.size (fun _ => True) v1_ r2 ∧ IsS81 w0 w' g s0_0 r3 r4 ∧ Below w0.heap.size w0 w' ∧ KeepBut w w' g none := by
 have hu24 := Tryz.underlying24
 have HI0 := Aside0.mk hI
 have HK := Aside0.mk (KeepBut.refl w g none)
 have HL := Aside0.mk hB.size
 clear hI
 have HW0 := Aside0.mk hB.size
 have HB := Aside0.mk hB
 clear hB
 have H := h
 unfold spec_l1Cur_sureCommittee.f at H
 clear h
 replace H := oB H
 obtain ⟨⟨t103, t104, t105⟩, A30, H⟩ := H
 (try dsimp only at H)
 have A3 := Aside0.mk A30
 clear A30
 have H' := Aside0.mk H
 clear H
 go_enter Tryz.func57, Tryz.ntmps57
 go_wp2_with (first | ((with_reducible refine gate_dst (N := 4) rfl ?_); refine xE (N := 4) (cs := #[.int .i64 0, .slice none 0 0]) (t := 24) ?_; intro gb101 hg w4 BK101 hb; have GW101 := Aside0.mk ((by rw [hg]; exact (keep_size (w := w) (g := g) (row := none) (wHK_spec_l1Cur_sureCommittee)) : w.heap.size ≤ gb101)); have GE101 := Aside0.mk ((Nat.le_trans HW0.out (by rw [hg]; exact (keep_size (w := w) (g := g) (row := none) (wHK_spec_l1Cur_sureCommittee)) : w.heap.size ≤ gb101) : w0.heap.size ≤ gb101)); have NB0_101 := Aside0.mk ((by rw [hg]; exact Nat.ne_of_lt (IsS81.lt (show IsS81 w0 _ g s0_0 s0_1 s0_2 from wHI0_spec_l1Cur_sureCommittee)) : g ≠ gb101)); have NB101_0 := Aside0.mk ((by rw [hg]; exact Nat.ne_of_gt (IsS81.lt (show IsS81 w0 _ g s0_0 s0_1 s0_2 from wHI0_spec_l1Cur_sureCommittee)) : gb101 ≠ g)); replace HK := Aside0.mk (KeepBut.trans (wHK_spec_l1Cur_sureCommittee) (KeepBut.of_below hb g none) (.inl rfl)); replace HB := Aside0.mk (below_step (wHB_spec_l1Cur_sureCommittee) hb); replace HI0 := Aside0.mk (IsS81.below (wHI0_spec_l1Cur_sureCommittee) hb); clear hb hg) | ((with_reducible refine gate_dst (N := 5) rfl ?_); refine xE (N := 5) (cs := #[.int .i64 0, .slice none 0 0]) (t := 24) ?_; intro gb102 hg w5 BK102 hb; have GW102 := Aside0.mk ((by rw [hg]; exact (keep_size (w := w) (g := g) (row := none) (wHK_spec_l1Cur_sureCommittee)) : w.heap.size ≤ gb102)); have GE102 := Aside0.mk ((Nat.le_trans HW0.out (by rw [hg]; exact (keep_size (w := w) (g := g) (row := none) (wHK_spec_l1Cur_sureCommittee)) : w.heap.size ≤ gb102) : w0.heap.size ≤ gb102)); have NB101_102 := nL hg (blk_lt BK101.out); have NB102_101 := nG hg (blk_lt BK101.out); have NB0_102 := Aside0.mk ((by rw [hg]; exact Nat.ne_of_lt (IsS81.lt (show IsS81 w0 _ g s0_0 s0_1 s0_2 from wHI0_spec_l1Cur_sureCommittee)) : g ≠ gb102)); have NB102_0 := Aside0.mk ((by rw [hg]; exact Nat.ne_of_gt (IsS81.lt (show IsS81 w0 _ g s0_0 s0_1 s0_2 from wHI0_spec_l1Cur_sureCommittee)) : gb102 ≠ g)); replace BK101 := bB BK101 hb; replace HK := Aside0.mk (KeepBut.trans (wHK_spec_l1Cur_sureCommittee) (KeepBut.of_below hb g none) (.inl rfl)); replace HB := Aside0.mk (below_step (wHB_spec_l1Cur_sureCommittee) hb); replace HI0 := Aside0.mk (IsS81.below (wHI0_spec_l1Cur_sureCommittee) hb); clear hb hg; have hnb6 := NB102_101.out; have hnc6 := NB101_102.out; have hnb7 := NB102_0.out; have hnc7 := NB0_102.out; obtain ⟨hcz8_0, hcz8_1, hfz8_0, hfz8_1⟩ := zZ BK102) | ((with_reducible refine gate_callee (f := 54) rfl ?_); refine gL 11 Tryz.func54 #[.pointer (some ⟨g, 0, none⟩), .int .i64 a1] ?_; (with_reducible refine (spec_l1Cur_pick.calls g s0_0 s0_1 s0_2 a1 t103 t104 t105 w0 _ ?side1 ?side2 A3.out).mono ?_); (case side1 => exact wHI0_spec_l1Cur_sureCommittee); (case side2 => exact wHB_spec_l1Cur_sureCommittee); rintro e w9 ⟨rfl, hi, hb, hk⟩; refine ⟨_, rfl, ?_⟩; replace BK101 := Aside0.mk (KeepBut.blk hk (g' := gb101) (o := .cells #[.int .i64 0, .slice none 0 0] 24 (0, 0)) (by refine blk_far ?_ NB101_102.out _; refine blk_far ?_ NB101_102.out _; exact BK101.out) NB101_0.out (by simp)); replace BK102 := Aside0.mk (KeepBut.blk hk (g' := gb102) (o := .cells #[.int .i64 0, .slice none 0 0] 24 (0, 0)) (by refine blk_put (cs := #[.int .i64 0, .slice none 0 0]) ?_ 1 _ rfl; refine blk_put (cs := #[.int .i64 0, .slice none 0 0]) ?_ 0 _ rfl; exact BK102.out) NB102_0.out (by simp)); replace HK := Aside0.mk (KeepBut.trans (wHK_spec_l1Cur_sureCommittee) hk (.inl rfl)); replace HB := Aside0.mk (hb); replace HI0 := Aside0.mk (hi); (try clear hb)))
 go_loopg [6] k (fun kq v6 w' => ∃ (x6_1 : Int) (x1001_1 : Int) (x1002_1 : Int) (x103001_1 : List Int) (u103001 : Value), v6 = .int .i64 x6_1 ∧ Aside0 (spec_l1Cur_sureCommittee.l0 kq x6_1 s0_0 x1001_1 x1002_1 0 x103001_1 = some (r1, r2, r3, r4)) ∧ Aside0 (kq ≤ k) ∧ Aside0 (Kd.R (Kd.int .i64) 3 w' w.heap.size (fun _ => True) u103001 x103001_1) ∧ Aside0 (w'.heap[gb101]? = some (.cells #[.int .i64 0, (.slice none 0 0)] 24 (0, 0))) ∧ Aside0 (w'.heap[gb102]? = some (.cells #[.int .i64 0, u103001] 24 (0, 0))) ∧ Aside0 (IsS81 w0 w' g s0_0 x1001_1 x1002_1) ∧ Aside0 (KeepBut w w' g none) ∧ Aside0 (Below w0.heap.size w0 w'))
 case atStart => exact ⟨(wrap64 (1 + t103)), (t104), (t105), (([] : List Int)), (.slice none 0 0), gR, H', ⟨Nat.le_refl _⟩, ⟨by first | exact Kd.R_nil _ _ _ _ _ | exact Kd.N_nil _ _ _ _ _ | exact Kd.V_nil _ _ _ _ _ | exact Kd.Q_nil _ _ _ _ _ | exact Kd.S_nil _ _ _ _ _⟩, ⟨by exact BK101.out⟩, ⟨by exact BK102.out⟩, ⟨wHI0_spec_l1Cur_sureCommittee⟩, ⟨wHK_spec_l1Cur_sureCommittee⟩, ⟨wHB_spec_l1Cur_sureCommittee⟩⟩
 case round =>
  clear H'
  (try clear p2); (try clear c5); (try clear c6); (try clear p6); (try clear c7); (try clear hcz8_0); (try clear hcz8_1); (try clear hfz8_0); (try clear hfz8_1)
  obtain ⟨x6_1, x1001_1, x1002_1, x103001_1, u103001, rfl, HA, HK1, HO_103001, BK101, BK102, HI0, HK, HB⟩ := hrel
  cases gk with
  | zero => exact absurd HA.out (by simp [spec_l1Cur_sureCommittee.l0])
  | succ k1 =>
   have H := HA.out
   clear HA
   simp only [spec_l1Cur_sureCommittee.l0] at H
   by_cases c10 : x6_1 > 0
   ·rw [if_pos c10] at H
    have c10b0 : decide (0 < x6_1) = true := decide_eq_true c10
    clear c10
    replace H := oB H
    obtain ⟨⟨t106, t107, t108⟩, A110, H⟩ := H
    (try dsimp only at H)
    have A11 := Aside0.mk A110
    clear A110
    by_cases c12 : x103001_1.length < 17592186044416
    rotate_left
    ·rw [if_neg c12] at H
     exact absurd H (by simp)
    rw [if_pos c12] at H
    have LMc12 := Aside0.mk c12
    clear c12
    obtain ⟨y109, hy109⟩ : ∃ y_ : List Int, y_ = (x103001_1 ++ [t106]) := ⟨_, rfl⟩
    replace H : (spec_l1Cur_sureCommittee.l0 k1 (wrap64 (x6_1 - 1)) s0_0 t107 t108 0 y109) = some (r1, r2, r3, r4) := by first | (rw [hy109]; with_reducible exact H) | (have H2_ := (Option.bind_some _ _).symm.trans H; rw [hy109]; with_reducible exact H2_) | (have H2_ := (Option.bind_some _ _).symm.trans H; with_reducible exact H2_) | with_reducible exact H | (rw [hy109]; exact H) | exact H
    have Ny109 := Aside0.mk hy109
    clear hy109
    have H' := Aside0.mk H
    clear H
    try go_wp2
    replace HO_103001 := rD HO_103001
    replace BK101 := bD BK101
    replace BK102 := bD BK102
    replace HI0 := Aside0.mk (IsS81.drew HI0.out)
    replace HK := Aside0.mk (keep_drew HK.out)
    replace HB := Aside0.mk (below_drew1 HB.out)
    refine start_ (n := 8) (S := fun w' => w'.cell? ⟨gb102, 0, none⟩ = some (.int .i64 0) ∧ w'.cell? ⟨gb102, 1, none⟩ = some (u103001)) (ds := [7]) #[F,F,F,F,F,F,F,F] (by kernel_rfl) rfl rfl ⟨(blk_cell BK102.out 0).trans rfl, (blk_cell BK102.out 1).trans rfl⟩ (fun hHeld => ?_); refine with_tabW spec_l1Cur_sureCommittee.tab5 spec_l1Cur_sureCommittee.bits5 (fun HT_ HW_ => ?_)
    generalize wr.drew = w13 at HO_103001 BK101 BK102 HI0 HK HB hHeld ⊢
    refine pU 0 HT_ ?_
    refine pU 2 HT_ ?_
    refine tK 1 HT_ HW_ hHeld (hy := by rintro w' ⟨s0, s1⟩; go_simp; with_reducible rfl) ?_
    refine oN 3 HT_ (fun K hK => ?_)
    refine gE Tryz.func54 #[.pointer (some ⟨g, 0, none⟩), .int .i64 7] ?_
    with_reducible refine (spec_l1Cur_pick.calls g s0_0 x1001_1 x1002_1 7 t106 t107 t108 w0 _ ?side1 ?side2 A11.out).mono ?_
    (case side1 => exact wHI0_spec_l1Cur_sureCommittee)
    (case side2 => exact wHB_spec_l1Cur_sureCommittee)
    rintro e w14 ⟨rfl, hi, hb, hk⟩
    refine ⟨_, rfl, ?_⟩
    replace HO_103001 := Aside0.mk (Kd.R_mono (Kd.R_keep (IsS81.apart (show IsS81 w0 _ g s0_0 x1001_1 x1002_1 from wHI0_spec_l1Cur_sureCommittee) HO_103001.out (by decide)) hk (fun _ h => h.2)) (fun _ h => h.1))
    replace BK101 := Aside0.mk (KeepBut.blk hk (g' := gb101) (o := .cells #[.int .i64 0, .slice none 0 0] 24 (0, 0)) BK101.out NB101_0.out (by simp))
    replace BK102 := Aside0.mk (KeepBut.blk hk (g' := gb102) (o := .cells #[.int .i64 0, u103001] 24 (0, 0)) BK102.out NB102_0.out (by simp))
    replace HK := Aside0.mk (KeepBut.trans (wHK_spec_l1Cur_sureCommittee) hk (.inl rfl))
    replace HB := Aside0.mk (hb)
    replace HI0 := Aside0.mk (hi)
    (try clear hb)
    (try clear hb2)
    (try clear hk)
    (try clear hi)
    refine hK.out _ _ ⟨(blk_cell BK102.out 0).trans rfl, (blk_cell BK102.out 1).trans rfl⟩ (fun hHeld => ?_)
    clear hK K
    refine nM ?_
    refine oN 4 HT_ (fun K hK => ?_)
    refine value_ (w1 := ?_) (v := ?_) (by rfl) rfl ?_ ?_
    rotate_left 2
    ·go_simp
     constructor
     ·rfl
     rfl
    refine hK.out _ _ ⟨(blk_cell (blk_alloc BK102.out _) 0).trans rfl, (blk_cell (blk_alloc BK102.out _) 1).trans rfl⟩ (fun hHeld => ?_)
    clear hK K
    refine nM ?_
    refine oN 5 HT_ (fun K hK => ?_)
    refine Kd.R_append_step (Kd.int .i64) w.heap.size (by rfl) (.tmp 18) (.tmp 21) 22 3 (.int .i64 0) 8 rfl Tryz.underlying22 info3 rfl (by decide) (by omega) u103001 x103001_1 t106 [.int .i64 t106] (fun _ => True) (fun _ => False) rfl rfl ?aP (fun _ hk => hk.elim) ?aF ?aO (Below.refl _ _) ?aS ?aL ?_
    (case aP => exact rfl)
    (case aF => exact (fun _ _ => trivial))
    (case aO => exact HO_103001.out)
    (case aS => exact (keep_size (w := w) (g := g) (row := none) (wHK_spec_l1Cur_sureCommittee)))
    (case aL => have := LMc12.out; omega)
    intro v110 w15 ho hb hg hat
    rw [← Ny109.out] at ho
    have HO111 := Aside0.mk (ho)
    replace BK101 := Aside0.mk (blk_grown (g := gb101) (o := .cells #[.int .i64 0, .slice none 0 0] 24 (0, 0)) BK101.out hg (Kd.R_ne HO_103001.out BK101.out (by decide)))
    replace BK102 := Aside0.mk (blk_grown (g := gb102) (o := .cells #[.int .i64 0, u103001] 24 (0, 0)) BK102.out hg (Kd.R_ne HO_103001.out BK102.out (by decide)))
    replace HB := Aside0.mk (below_weaken (wHB_spec_l1Cur_sureCommittee) HL.out hb)
    replace HI0 := Aside0.mk (IsS81.grown (wHI0_spec_l1Cur_sureCommittee) hg (IsS81.own_ne HI0.out HO_103001.out (by decide)))
    replace HK := Aside0.mk (KeepBut.trans (wHK_spec_l1Cur_sureCommittee) (KeepBut.of_grown hg g) (Kd.R_base2 HO_103001.out))
    clear ho hb hg hat
    obtain ⟨Ao16, co16, eo16⟩ := Kd.R_slice HO111.out
    (first | subst eo16 | (injection eo16 with f1_ f2_ f3_; have f4_ := f1_.symm; have f5_ := f3_.symm; clear f1_ f2_ f3_; subst f4_; subst f5_))
    refine hK.out _ _ ⟨(blk_cell BK102.out 0).trans rfl, (blk_cell BK102.out 1).trans rfl⟩ (fun hHeld => ?_)
    clear hK K
    refine nM ?_
    refine pU 6 HT_ ?_
    refine last_ (i := 7) (N := none) #[T,T,T,T,T,T,T,T] rfl rfl (one_of HT_.out (by kernel_rfl)) (by decide) (fun K hK => ?_)
    have hs17 : w15.cell? ⟨gb102, 1, none⟩ = some (u103001) := (blk_cell BK102.out 1).trans rfl
    have hfs17 := blk_frozen BK102.out 1
    have hns17_0 := NB101_102.out
    have hms17_0 := NB102_101.out
    refine skip_ (w1 := ?_) (by rfl) rfl ?_ ?_
    rotate_left
    ·go_simp
     rfl
    refine hK.out _ _ ?_
    clear hK K
    refine done_ (done_of HT_.out (by kernel_rfl)) ?_
    try go_wp2
    go_roundg k1
    case measure => have := HK1.out; omega
    case rel => exact ⟨(wrap64 (x6_1 - 1)), (t107), (t108), (y109), (.slice Ao16 y109.length co16), gR, H', ⟨by have := HK1.out; omega⟩, ⟨by exact Kd.R_mono (Kd.R_far (p := ⟨gb102, 1, none⟩) (Kd.R_types HO111.out BK102.out (by decide)) (fun _ hk => hk.2) (.slice Ao16 y109.length co16)) (fun _ hk => trivial)⟩, ⟨by refine blk_far ?_ NB101_102.out _; exact BK101.out⟩, ⟨by refine blk_put (cs := #[.int .i64 0, u103001]) ?_ 1 _ rfl; exact BK102.out⟩, ⟨wHI0_spec_l1Cur_sureCommittee⟩, ⟨wHK_spec_l1Cur_sureCommittee⟩, ⟨wHB_spec_l1Cur_sureCommittee⟩⟩
   rw [if_neg c10] at H
   have c10b0 : decide (0 < x6_1) = false := decide_eq_false c10
   clear c10
   replace H := oA H
   obtain ⟨t112, A18, H⟩ := H
   (try dsimp only at H)
   have HC19 := Aside0.mk H
   clear H
   have hnb20 := NB102_101.out
   have hnc20 := NB101_102.out
   have hnb21 := NB102_0.out
   have hnc21 := NB0_102.out
   obtain ⟨hcz22_0, hcz22_1, hfz22_0, hfz22_1⟩ := zZ BK102
   obtain ⟨Ao23, co23, eo23⟩ := Kd.R_slice HO_103001.out
   subst eo23
   go_upto_if 27 with (first | ((with_reducible refine gate_callee (f := 62) rfl ?_); refine gL 26 Tryz.func62 #[.slice Ao23 x103001_1.length co23] ?_; (with_reducible refine (spec_voSum.calls k1 _ _ x103001_1 t112 _ ?side1 ?side2 A18.out).mono ?_); (case side1 => have hx_ := (Kd.R_reads' HO_103001.out).2.2; exact cC); (case side2 => exact (Kd.R_reads' HO_103001.out).2.1); rintro e w' ⟨rfl, ⟨nd, rfl⟩⟩; refine ⟨_, rfl, ?_⟩; (try (rw [drewN_self wr]; generalize hq_ : World.drewN wr _ = wr; have n0_ : Aside0 (Kd.R (Kd.int .i64) 3 wr w.heap.size (fun _ => True) (.slice Ao23 x103001_1.length co23) x103001_1) := ⟨by rw [← hq_]; exact HO_103001.out⟩; have n1_ : Aside0 (wr.heap[gb101]? = some (.cells #[.int .i64 0, .slice none 0 0] 24 (0, 0))) := ⟨by rw [← hq_]; exact BK101.out⟩; have n2_ : Aside0 (wr.heap[gb102]? = some (.cells #[.int .i64 0, .slice Ao23 x103001_1.length co23] 24 (0, 0))) := ⟨by rw [← hq_]; exact BK102.out⟩; have n3_ : Aside0 (IsS81 w0 wr g s0_0 x1001_1 x1002_1) := ⟨by rw [← hq_]; exact (wHI0_spec_l1Cur_sureCommittee)⟩; have n4_ : Aside0 (KeepBut w wr g none) := ⟨by rw [← hq_]; exact (wHK_spec_l1Cur_sureCommittee)⟩; have n5_ : Aside0 (Below w0.heap.size w0 wr) := ⟨by rw [← hq_]; exact (wHB_spec_l1Cur_sureCommittee)⟩; clear HO_103001 BK101 BK102 HI0 HK HB hq_; have HO_103001 := n0_; have BK101 := n1_; have BK102 := n2_; have HI0 := n3_; have HK := n4_; have HB := n5_; clear n0_ n1_ n2_ n3_ n4_ n5_))))
   (try simp only [Act.put, sA, sZ, sS])
   go_cut [] (fun wc => ∃ (kq : Nat) (x103001_18 : List Int) (u103001 : Value), Aside0 (spec_l1Cur_sureCommittee.j1 kq s0_0 x1001_1 x1002_1 0 x103001_18 = some (r1, r2, r3, r4)) ∧ Aside0 (kq ≤ k1) ∧ Aside0 (Kd.R (Kd.int .i64) 3 wc w.heap.size (fun _ => True) u103001 x103001_18) ∧ Aside0 (wc.heap[gb101]? = some (.cells #[.int .i64 0, (.slice none 0 0)] 24 (0, 0))) ∧ Aside0 (wc.heap[gb102]? = some (.cells #[.int .i64 0, u103001] 24 (0, 0))) ∧ Aside0 (IsS81 w0 wc g s0_0 x1001_1 x1002_1) ∧ Aside0 (KeepBut w wc g none) ∧ Aside0 (Below w0.heap.size w0 wc))
   case first =>
    have H := HC19.out
    clear HC19
    by_cases c24 : t112 = 0
    rotate_left
    ·rw [if_neg c24] at H
     have c24b0 : (t112 == 0) = false := beq_eq_false_iff_ne.mpr c24
     have c24b1 : (t112 != 0) = true := bne_iff_ne.mpr c24
     (first | rw [c24b0] | (simp only [i64_w, i32_w]; rw [c24b0]) | skip)
     have H' := Aside0.mk H
     clear H
     go_wp2
     go_meet
     case rel => exact ⟨_, (x103001_1), (.slice Ao23 x103001_1.length co23), H', ⟨oN'⟩, ⟨by exact HO_103001.out⟩, ⟨by exact BK101.out⟩, ⟨by exact BK102.out⟩, ⟨wHI0_spec_l1Cur_sureCommittee⟩, ⟨wHK_spec_l1Cur_sureCommittee⟩, ⟨wHB_spec_l1Cur_sureCommittee⟩⟩
    rw [if_pos c24] at H
    have c24b0 : (t112 == 0) = true := beq_iff_eq.mpr c24
    have c24b1 : (t112 != 0) = false := bne_eq_false_iff_eq.mpr c24
    clear c24
    (first | rw [c24b0] | (simp only [i64_w, i32_w]; rw [c24b0]) | skip)
    by_cases c25 : 0 < (x103001_1.length : Int)
    rotate_left
    ·rw [if_neg c25] at H
     exact absurd H (by simp)
    rw [if_pos c25] at H
    have c25b0 := decide_eq_true c25
    have c25b1 : decide (0 < x103001_1.length) = true := decide_eq_true (by omega)
    clear c25
    obtain ⟨y113, hy113⟩ : ∃ y_ : List Int, y_ = (x103001_1.set (0 : Int).toNat 1) := ⟨_, rfl⟩
    replace H : (spec_l1Cur_sureCommittee.j1 k1 s0_0 x1001_1 x1002_1 0 y113) = some (r1, r2, r3, r4) := by first | (rw [hy113]; with_reducible exact H) | (have H2_ := (Option.bind_some _ _).symm.trans H; rw [hy113]; with_reducible exact H2_) | (have H2_ := (Option.bind_some _ _).symm.trans H; with_reducible exact H2_) | with_reducible exact H | (rw [hy113]; exact H) | exact H
    have Ny113 := Aside0.mk hy113
    clear hy113
    have H' := Aside0.mk H
    clear H
    have hnb27 := NB102_101.out
    have hnc27 := NB101_102.out
    have hnb28 := NB102_0.out
    have hnc28 := NB0_102.out
    obtain ⟨hcz29_0, hcz29_1, hfz29_0, hfz29_1⟩ := zZ BK102
    have p26 : 0 ≤ (0 : Int) := (by omega)
    have q26 : (0 : Int) < ((x103001_1.length : Int) : Int) := oD
    have qi26 : (0 < x103001_1.length) = True := eq_true (by omega)
    obtain ⟨go26, co26, eo26, gb26, gl26, cl26, HG26⟩ := Kd.R_form HO_103001.out (by omega)
    (first | cases eo26 | (injection eo26 with ea_ en_ ec_; (first | subst ea_ | (injection ea_ with ea_; subst ea_)); subst ec_; clear en_))
    have GB26 := Aside0.mk gb26
    have GG26 := Aside0.mk HG26
    clear gb26 gl26 HG26
    obtain ⟨hx26_0, hf26_0⟩ := Kd.R_celln 0 HO_103001.out (0 : Int) p26 q26
    (try rw [show ((0 : Int)).toNat = 0 from rfl] at hx26_0)
    (try simp only [Nat.reduceMul, Nat.zero_mul, Nat.zero_add, Nat.reduceAdd] at hx26_0)
    (try rw [show ((0 : Int)).toNat = 0 from rfl] at hf26_0)
    (try simp only [Nat.reduceMul, Nat.zero_mul, Nat.zero_add, Nat.reduceAdd] at hf26_0)
    replace p26 := eq_true p26
    replace q26 := eq_true q26
    have HP30 := Kd.R_putg HO_103001.out (0 : Int) 1
    go_wp2_with (first | ((with_reducible refine gate_store (t := 3) (p := 30) rfl ?_); refine sE (t := 3) (p := 30) (w1 := (wr.setCell ⟨go26, (0 : Int).toNat, none⟩ (.int .i64 1))) ?_; intro w31 hw; have hg : wr.grownBy w31 (some go26) := (by rw [hw]; exact HP30.2); have hp_ : Kd.R (Kd.int .i64) 3 w31 w.heap.size (fun _ => True) (.slice (some ⟨go26, 0, none⟩) x103001_1.length co23) y113 := (by rw [hw, Ny113.out]; exact HP30.1); clear HP30; replace BK101 := Aside0.mk (blk_grown (g := gb101) (o := .cells #[.int .i64 0, .slice none 0 0] 24 (0, 0)) BK101.out hg (Kd.R_ne HO_103001.out BK101.out (by decide))); replace BK102 := Aside0.mk (blk_grown (g := gb102) (o := .cells #[.int .i64 0, .slice (some ⟨go26, 0, none⟩) x103001_1.length co23] 24 (0, 0)) BK102.out hg (Kd.R_ne HO_103001.out BK102.out (by decide))); replace HI0 := Aside0.mk (IsS81.grown (wHI0_spec_l1Cur_sureCommittee) hg (IsS81.own_ne HI0.out HO_103001.out (by decide))); replace HB := Aside0.mk ((by rw [hw]; exact below_set (HB.out) (Nat.le_trans HL.out GB26.out) : Below w0.heap.size w0 w31)); replace HK := Aside0.mk (KeepBut.trans (wHK_spec_l1Cur_sureCommittee) (KeepBut.of_grown hg g) (Kd.R_base2 HO_103001.out)); replace HO_103001 := Aside0.mk (hp_); clear hg hw hp_))
    go_meet
    case rel => exact ⟨_, (y113), (.slice (some ⟨go26, 0, none⟩) x103001_1.length co23), H', ⟨oN'⟩, ⟨by exact HO_103001.out⟩, ⟨by exact BK101.out⟩, ⟨by exact BK102.out⟩, ⟨wHI0_spec_l1Cur_sureCommittee⟩, ⟨wHK_spec_l1Cur_sureCommittee⟩, ⟨wHB_spec_l1Cur_sureCommittee⟩⟩
   case rest =>
    clear HC19
    (try clear c1); (try clear c2); (try clear p2); (try clear q2); (try clear hx2); (try clear qi2); (try clear hf2); (try clear c5); (try clear c6); (try clear p6); (try clear c7); (try clear c10); (try clear c10b0); (try clear c12); (try clear c20); (try clear c21); (try clear c24); (try clear c24b0); (try clear c24b1); (try clear c25); (try clear c25b0); (try clear c25b1); (try clear p26); (try clear q26); (try clear hx26); (try clear qi26); (try clear hf26); (try clear c27); (try clear c28); (try clear hcz22_0); (try clear hcz22_1); (try clear hcz29_0); (try clear hcz29_1); (try clear hcz8_0); (try clear hcz8_1); (try clear hfz22_0); (try clear hfz22_1); (try clear hfz29_0); (try clear hfz29_1); (try clear hfz8_0); (try clear hfz8_1); (try clear hx26_0); (try clear p2); (try clear p26); (try clear p6); (try clear q26)
    obtain ⟨kq, x103001_18, u103001, HA, HJ18, HO_103001, BK101, BK102, HI0, HK, HB⟩ := hcut
    cases kq with
    | zero => exact absurd HA.out (by simp [spec_l1Cur_sureCommittee.j1])
    | succ kj18 =>
     have H := HA.out
     clear HA
     simp only [spec_l1Cur_sureCommittee.j1] at H
     replace H := oA H
     obtain ⟨t114, A32, H⟩ := H
     (try dsimp only at H)
     replace H := oB H
     obtain ⟨⟨t115, t116, t117⟩, A330, H⟩ := H
     (try dsimp only at H)
     have A33 := Aside0.mk A330
     clear A330
     by_cases c34 : t115 = true
     rotate_left
     ·replace c34 := Bool.eq_false_iff.mpr c34
      subst c34
      replace H := iF H
      simp only [Option.some.injEq, Prod.mk.injEq] at H
      obtain ⟨rfl, rfl, rfl, rfl⟩ := H
      have hnb45 := NB102_101.out
      have hnc45 := NB101_102.out
      have hnb46 := NB102_0.out
      have hnc46 := NB0_102.out
      (try clear hcz42_0 hcz42_1 hfz42_0 hfz42_1 hcz44_0 hcz44_1 hfz44_0 hfz44_1)
      obtain ⟨hcz47_0, hcz47_1, hfz47_0, hfz47_1⟩ := zZ BK102
      obtain ⟨Ao48, co48, eo48⟩ := Kd.R_slice HO_103001.out
      subst eo48
      go_wp2_with (first | ((with_reducible refine gate_callee (f := 62) rfl ?_); refine gL 33 Tryz.func62 #[.slice Ao48 x103001_18.length co48] ?_; (with_reducible refine (spec_voSum.calls kj18 _ _ x103001_18 t114 _ ?side1 ?side2 A32.out).mono ?_); (case side1 => have hx_ := (Kd.R_reads' HO_103001.out).2.2; exact cC); (case side2 => exact (Kd.R_reads' HO_103001.out).2.1); rintro e w' ⟨rfl, ⟨nd, rfl⟩⟩; refine ⟨_, rfl, ?_⟩) | ((with_reducible refine gate_callee (f := 55) rfl ?_); refine gL 39 Tryz.func55 #[.pointer (some ⟨g, 0, none⟩), .int .i64 2] ?_; (with_reducible refine (spec_l1Cur_one.calls g s0_0 x1001_1 x1002_1 2 false t116 t117 w0 _ ?side1 ?side2 A33.out).mono ?_); (case side1 => exact wHI0_spec_l1Cur_sureCommittee); (case side2 => exact wHB_spec_l1Cur_sureCommittee); rintro e w49 ⟨rfl, hi, hb, hk⟩; refine ⟨_, rfl, ?_⟩; replace HO_103001 := Aside0.mk (Kd.R_mono (Kd.R_keep (IsS81.apart (show IsS81 w0 _ g s0_0 x1001_1 x1002_1 from wHI0_spec_l1Cur_sureCommittee) (by (with_reducible repeat (first | apply qA | apply qN | apply qD)); exact (Kd.R_mono (Kd.R_far (p := ⟨gb102, 0, none⟩) (Kd.R_types HO_103001.out BK102.out (by decide)) (fun _ hk => hk.2) (.int .i64 (wrap64 ((wrap64 (Int.tdiv t114 2)) + 1)))) (fun _ h_ => h_.1))) (by decide)) hk (fun _ h => h.2)) (fun _ h => h.1)); replace BK101 := Aside0.mk (KeepBut.blk hk (g' := gb101) (o := .cells #[.int .i64 0, .slice none 0 0] 24 (0, 0)) (by (with_reducible repeat (first | refine kN ?_ _ | refine kD ?_ | refine kA ?_ _)); refine blk_far ?_ NB101_102.out _; (with_reducible repeat (first | refine kN ?_ _ | refine kD ?_ | refine kA ?_ _)); exact BK101.out) NB101_0.out (by simp)); replace BK102 := Aside0.mk (KeepBut.blk hk (g' := gb102) (o := .cells #[.int .i64 (wrap64 ((wrap64 (Int.tdiv t114 2)) + 1)), .slice Ao48 x103001_18.length co48] 24 (0, 0)) (by (with_reducible repeat (first | refine kN ?_ _ | refine kD ?_ | refine kA ?_ _)); refine blk_put (cs := #[.int .i64 0, .slice Ao48 x103001_18.length co48]) ?_ 0 _ rfl; (with_reducible repeat (first | refine kN ?_ _ | refine kD ?_ | refine kA ?_ _)); exact BK102.out) NB102_0.out (by simp)); replace HK := Aside0.mk (KeepBut.trans (wHK_spec_l1Cur_sureCommittee) hk (.inl rfl)); replace HB := Aside0.mk (hb); replace HI0 := Aside0.mk (hi); (try clear hb); (try clear hcz47_0 hcz47_1 hfz47_0 hfz47_1); obtain ⟨hcz50_0, hcz50_1, hfz50_0, hfz50_1⟩ := zZ BK102; have hnb51 := NB101_0.out; have hnc51 := NB0_101.out; obtain ⟨hcz52_0, hcz52_1, hfz52_0, hfz52_1⟩ := zZ BK101))
      refine bodyPost_ret (results_cell_row rfl _ _ gb101 24 #[.int .i64 (wrap64 ((wrap64 (Int.tdiv t114 2)) + 1)), .slice Ao48 x103001_18.length co48] (0, 0) _ rfl (by (with_reducible repeat (first | refine kN ?_ _ | refine kD ?_ | refine kA ?_ _)); refine blk_put (cs := #[.int .i64 (wrap64 ((wrap64 (Int.tdiv t114 2)) + 1)), .slice none 0 0]) ?_ 1 _ rfl; (with_reducible repeat (first | refine kN ?_ _ | refine kD ?_ | refine kA ?_ _)); refine blk_put (cs := #[.int .i64 0, .slice none 0 0]) ?_ 0 _ rfl; (with_reducible repeat (first | refine kN ?_ _ | refine kD ?_ | refine kA ?_ _)); exact BK101.out) Tryz.underlying24 rfl (by kernel_rfl)) rfl ?_
      exact ⟨_, fR, by (with_reducible repeat (first | apply qA | apply qN | apply qD)); exact Kd.R_mono (Kd.R_far (p := ⟨gb101, 1, none⟩) (Kd.R_far (p := ⟨gb101, 0, none⟩) (Kd.R_types HO_103001.out BK101.out (by decide)) (fun _ hk => hk.2) (.int .i64 (wrap64 ((wrap64 (Int.tdiv t114 2)) + 1)))) (fun _ hk => hk.2) (.slice Ao48 x103001_18.length co48)) (fun _ hk => trivial), wHI0_spec_l1Cur_sureCommittee, wHB_spec_l1Cur_sureCommittee, wHK_spec_l1Cur_sureCommittee⟩
     subst c34
     replace H := iT H
     replace H := oB H
     obtain ⟨⟨t118, t119, t120⟩, A350, H⟩ := H
     (try dsimp only at H)
     have A35 := Aside0.mk A350
     clear A350
     simp only [Option.some.injEq, Prod.mk.injEq] at H
     obtain ⟨rfl, rfl, rfl, rfl⟩ := H
     have hnb36 := NB102_101.out
     have hnc36 := NB101_102.out
     have hnb37 := NB102_0.out
     have hnc37 := NB0_102.out
     obtain ⟨hcz38_0, hcz38_1, hfz38_0, hfz38_1⟩ := zZ BK102
     obtain ⟨Ao39, co39, eo39⟩ := Kd.R_slice HO_103001.out
     subst eo39
     go_wp2_with (first | ((with_reducible refine gate_callee (f := 62) rfl ?_); refine gL 33 Tryz.func62 #[.slice Ao39 x103001_18.length co39] ?_; (with_reducible refine (spec_voSum.calls kj18 _ _ x103001_18 t114 _ ?side1 ?side2 A32.out).mono ?_); (case side1 => have hx_ := (Kd.R_reads' HO_103001.out).2.2; exact cC); (case side2 => exact (Kd.R_reads' HO_103001.out).2.1); rintro e w' ⟨rfl, ⟨nd, rfl⟩⟩; refine ⟨_, rfl, ?_⟩) | ((with_reducible refine gate_callee (f := 55) rfl ?_); refine gL 39 Tryz.func55 #[.pointer (some ⟨g, 0, none⟩), .int .i64 2] ?_; (with_reducible refine (spec_l1Cur_one.calls g s0_0 x1001_1 x1002_1 2 true t116 t117 w0 _ ?side1 ?side2 A33.out).mono ?_); (case side1 => exact wHI0_spec_l1Cur_sureCommittee); (case side2 => exact wHB_spec_l1Cur_sureCommittee); rintro e w40 ⟨rfl, hi, hb, hk⟩; refine ⟨_, rfl, ?_⟩; replace HO_103001 := Aside0.mk (Kd.R_mono (Kd.R_keep (IsS81.apart (show IsS81 w0 _ g s0_0 x1001_1 x1002_1 from wHI0_spec_l1Cur_sureCommittee) (by (with_reducible repeat (first | apply qA | apply qN | apply qD)); exact (Kd.R_mono (Kd.R_far (p := ⟨gb102, 0, none⟩) (Kd.R_types HO_103001.out BK102.out (by decide)) (fun _ hk => hk.2) (.int .i64 (wrap64 ((wrap64 (Int.tdiv t114 2)) + 1)))) (fun _ h_ => h_.1))) (by decide)) hk (fun _ h => h.2)) (fun _ h => h.1)); replace BK101 := Aside0.mk (KeepBut.blk hk (g' := gb101) (o := .cells #[.int .i64 0, .slice none 0 0] 24 (0, 0)) (by (with_reducible repeat (first | refine kN ?_ _ | refine kD ?_ | refine kA ?_ _)); refine blk_far ?_ NB101_102.out _; (with_reducible repeat (first | refine kN ?_ _ | refine kD ?_ | refine kA ?_ _)); exact BK101.out) NB101_0.out (by simp)); replace BK102 := Aside0.mk (KeepBut.blk hk (g' := gb102) (o := .cells #[.int .i64 (wrap64 ((wrap64 (Int.tdiv t114 2)) + 1)), .slice Ao39 x103001_18.length co39] 24 (0, 0)) (by (with_reducible repeat (first | refine kN ?_ _ | refine kD ?_ | refine kA ?_ _)); refine blk_put (cs := #[.int .i64 0, .slice Ao39 x103001_18.length co39]) ?_ 0 _ rfl; (with_reducible repeat (first | refine kN ?_ _ | refine kD ?_ | refine kA ?_ _)); exact BK102.out) NB102_0.out (by simp)); replace HK := Aside0.mk (KeepBut.trans (wHK_spec_l1Cur_sureCommittee) hk (.inl rfl)); replace HB := Aside0.mk (hb); replace HI0 := Aside0.mk (hi); (try clear hb)) | ((with_reducible refine gate_callee (f := 54) rfl ?_); refine gL 42 Tryz.func54 #[.pointer (some ⟨g, 0, none⟩), .int .i64 t114] ?_; (with_reducible refine (spec_l1Cur_pick.calls g s0_0 t116 t117 t114 t118 t119 t120 w0 _ ?side1 ?side2 A35.out).mono ?_); (case side1 => exact wHI0_spec_l1Cur_sureCommittee); (case side2 => exact wHB_spec_l1Cur_sureCommittee); rintro e w41 ⟨rfl, hi, hb, hk⟩; refine ⟨_, rfl, ?_⟩; replace HO_103001 := Aside0.mk (Kd.R_mono (Kd.R_keep (IsS81.apart (show IsS81 w0 _ g s0_0 t116 t117 from wHI0_spec_l1Cur_sureCommittee) (rQ HO_103001) (by decide)) hk (fun _ h => h.2)) (fun _ h => h.1)); replace BK101 := Aside0.mk (KeepBut.blk hk (g' := gb101) (o := .cells #[.int .i64 0, .slice none 0 0] 24 (0, 0)) (bQ BK101) NB101_0.out (by simp)); replace BK102 := Aside0.mk (KeepBut.blk hk (g' := gb102) (o := .cells #[.int .i64 (wrap64 ((wrap64 (Int.tdiv t114 2)) + 1)), .slice Ao39 x103001_18.length co39] 24 (0, 0)) (bQ BK102) NB102_0.out (by simp)); replace HK := Aside0.mk (KeepBut.trans (wHK_spec_l1Cur_sureCommittee) hk (.inl rfl)); replace HB := Aside0.mk (hb); replace HI0 := Aside0.mk (hi); (try clear hb); (try clear hcz38_0 hcz38_1 hfz38_0 hfz38_1); obtain ⟨hcz42_0, hcz42_1, hfz42_0, hfz42_1⟩ := zZ BK102; have hnb43 := NB101_0.out; have hnc43 := NB0_101.out; obtain ⟨hcz44_0, hcz44_1, hfz44_0, hfz44_1⟩ := zZ BK101))
     refine bodyPost_ret (results_cell_row rfl _ _ gb101 24 #[.int .i64 (wrap64 (1 + t118)), .slice Ao39 x103001_18.length co39] (0, 0) _ rfl (by (with_reducible repeat (first | refine kN ?_ _ | refine kD ?_ | refine kA ?_ _)); refine blk_put (cs := #[.int .i64 (wrap64 (1 + t118)), .slice none 0 0]) ?_ 1 _ rfl; (with_reducible repeat (first | refine kN ?_ _ | refine kD ?_ | refine kA ?_ _)); refine blk_put (cs := #[.int .i64 0, .slice none 0 0]) ?_ 0 _ rfl; (with_reducible repeat (first | refine kN ?_ _ | refine kD ?_ | refine kA ?_ _)); refine blk_far ?_ NB101_102.out _; (with_reducible repeat (first | refine kN ?_ _ | refine kD ?_ | refine kA ?_ _)); exact BK101.out) Tryz.underlying24 rfl (by kernel_rfl)) rfl ?_
     exact ⟨_, fR, by (with_reducible repeat (first | apply qA | apply qN | apply qD)); exact Kd.R_mono (Kd.R_far (p := ⟨gb101, 1, none⟩) (Kd.R_far (p := ⟨gb101, 0, none⟩) (Kd.R_far (p := ⟨gb102, 0, none⟩) (Kd.R_types (Kd.R_types HO_103001.out BK102.out (by decide)) BK101.out (by decide)) (fun _ hk => hk.1.2) (.int .i64 (wrap64 (1 + t118)))) (fun _ hk => hk.2) (.int .i64 (wrap64 (1 + t118)))) (fun _ hk => hk.2) (.slice Ao39 x103001_18.length co39)) (fun _ hk => trivial), wHI0_spec_l1Cur_sureCommittee, wHB_spec_l1Cur_sureCommittee, wHK_spec_l1Cur_sureCommittee⟩
end Go.Proofs.YtaambkdiokbdgacGreatDoor.Q
namespace Go.Proofs.YtaambkdiokbdgacGreatDoor.Q
open Go.RowKit Go.Proofs.YtaambkdiokbdgacGreatDoorX Go.Proofs.YtaambkdiokbdgacGreatDoorY Go.Proofs.YtaambkdiokbdgacGreatDoorW.PrintWords Go.Proofs.YtaambkdiokbdgacGreatDoorW.PrintLast Go.Proofs.YtaambkdiokbdgacGreatDoorW.PrintMore
attribute [local go_sem] max2_int min2_int max_two min_two max_three min_three max_four min_four   -- for this text's walks alone
set_option linter.unusedVariables false
set_option linter.unusedSimpArgs false
def spec_l1Cur_among.f (s0_0 : List Int) (s0_1 : Int) (s0_2 : Int) (l1 : List Int) : Option (Int × Int × Int) := (spec_l1Cur_pick.f s0_0 s0_1 s0_2 (l1.length : Int)).bind fun bt101 => (if 0 ≤ bt101.1 then (if bt101.1 < (l1.length : Int) then (some (rd l1 bt101.1, bt101.2.1, bt101.2.2)) else (none)) else (none))
theorem spec_l1Cur_among.calls (g : Nat) (s0_0 : List Int) (s0_1 : Int) (s0_2 : Int) (A1 : Option Addr) (c1 : Nat) (l1 : List Int) (r1 : Int) (r2 : Int) (r3 : Int) (w0 w : World) (hI : IsS81 w0 w g s0_0 s0_1 s0_2) (hB : Below w0.heap.size w0 w) (hr1 : Kd.C (Kd.int .i64) w A1 l1.length l1) (hc1 : l1.length ≤ c1) (hf1 : ∀ ad, A1 = some ad → 0 < l1.length → ad.block ≠ g) (h : spec_l1Cur_among.f s0_0 s0_1 s0_2 l1 = some (r1, r2, r3)) :
  Calls Tryz.prog 82 #[.pointer (some ⟨g, 0, none⟩), .slice A1 l1.length c1] w fun e w' => e = .returned (.int .i64 r1) ∧ IsS81 w0 w' g s0_0 r2 r3 ∧ Below w0.heap.size w0 w' ∧ KeepBut w w' g none := by
 have HR1 := Aside0.mk hr1
 have HC1 := Aside0.mk hc1
 clear hr1 hc1
 have HI0 := Aside0.mk hI
 have HK := Aside0.mk (KeepBut.refl w g none)
 have HL := Aside0.mk hB.size
 clear hI
 have HW0 := Aside0.mk hB.size
 have HB := Aside0.mk hB
 clear hB
 have H := h
 unfold spec_l1Cur_among.f at H
 clear h
 replace H := oB H
 obtain ⟨⟨t101, t102, t103⟩, A30, H⟩ := H
 replace H : (if 0 ≤ t101 then (if t101 < (l1.length : Int) then (some (rd l1 t101, t102, t103)) else (none)) else (none)) = some (r1, r2, r3) := H
 have A3 := Aside0.mk A30
 clear A30
 by_cases c4 : 0 ≤ t101
 rotate_left
 ·rw [if_neg c4] at H
  exact absurd H (by simp)
 rw [if_pos c4] at H
 have c4b0 := decide_eq_true c4
 clear c4
 by_cases c5 : t101 < (l1.length : Int)
 rotate_left
 ·rw [if_neg c5] at H
  exact absurd H (by simp)
 rw [if_pos c5] at H
 have c5b0 := decide_eq_true c5
 clear c5
 simp only [Option.some.injEq, Prod.mk.injEq] at H
 obtain ⟨rfl, rfl, rfl⟩ := H
 go_enter Tryz.func82, Tryz.ntmps82
 go_wp2_with (first | ((with_reducible refine gate_callee (f := 54) rfl ?_); refine gL 9 Tryz.func54 #[.pointer (some ⟨g, 0, none⟩), .int .i64 (l1.length : Int)] ?_; (with_reducible refine (spec_l1Cur_pick.calls g s0_0 s0_1 s0_2 (l1.length : Int) t101 t102 t103 w0 _ ?side1 ?side2 A3.out).mono ?_); (case side1 => repeat (first | (with_reducible first | exact HI0.out | apply IsS81.alloc | apply IsS81.drewN | apply IsS81.drew | apply IsS81.set_1 | apply IsS81.set_2) | exact HI0.out)); (case side2 => repeat (first | (with_reducible first | exact HB.out | apply ba | apply bd | apply be | refine bs ?_ (IsS81.ge HI0.out)) | exact HB.out)); rintro e w6 ⟨rfl, hi, hb, hk⟩; refine ⟨_, rfl, ?_⟩; have n0_ := Aside0.mk (KeepBut.trans (by repeat (first | (with_reducible first | exact HK.out | apply KeepBut.set_ | apply keep_drewN | apply keep_drew | apply keep_alloc) | exact HK.out)) hk (.inl rfl)); have n1_ := Aside0.mk (hb); have n2_ := Aside0.mk (hi); clear HK; clear HB; clear HI0; have HK := n0_; have HB := n1_; have HI0 := n2_; clear n0_ n1_ n2_; (try clear hb); (try clear hb2); (try clear hk); (try clear hi); have p104 : 0 ≤ (t101 : Int) := oD; have q104 : t101 < (l1.length : Int) := oD; obtain ⟨ad104, e104, hx104_0⟩ := Kd.at_int HR1.out t101 p104 q104; cases e104; replace hx104_0 := keep_cell HK.out hx104_0 (by first | (rw [add_block]; exact hf1 _ rfl (by omega)) | exact hf1 _ rfl (by omega) | exact hf1 ad104 rfl (by omega)); replace p104 := eq_true p104; replace q104 := eq_true q104))
 go_ret
 exact ⟨fR, by repeat (first | (with_reducible first | exact HI0.out | apply IsS81.alloc | apply IsS81.drewN | apply IsS81.drew | apply IsS81.set_1 | apply IsS81.set_2) | exact HI0.out), by repeat (first | (with_reducible first | exact HB.out | apply ba | apply bd | apply be | refine bs ?_ (IsS81.ge HI0.out)) | exact HB.out), by repeat (first | (with_reducible first | exact HK.out | apply KeepBut.set_ | apply keep_drewN | apply keep_drew | apply keep_alloc) | exact HK.out)⟩
end Go.Proofs.YtaambkdiokbdgacGreatDoor.Q
namespace Go.Proofs.YtaambkdiokbdgacGreatDoor.Q
open Go.RowKit Go.Proofs.YtaambkdiokbdgacGreatDoorX Go.Proofs.YtaambkdiokbdgacGreatDoorY Go.Proofs.YtaambkdiokbdgacGreatDoorX Go.Proofs.YtaambkdiokbdgacGreatDoorW.PrintWords Go.Proofs.YtaambkdiokbdgacGreatDoorW.PrintLast Go.Proofs.YtaambkdiokbdgacGreatDoorW.PrintMore
attribute [local go_sem] max2_int min2_int max_two min_two max_three min_three max_four min_four   -- for this text's walks alone
set_option linter.unusedVariables false
set_option linter.unusedSimpArgs false
def spec_l1Cur_committee.l0 : Nat → List Int → Int → Int → Int → List Int → Option (Int × List Int × Int × Int)
 | 0, _, _, _, _, _ => none
 | k + 1, x1000, x1001, x1002, x109000, x109001 => (spec_l1Cur_pick.f x1000 x1001 x1002 2).bind fun bt127 => (if (x109001.length : Int) < (wrap64 (9 + bt127.1)) then (if x109001.length < 17592186044416 then (spec_l1Cur_committee.l0 k x1000 bt127.2.1 bt127.2.2 x109000 (x109001 ++ [1])) else (none)) else (some (x109000, x109001, bt127.2.1, bt127.2.2)))
def spec_l1Cur_committee.f (k : Nat) (s0_0 : List Int) (s0_1 : Int) (s0_2 : Int) (a1 : Int) : Option (Int × List Int × Int × Int) := (spec_l1Cur_sureCommittee.f k s0_0 s0_1 s0_2 a1).bind fun bt102 => ((spec_l1Cur_pick.f s0_0 bt102.2.2.1 bt102.2.2.2 16).bind fun bt109 => (if bt109.1 = 0 then ((spec_voSum.f k bt102.2.1).bind fun t112 => ((spec_voSum.f k bt102.2.1).bind fun t113 => ((spec_l1Cur_among.f s0_0 bt109.2.1 bt109.2.2 (([(-1), 0, 1, t112, wrap64 (t113 + 1), 4611686018427387904] : List Int))).bind fun bt117 => (some (bt117.1, bt102.2.1, bt117.2.1, bt117.2.2))))) else (if bt109.1 = 1 then ((spec_l1Cur_among.f s0_0 bt109.2.1 bt109.2.2 (([(-1), 0, 1000, 1001, 4611686018427387904] : List Int))).bind fun bt123 => (if 0 < (bt102.2.1.length : Int) then (some (bt102.1, (bt102.2.1.set (0 : Int).toNat bt123.1), bt123.2.1, bt123.2.2)) else (none))) else (if bt109.1 = 2 then (spec_l1Cur_committee.l0 k s0_0 bt109.2.1 bt109.2.2 bt102.1 bt102.2.1) else (if bt109.1 = 3 then (some (1, ([] : List Int), bt109.2.1, bt109.2.2)) else (some (bt102.1, bt102.2.1, bt109.2.1, bt109.2.2)))))))
def spec_l1Cur_committee.T4 : Bool × List (List Nat × List Nat) := (true, [([], []), ([], []), ([1], [1]), ([2], [2]), ([], []), ([4], [4]), ([5, 3], [5]), ([6], [6]), ([3, 7], [3, 7]), ([0, 8, 6], [0, 8]), ([0, 1, 2, 3, 4, 5, 6, 7, 8, 9], []), ([10, 9, 9, 0, 1, 2, 3, 4, 5, 6, 7, 8, 9], [9, 10])])
def spec_l1Cur_committee.B4 : List Nat := [0, 0, 2, 6, 0, 16, 62, 126, 254, 511, 1023, 2047]
theorem spec_l1Cur_committee.tab4 : rtab .any (opsOf Tryz.f52 4) = spec_l1Cur_committee.T4 := by kernel_rfl
theorem spec_l1Cur_committee.bits4 : waitsOk spec_l1Cur_committee.T4.2 spec_l1Cur_committee.B4 = true := by kernel_rfl
theorem wHK_spec_l1Cur_committee {p : Prop} (h : p := by repeat (first | (with_reducible first | exact HK.out | apply KeepBut.set_ | apply keep_drewN | apply keep_drew | apply keep_alloc | refine keep_far ?_ GW101.out _ | refine keep_far ?_ GW108.out _ | refine keep_far ?_ GB29.out _) | exact HK.out)) : p := h
theorem wHI0_spec_l1Cur_committee {p : Prop} (h : p := by repeat (first | (with_reducible first | exact HI0.out | apply IsS81.alloc | apply IsS81.drewN | apply IsS81.drew | apply IsS81.set_1 | apply IsS81.set_2 | refine IsS81.far ?_ NB0_101.out _ | refine IsS81.far ?_ NB0_108.out _ | refine IsS81.far ?_ HN0_go29.out _) | exact HI0.out)) : p := h
theorem wHB_spec_l1Cur_committee {p : Prop} (h : p := by repeat (first | (with_reducible first | exact HB.out | apply ba | apply bd | apply be | refine bs ?_ (IsS81.ge HI0.out) | refine bs ?_ GE101.out | refine bs ?_ GE108.out | refine bs ?_ (Nat.le_trans HL.out GB29.out)) | exact HB.out)) : p := h
theorem spec_l1Cur_committee.calls (k : Nat) (g : Nat) (s0_0 : List Int) (s0_1 : Int) (s0_2 : Int) (a1 : Int) (r1 : Int) (r2 : List Int) (r3 : Int) (r4 : Int) (w0 w : World) (hI : IsS81 w0 w g s0_0 s0_1 s0_2) (hB : Below w0.heap.size w0 w) (h : spec_l1Cur_committee.f k s0_0 s0_1 s0_2 a1 = some (r1, r2, r3, r4)) :
  Calls Tryz.prog 52 #[.pointer (some ⟨g, 0, none⟩), .int .i64 a1] w fun e w' => ∃ v1_ : Value, e = .returned (.agg #[.int .i64 r1, v1_]) ∧ Kd.R (Kd.int .i64) 3 w' w.heap.size (fun _ => True) v1_ r2 ∧ IsS81 w0 w' g s0_0 r3 r4 ∧ Below w0.heap.size w0 w' ∧ KeepBut w w' g none := by
 have hu24 := Tryz.underlying24
 have HI0 := Aside0.mk hI
 have HK := Aside0.mk (KeepBut.refl w g none)
 have HL := Aside0.mk hB.size
 clear hI
 have HW0 := Aside0.mk hB.size
 have HB := Aside0.mk hB
 clear hB
 have H := h
 unfold spec_l1Cur_committee.f at H
 clear h
 replace H := oB H
 obtain ⟨⟨t102, t103, t106, t107⟩, A30, H⟩ := H
 (try dsimp only at H)
 have A3 := Aside0.mk A30
 clear A30
 replace H := oB H
 obtain ⟨⟨t109, t110, t111⟩, A40, H⟩ := H
 (try dsimp only at H)
 have A4 := Aside0.mk A40
 clear A40
 by_cases c5 : t109 = 0
 ·rw [if_pos c5] at H
  have c5b0 : (t109 == 0) = true := beq_iff_eq.mpr c5
  have c5b1 : (t109 != 0) = false := bne_eq_false_iff_eq.mpr c5
  clear c5
  replace H := oA H
  obtain ⟨t112, A6, H⟩ := H
  (try dsimp only at H)
  replace H := oA H
  obtain ⟨t113, A7, H⟩ := H
  (try dsimp only at H)
  obtain ⟨y114, hy114⟩ : ∃ y_ : List Int, y_ = (([(-1), 0, 1, t112, wrap64 (t113 + 1), 4611686018427387904] : List Int)) := ⟨_, rfl⟩
  replace H : ((spec_l1Cur_among.f s0_0 t110 t111 y114).bind fun bt117 => (some (bt117.1, t103, bt117.2.1, bt117.2.2))) = some (r1, r2, r3, r4) := by first | (rw [hy114]; with_reducible exact H) | (have H2_ := (Option.bind_some _ _).symm.trans H; rw [hy114]; with_reducible exact H2_) | (have H2_ := (Option.bind_some _ _).symm.trans H; with_reducible exact H2_) | with_reducible exact H | (rw [hy114]; exact H) | exact H
  have Ny114 := Aside0.mk hy114
  clear hy114
  replace H := oB H
  obtain ⟨⟨t117, t118, t119⟩, A80, H⟩ := H
  (try dsimp only at H)
  have A8 := Aside0.mk A80
  clear A80
  simp only [Option.some.injEq, Prod.mk.injEq] at H
  obtain ⟨rfl, rfl, rfl, rfl⟩ := H
  go_enter Tryz.func52, Tryz.ntmps52
  try go_wp2_with (first | ((with_reducible refine gate_dst (N := 4) rfl ?_); refine xE (N := 4) (cs := #[.int .i64 0, .slice none 0 0]) (t := 24) ?_; intro gb101 hg w9 BK101 hb; have GW101 := Aside0.mk ((by rw [hg]; exact (keep_size (w := w) (g := g) (row := none) (wHK_spec_l1Cur_committee)) : w.heap.size ≤ gb101)); have GE101 := Aside0.mk ((Nat.le_trans HW0.out (by rw [hg]; exact (keep_size (w := w) (g := g) (row := none) (wHK_spec_l1Cur_committee)) : w.heap.size ≤ gb101) : w0.heap.size ≤ gb101)); have NB0_101 := Aside0.mk ((by rw [hg]; exact Nat.ne_of_lt (IsS81.lt (show IsS81 w0 _ g s0_0 s0_1 s0_2 from wHI0_spec_l1Cur_committee)) : g ≠ gb101)); have NB101_0 := Aside0.mk ((by rw [hg]; exact Nat.ne_of_gt (IsS81.lt (show IsS81 w0 _ g s0_0 s0_1 s0_2 from wHI0_spec_l1Cur_committee)) : gb101 ≠ g)); replace HK := Aside0.mk (KeepBut.trans (wHK_spec_l1Cur_committee) (KeepBut.of_below hb g none) (.inl rfl)); replace HB := Aside0.mk (below_step (wHB_spec_l1Cur_committee) hb); replace HI0 := Aside0.mk (IsS81.below (wHI0_spec_l1Cur_committee) hb); clear hb hg) | ((with_reducible refine gate_callee (f := 57) rfl ?_); refine gL 8 Tryz.func57 #[.pointer (some ⟨g, 0, none⟩), .int .i64 a1] ?_; (with_reducible refine (spec_l1Cur_sureCommittee.calls k g s0_0 s0_1 s0_2 a1 t102 t103 t106 t107 w0 _ ?side1 ?side2 A3.out).mono ?_); (case side1 => exact wHI0_spec_l1Cur_committee); (case side2 => exact wHB_spec_l1Cur_committee); rintro e w10 ⟨v104, rfl, ho0, hi, hb, hk⟩; refine ⟨_, rfl, ?_⟩; have HO105 := Aside0.mk (Kd.R_lower ho0 (keep_size (w := w) (g := g) (row := none) (wHK_spec_l1Cur_committee))); replace BK101 := Aside0.mk (KeepBut.blk hk (g' := gb101) (o := .cells #[.int .i64 0, .slice none 0 0] 24 (0, 0)) BK101.out NB101_0.out (by simp)); replace HK := Aside0.mk (KeepBut.trans (wHK_spec_l1Cur_committee) hk (.inl rfl)); replace HB := Aside0.mk (hb); replace HI0 := Aside0.mk (hi); (try clear hb); (try clear ho0)) | ((with_reducible refine gate_dst (N := 5) rfl ?_); refine xE (N := 5) (cs := #[.int .i64 0, .slice none 0 0]) (t := 24) ?_; intro gb108 hg w11 BK108 hb; have GW108 := Aside0.mk ((by rw [hg]; exact (keep_size (w := w) (g := g) (row := none) (wHK_spec_l1Cur_committee)) : w.heap.size ≤ gb108)); have GE108 := Aside0.mk ((Nat.le_trans HW0.out (by rw [hg]; exact (keep_size (w := w) (g := g) (row := none) (wHK_spec_l1Cur_committee)) : w.heap.size ≤ gb108) : w0.heap.size ≤ gb108)); have NB101_108 := nL hg (blk_lt BK101.out); have NB108_101 := nG hg (blk_lt BK101.out); have NB0_108 := Aside0.mk ((by rw [hg]; exact Nat.ne_of_lt (IsS81.lt (show IsS81 w0 _ g s0_0 t106 t107 from wHI0_spec_l1Cur_committee)) : g ≠ gb108)); have NB108_0 := Aside0.mk ((by rw [hg]; exact Nat.ne_of_gt (IsS81.lt (show IsS81 w0 _ g s0_0 t106 t107 from wHI0_spec_l1Cur_committee)) : gb108 ≠ g)); replace HO105 := rB HO105 hb; replace BK101 := bB BK101 hb; replace HK := Aside0.mk (KeepBut.trans (wHK_spec_l1Cur_committee) (KeepBut.of_below hb g none) (.inl rfl)); replace HB := Aside0.mk (below_step (wHB_spec_l1Cur_committee) hb); replace HI0 := Aside0.mk (IsS81.below (wHI0_spec_l1Cur_committee) hb); clear hb hg; have hnb12 := NB108_101.out; have hnc12 := NB101_108.out; have hnb13 := NB108_0.out; have hnc13 := NB0_108.out; obtain ⟨hcz14_0, hcz14_1, hfz14_0, hfz14_1⟩ := zZ BK108; obtain ⟨Ao15, co15, eo15⟩ := Kd.R_slice HO105.out; subst eo15) | ((with_reducible refine gate_callee (f := 54) rfl ?_); refine gL 10 Tryz.func54 #[.pointer (some ⟨g, 0, none⟩), .int .i64 16] ?_; (with_reducible refine (spec_l1Cur_pick.calls g s0_0 t106 t107 16 t109 t110 t111 w0 _ ?side1 ?side2 A4.out).mono ?_); (case side1 => exact wHI0_spec_l1Cur_committee); (case side2 => exact wHB_spec_l1Cur_committee); rintro e w16 ⟨rfl, hi, hb, hk⟩; refine ⟨_, rfl, ?_⟩; replace BK101 := Aside0.mk (KeepBut.blk hk (g' := gb101) (o := .cells #[.int .i64 0, .slice none 0 0] 24 (0, 0)) (by refine blk_far ?_ NB101_108.out _; refine blk_far ?_ NB101_108.out _; exact BK101.out) NB101_0.out (by simp)); replace HO105 := Aside0.mk (Kd.R_mono (Kd.R_keep (IsS81.apart (show IsS81 w0 _ g s0_0 t106 t107 from wHI0_spec_l1Cur_committee) (by exact (Kd.R_mono (Kd.R_far (p := ⟨gb108, 1, none⟩) (Kd.R_far (p := ⟨gb108, 0, none⟩) (Kd.R_types HO105.out BK108.out (by decide)) (fun _ hk => hk.2) (.int .i64 t102)) (fun _ hk => hk.2) (.slice Ao15 t103.length co15)) (fun _ h_ => h_.1))) (by decide)) hk (fun _ h => h.2)) (fun _ h => h.1)); replace BK108 := Aside0.mk (KeepBut.blk hk (g' := gb108) (o := .cells #[.int .i64 t102, .slice Ao15 t103.length co15] 24 (0, 0)) (by refine blk_put (cs := #[.int .i64 t102, .slice none 0 0]) ?_ 1 _ rfl; refine blk_put (cs := #[.int .i64 0, .slice none 0 0]) ?_ 0 _ rfl; exact BK108.out) NB108_0.out (by simp)); replace HK := Aside0.mk (KeepBut.trans (wHK_spec_l1Cur_committee) hk (.inl rfl)); replace HB := Aside0.mk (hb); replace HI0 := Aside0.mk (hi); (try clear hb)))
  replace HO105 := rD HO105
  replace BK101 := bD BK101
  replace BK108 := bD BK108
  replace HI0 := Aside0.mk (IsS81.drew HI0.out)
  replace HK := Aside0.mk (keep_drew HK.out)
  replace HB := Aside0.mk (below_drew1 HB.out)
  refine start_ (n := 12) (S := fun w' => w'.cell? ⟨gb108, 0, none⟩ = some (.int .i64 t102) ∧ w'.cell? ⟨gb108, 1, none⟩ = some (.slice Ao15 t103.length co15)) (ds := [11]) #[F,F,F,F,F,F,F,F,F,F,F,F] (by kernel_rfl) rfl rfl ⟨(blk_cell BK108.out 0).trans rfl, (blk_cell BK108.out 1).trans rfl⟩ (fun hHeld => ?_); refine with_tabW spec_l1Cur_committee.tab4 spec_l1Cur_committee.bits4 (fun HT_ HW_ => ?_)
  (try clear hcz14_0 hcz14_1 hfz14_0 hfz14_1)
  generalize w16.drew = w17 at HO105 BK101 BK108 HI0 HK HB hHeld ⊢
  refine pU 0 HT_ ?_
  refine pU 1 HT_ ?_
  refine pU 4 HT_ ?_
  refine tK 2 HT_ HW_ hHeld (hy := by rintro w' ⟨s0, s1⟩; go_simp; with_reducible rfl) ?_
  refine tK 5 HT_ HW_ hHeld (hy := by rintro w' ⟨s0, s1⟩; go_simp; with_reducible rfl) ?_
  refine oN 3 HT_ (fun K hK => ?_)
  refine gE Tryz.func62 #[.slice Ao15 t103.length co15] ?_
  with_reducible refine (spec_voSum.calls k _ _ t103 t112 _ ?side1 ?side2 A6.out).mono ?_
  (case side1 => have hx_ := (Kd.R_reads' HO105.out).2.2; exact cC)
  (case side2 => exact (Kd.R_reads' HO105.out).2.1)
  rintro e w' ⟨rfl, ⟨nd, rfl⟩⟩
  refine ⟨_, rfl, ?_⟩
  refine hK.out _ _ ⟨(blk_cell BK108.out 0).trans rfl, (blk_cell BK108.out 1).trans rfl⟩ (fun hHeld => ?_)
  clear hK K
  refine nM ?_
  refine oN 6 HT_ (fun K hK => ?_)
  refine gE Tryz.func62 #[.slice Ao15 t103.length co15] ?_
  with_reducible refine (spec_voSum.calls k _ _ t103 t113 _ ?side1 ?side2 A7.out).mono ?_
  (case side1 => have hx_ := (Kd.R_reads' HO105.out).2.2; exact cC)
  (case side2 => exact (Kd.R_reads' HO105.out).2.1)
  rintro e w' ⟨rfl, ⟨nd, rfl⟩⟩
  refine ⟨_, rfl, ?_⟩
  refine hK.out _ _ ⟨(blk_cell BK108.out 0).trans rfl, (blk_cell BK108.out 1).trans rfl⟩ (fun hHeld => ?_)
  clear hK K
  refine nM ?_
  refine pU 7 HT_ ?_
  refine oN 8 HT_ (fun K hK => ?_)
  refine Kd.R_lit_step (Kd.int .i64) _ 3 ?hg (N := 21) ?hd (xs := ([(-1), 0, 1, t112, wrap64 (t113 + 1), 4611686018427387904] : List Int)) (inner := [.int .i64 (-1), .int .i64 0, .int .i64 1, .int .i64 t112, .int .i64 (wrap64 (t113 + 1)), .int .i64 4611686018427387904]) (ok := fun _ => True) (okp := fun _ => True) ?hr ?hp (fun _ hk => hk) trivial (Below.refl _ _) (Nat.le_refl _) (by simp) ?_; (case hd => rfl); (case hg => rfl); (case hr => first | (go_simp; done) | (go_simp; rfl)); (case hp => exact (Reps.one (show Kd.M (Kd.int .i64) _ _ _ (-1) [.int .i64 (-1)] from rfl) (Reps.one (show Kd.M (Kd.int .i64) _ _ _ 0 [.int .i64 0] from rfl) (Reps.one (show Kd.M (Kd.int .i64) _ _ _ 1 [.int .i64 1] from rfl) (Reps.one (show Kd.M (Kd.int .i64) _ _ _ t112 [.int .i64 t112] from rfl) (Reps.one (show Kd.M (Kd.int .i64) _ _ _ (wrap64 (t113 + 1)) [.int .i64 (wrap64 (t113 + 1))] from rfl) (Reps.one (show Kd.M (Kd.int .i64) _ _ _ 4611686018427387904 [.int .i64 4611686018427387904] from rfl) (Reps.none _ _))))))))
  intro v115 w18 ho19 hb hg_ hnew_
  clear hg_ hnew_
  (first | rw [← Ny114.out] at ho19 | (simp only [Int.reduceToNat] at ho19; rw [← Ny114.out] at ho19))
  have HO116 := Aside0.mk (Kd.R_lower (Kd.R_new' ho19 (Kd.R_lt (rQ HO105))) (keep_size (w := w) (g := g) (row := none) (wHK_spec_l1Cur_committee)))
  replace HO105 := rE HO105 (Kd.R_base ho19) hb
  replace BK101 := bP BK101 hb
  replace BK108 := bP BK108 hb
  replace HK := Aside0.mk (KeepBut.trans (wHK_spec_l1Cur_committee) (KeepBut.of_below hb g none) (.inl rfl))
  replace HB := Aside0.mk (below_step (wHB_spec_l1Cur_committee) hb)
  replace HI0 := Aside0.mk (IsS81.below (wHI0_spec_l1Cur_committee) hb)
  clear hb ho19
  obtain ⟨Ao20, co20, eo20⟩ := Kd.R_slice HO116.out
  (first | subst eo20 | (injection eo20 with f1_ f2_ f3_; have f4_ := f1_.symm; have f5_ := f3_.symm; clear f1_ f2_ f3_; subst f4_; subst f5_))
  refine hK.out _ _ ⟨(blk_cell BK108.out 0).trans rfl, (blk_cell BK108.out 1).trans rfl⟩ (fun hHeld => ?_)
  clear hK K
  refine nM ?_
  refine oN 9 HT_ (fun K hK => ?_)
  refine gE Tryz.func82 #[.pointer (some ⟨g, 0, none⟩), .slice Ao20 y114.length co20] ?_
  with_reducible refine (spec_l1Cur_among.calls g s0_0 t110 t111 _ _ y114 t117 t118 t119 w0 _ ?side1 ?side2 ?side3 ?side4 ?side5 A8.out).mono ?_
  (case side1 => exact wHI0_spec_l1Cur_committee)
  (case side2 => exact wHB_spec_l1Cur_committee)
  (case side3 => have hx_ := (Kd.R_reads' HO116.out).2.2; exact cC)
  (case side4 => exact (Kd.R_reads' HO116.out).2.1)
  (case side5 => exact far_slice (IsS81.own_ne HI0.out HO116.out (by decide)))
  rintro e w21 ⟨rfl, hi, hb, hk⟩
  refine ⟨_, rfl, ?_⟩
  replace BK101 := Aside0.mk (KeepBut.blk hk (g' := gb101) (o := .cells #[.int .i64 0, .slice none 0 0] 24 (0, 0)) (bQ BK101) NB101_0.out (by simp))
  replace HO105 := Aside0.mk (Kd.R_mono (Kd.R_keep (IsS81.apart (show IsS81 w0 _ g s0_0 t110 t111 from wHI0_spec_l1Cur_committee) (rQ HO105) (by decide)) hk (fun _ h => h.2)) (fun _ h => h.1))
  replace BK108 := Aside0.mk (KeepBut.blk hk (g' := gb108) (o := .cells #[.int .i64 t102, .slice Ao15 t103.length co15] 24 (0, 0)) (bQ BK108) NB108_0.out (by simp))
  replace HO116 := Aside0.mk (Kd.R_mono (Kd.R_keep (IsS81.apart (show IsS81 w0 _ g s0_0 t110 t111 from wHI0_spec_l1Cur_committee) (rQ HO116) (by decide)) hk (fun _ h => h.2)) (fun _ h => h.1))
  replace HK := Aside0.mk (KeepBut.trans (wHK_spec_l1Cur_committee) hk (.inl rfl))
  replace HB := Aside0.mk (hb)
  replace HI0 := Aside0.mk (hi)
  (try clear hb)
  (try clear hb2)
  (try clear hk)
  (try clear hi)
  refine hK.out _ _ ⟨(blk_cell BK108.out 0).trans rfl, (blk_cell BK108.out 1).trans rfl⟩ (fun hHeld => ?_)
  clear hK K
  refine nM ?_
  refine pU 10 HT_ ?_
  refine last_ (i := 11) (N := none) #[T,T,T,T,T,T,T,T,T,T,T,T] rfl rfl (one_of HT_.out (by kernel_rfl)) (by decide) (fun K hK => ?_)
  have hs22 : w21.cell? ⟨gb108, 0, none⟩ = some (.int .i64 t102) := (blk_cell BK108.out 0).trans rfl
  have hfs22 := blk_frozen BK108.out 0
  have hns22_0 := NB101_108.out
  have hms22_0 := NB108_101.out
  refine skip_ (w1 := ?_) (by rfl) rfl ?_ ?_
  rotate_left
  ·go_simp
   rfl
  refine hK.out _ _ ?_
  clear hK K
  refine done_ (done_of HT_.out (by kernel_rfl)) ?_
  obtain ⟨hcz23_0, hcz23_1, hfz23_0, hfz23_1⟩ := zZ BK108
  have hnb24 := NB101_0.out
  have hnc24 := NB0_101.out
  obtain ⟨hcz25_0, hcz25_1, hfz25_0, hfz25_1⟩ := zZ BK101
  try go_wp2
  refine bodyPost_ret (results_cell_row rfl _ _ gb101 24 #[.int .i64 t117, .slice Ao15 t103.length co15] (0, 0) _ rfl (by (with_reducible repeat (first | refine kN ?_ _ | refine kD ?_ | refine kA ?_ _)); refine blk_put (cs := #[.int .i64 t117, .slice none 0 0]) ?_ 1 _ rfl; (with_reducible repeat (first | refine kN ?_ _ | refine kD ?_ | refine kA ?_ _)); refine blk_put (cs := #[.int .i64 0, .slice none 0 0]) ?_ 0 _ rfl; (with_reducible repeat (first | refine kN ?_ _ | refine kD ?_ | refine kA ?_ _)); refine blk_far ?_ NB101_108.out _; (with_reducible repeat (first | refine kN ?_ _ | refine kD ?_ | refine kA ?_ _)); exact BK101.out) Tryz.underlying24 rfl (by kernel_rfl)) rfl ?_
  exact ⟨_, fR, by (with_reducible repeat (first | apply qA | apply qN | apply qD)); exact Kd.R_mono (Kd.R_far (p := ⟨gb101, 1, none⟩) (Kd.R_far (p := ⟨gb101, 0, none⟩) (Kd.R_far (p := ⟨gb108, 0, none⟩) (Kd.R_types (Kd.R_types HO105.out BK108.out (by decide)) BK101.out (by decide)) (fun _ hk => hk.1.2) (.int .i64 t117)) (fun _ hk => hk.2) (.int .i64 t117)) (fun _ hk => hk.2) (.slice Ao15 t103.length co15)) (fun _ hk => trivial), wHI0_spec_l1Cur_committee, wHB_spec_l1Cur_committee, wHK_spec_l1Cur_committee⟩
 rw [if_neg c5] at H
 have c5b0 : (t109 == 0) = false := beq_eq_false_iff_ne.mpr c5
 have c5b1 : (t109 != 0) = true := bne_iff_ne.mpr c5
 by_cases c26 : t109 = 1
 ·rw [if_pos c26] at H
  have c26b0 : (t109 == 1) = true := beq_iff_eq.mpr c26
  have c26b1 : (t109 != 1) = false := bne_eq_false_iff_eq.mpr c26
  clear c26
  obtain ⟨y120, hy120⟩ : ∃ y_ : List Int, y_ = (([(-1), 0, 1000, 1001, 4611686018427387904] : List Int)) := ⟨_, rfl⟩
  replace H : ((spec_l1Cur_among.f s0_0 t110 t111 y120).bind fun bt123 => (if 0 < (t103.length : Int) then (some (t102, (t103.set (0 : Int).toNat bt123.1), bt123.2.1, bt123.2.2)) else (none))) = some (r1, r2, r3, r4) := by first | (rw [hy120]; with_reducible exact H) | (have H2_ := (Option.bind_some _ _).symm.trans H; rw [hy120]; with_reducible exact H2_) | (have H2_ := (Option.bind_some _ _).symm.trans H; with_reducible exact H2_) | with_reducible exact H | (rw [hy120]; exact H) | exact H
  have Ny120 := Aside0.mk hy120
  clear hy120
  replace H := oB H
  obtain ⟨⟨t123, t124, t125⟩, A270, H⟩ := H
  (try dsimp only at H)
  have A27 := Aside0.mk A270
  clear A270
  by_cases c28 : 0 < (t103.length : Int)
  rotate_left
  ·rw [if_neg c28] at H
   exact absurd H (by simp)
  rw [if_pos c28] at H
  have c28b0 := decide_eq_true c28
  have c28b1 : decide (0 < t103.length) = true := decide_eq_true (by omega)
  clear c28
  obtain ⟨y126, hy126⟩ : ∃ y_ : List Int, y_ = (t103.set (0 : Int).toNat t123) := ⟨_, rfl⟩
  replace H : (some (t102, y126, t124, t125)) = some (r1, r2, r3, r4) := by first | (rw [hy126]; with_reducible exact H) | (have H2_ := (Option.bind_some _ _).symm.trans H; rw [hy126]; with_reducible exact H2_) | (have H2_ := (Option.bind_some _ _).symm.trans H; with_reducible exact H2_) | with_reducible exact H | (rw [hy126]; exact H) | exact H
  have Ny126 := Aside0.mk hy126
  clear hy126
  simp only [Option.some.injEq, Prod.mk.injEq] at H
  obtain ⟨rfl, rfl, rfl, rfl⟩ := H
  go_enter Tryz.func52, Tryz.ntmps52
  try go_wp2_with (first | ((with_reducible refine gate_dst (N := 4) rfl ?_); refine xE (N := 4) (cs := #[.int .i64 0, .slice none 0 0]) (t := 24) ?_; intro gb101 hg w30 BK101 hb; have GW101 := Aside0.mk ((by rw [hg]; exact (keep_size (w := w) (g := g) (row := none) (wHK_spec_l1Cur_committee)) : w.heap.size ≤ gb101)); have GE101 := Aside0.mk ((Nat.le_trans HW0.out (by rw [hg]; exact (keep_size (w := w) (g := g) (row := none) (wHK_spec_l1Cur_committee)) : w.heap.size ≤ gb101) : w0.heap.size ≤ gb101)); have NB0_101 := Aside0.mk ((by rw [hg]; exact Nat.ne_of_lt (IsS81.lt (show IsS81 w0 _ g s0_0 s0_1 s0_2 from wHI0_spec_l1Cur_committee)) : g ≠ gb101)); have NB101_0 := Aside0.mk ((by rw [hg]; exact Nat.ne_of_gt (IsS81.lt (show IsS81 w0 _ g s0_0 s0_1 s0_2 from wHI0_spec_l1Cur_committee)) : gb101 ≠ g)); replace HK := Aside0.mk (KeepBut.trans (wHK_spec_l1Cur_committee) (KeepBut.of_below hb g none) (.inl rfl)); replace HB := Aside0.mk (below_step (wHB_spec_l1Cur_committee) hb); replace HI0 := Aside0.mk (IsS81.below (wHI0_spec_l1Cur_committee) hb); clear hb hg) | ((with_reducible refine gate_callee (f := 57) rfl ?_); refine gL 8 Tryz.func57 #[.pointer (some ⟨g, 0, none⟩), .int .i64 a1] ?_; (with_reducible refine (spec_l1Cur_sureCommittee.calls k g s0_0 s0_1 s0_2 a1 t102 t103 t106 t107 w0 _ ?side1 ?side2 A3.out).mono ?_); (case side1 => exact wHI0_spec_l1Cur_committee); (case side2 => exact wHB_spec_l1Cur_committee); rintro e w31 ⟨v104, rfl, ho0, hi, hb, hk⟩; refine ⟨_, rfl, ?_⟩; have HO105 := Aside0.mk (Kd.R_lower ho0 (keep_size (w := w) (g := g) (row := none) (wHK_spec_l1Cur_committee))); replace BK101 := Aside0.mk (KeepBut.blk hk (g' := gb101) (o := .cells #[.int .i64 0, .slice none 0 0] 24 (0, 0)) (bQ BK101) NB101_0.out (by simp)); replace HK := Aside0.mk (KeepBut.trans (wHK_spec_l1Cur_committee) hk (.inl rfl)); replace HB := Aside0.mk (hb); replace HI0 := Aside0.mk (hi); (try clear hb); (try clear ho0)) | ((with_reducible refine gate_dst (N := 5) rfl ?_); refine xE (N := 5) (cs := #[.int .i64 0, .slice none 0 0]) (t := 24) ?_; intro gb108 hg w32 BK108 hb; have GW108 := Aside0.mk ((by rw [hg]; exact (keep_size (w := w) (g := g) (row := none) (wHK_spec_l1Cur_committee)) : w.heap.size ≤ gb108)); have GE108 := Aside0.mk ((Nat.le_trans HW0.out (by rw [hg]; exact (keep_size (w := w) (g := g) (row := none) (wHK_spec_l1Cur_committee)) : w.heap.size ≤ gb108) : w0.heap.size ≤ gb108)); have NB101_108 := Aside0.mk ((by rw [hg]; exact Nat.ne_of_lt (blk_lt (g := gb101) (o := .cells #[.int .i64 0, .slice none 0 0] 24 (0, 0)) (bQ BK101)) : gb101 ≠ gb108)); have NB108_101 := Aside0.mk ((by rw [hg]; exact Nat.ne_of_gt (blk_lt (g := gb101) (o := .cells #[.int .i64 0, .slice none 0 0] 24 (0, 0)) (bQ BK101)) : gb108 ≠ gb101)); have NB0_108 := Aside0.mk ((by rw [hg]; exact Nat.ne_of_lt (IsS81.lt (show IsS81 w0 _ g s0_0 t106 t107 from wHI0_spec_l1Cur_committee)) : g ≠ gb108)); have NB108_0 := Aside0.mk ((by rw [hg]; exact Nat.ne_of_gt (IsS81.lt (show IsS81 w0 _ g s0_0 t106 t107 from wHI0_spec_l1Cur_committee)) : gb108 ≠ g)); replace HO105 := rP HO105 hb; replace BK101 := bP BK101 hb; replace HK := Aside0.mk (KeepBut.trans (wHK_spec_l1Cur_committee) (KeepBut.of_below hb g none) (.inl rfl)); replace HB := Aside0.mk (below_step (wHB_spec_l1Cur_committee) hb); replace HI0 := Aside0.mk (IsS81.below (wHI0_spec_l1Cur_committee) hb); clear hb hg; have hnb33 := NB108_101.out; have hnc33 := NB101_108.out; have hnb34 := NB108_0.out; have hnc34 := NB0_108.out; (try clear hcz23_0 hcz23_1 hfz23_0 hfz23_1 hcz25_0 hcz25_1 hfz25_0 hfz25_1); obtain ⟨hcz35_0, hcz35_1, hfz35_0, hfz35_1⟩ := zZ BK108; obtain ⟨Ao36, co36, eo36⟩ := Kd.R_slice HO105.out; subst eo36) | ((with_reducible refine gate_callee (f := 54) rfl ?_); refine gL 10 Tryz.func54 #[.pointer (some ⟨g, 0, none⟩), .int .i64 16] ?_; (with_reducible refine (spec_l1Cur_pick.calls g s0_0 t106 t107 16 t109 t110 t111 w0 _ ?side1 ?side2 A4.out).mono ?_); (case side1 => exact wHI0_spec_l1Cur_committee); (case side2 => exact wHB_spec_l1Cur_committee); rintro e w37 ⟨rfl, hi, hb, hk⟩; refine ⟨_, rfl, ?_⟩; replace BK101 := Aside0.mk (KeepBut.blk hk (g' := gb101) (o := .cells #[.int .i64 0, .slice none 0 0] 24 (0, 0)) (by (with_reducible repeat (first | refine kN ?_ _ | refine kD ?_ | refine kA ?_ _)); refine blk_far ?_ NB101_108.out _; (with_reducible repeat (first | refine kN ?_ _ | refine kD ?_ | refine kA ?_ _)); refine blk_far ?_ NB101_108.out _; (with_reducible repeat (first | refine kN ?_ _ | refine kD ?_ | refine kA ?_ _)); exact BK101.out) NB101_0.out (by simp)); replace HO105 := Aside0.mk (Kd.R_mono (Kd.R_keep (IsS81.apart (show IsS81 w0 _ g s0_0 t106 t107 from wHI0_spec_l1Cur_committee) (by (with_reducible repeat (first | apply qA | apply qN | apply qD)); exact (Kd.R_mono (Kd.R_far (p := ⟨gb108, 1, none⟩) (Kd.R_far (p := ⟨gb108, 0, none⟩) (Kd.R_types HO105.out BK108.out (by decide)) (fun _ hk => hk.2) (.int .i64 t102)) (fun _ hk => hk.2) (.slice Ao36 t103.length co36)) (fun _ h_ => h_.1))) (by decide)) hk (fun _ h => h.2)) (fun _ h => h.1)); replace BK108 := Aside0.mk (KeepBut.blk hk (g' := gb108) (o := .cells #[.int .i64 t102, .slice Ao36 t103.length co36] 24 (0, 0)) (by (with_reducible repeat (first | refine kN ?_ _ | refine kD ?_ | refine kA ?_ _)); refine blk_put (cs := #[.int .i64 t102, .slice none 0 0]) ?_ 1 _ rfl; (with_reducible repeat (first | refine kN ?_ _ | refine kD ?_ | refine kA ?_ _)); refine blk_put (cs := #[.int .i64 0, .slice none 0 0]) ?_ 0 _ rfl; (with_reducible repeat (first | refine kN ?_ _ | refine kD ?_ | refine kA ?_ _)); exact BK108.out) NB108_0.out (by simp)); replace HK := Aside0.mk (KeepBut.trans (wHK_spec_l1Cur_committee) hk (.inl rfl)); replace HB := Aside0.mk (hb); replace HI0 := Aside0.mk (hi); (try clear hb)))
  replace HO105 := rD HO105
  replace BK101 := bD BK101
  replace BK108 := bD BK108
  replace HI0 := Aside0.mk (IsS81.drew HI0.out)
  replace HK := Aside0.mk (keep_drew HK.out)
  replace HB := Aside0.mk (below_drew1 HB.out)
  refine start_ (n := 7) (S := fun w' => w'.cell? ⟨gb108, 0, none⟩ = some (.int .i64 t102) ∧ w'.cell? ⟨gb108, 1, none⟩ = some (.slice Ao36 t103.length co36)) (ds := [6]) #[F,F,F,F,F,F,F] (by kernel_rfl) rfl rfl ⟨(blk_cell BK108.out 0).trans rfl, (blk_cell BK108.out 1).trans rfl⟩ (fun hHeld => ?_)
  (try clear hcz35_0 hcz35_1 hfz35_0 hfz35_1)
  generalize w37.drew = w38 at HO105 BK101 BK108 HI0 HK HB hHeld ⊢
  refine pure_ (i := 0) (N := some 26) (v := ?_) (a' := ?_) #[T,F,F,F,F,F,F] rfl rfl (by kernel_rfl) (fun _ _ _ h => h) (Or.inl ⟨by rfl, ?_⟩) ?_ ?_
  rotate_left
  ·intro w'
   go_simp
   with_reducible rfl
  rotate_left
  ·simp only [Act.put, sA, sZ, sS, i64_w, i32_w]
   rfl
  refine pure_ (i := 2) (N := some 28) (v := ?_) (a' := ?_) #[T,F,T,F,F,F,F] rfl rfl (by kernel_rfl) (fun _ _ _ h => h) (Or.inl ⟨by rfl, ?_⟩) ?_ ?_
  rotate_left
  ·intro w'
   go_simp
   with_reducible rfl
  rotate_left
  ·simp only [Act.put, sA, sZ, sS, i64_w, i32_w]
   rfl
  refine take_ (i := 1) (N := some 27) (v := ?_) (a' := ?_) #[T,T,T,F,F,F,F] rfl rfl (by kernel_rfl) (fun _ _ _ h => h) (Or.inl ⟨by rfl, ?_⟩) hHeld ?_ ?_
  rotate_left
  ·rintro w' ⟨s0, s1⟩
   go_simp
   with_reducible rfl
  rotate_left
  ·simp only [Act.put, sA, sZ, sS, i64_w, i32_w]
   rfl
  refine one_ (i := 3) (N := some 29) #[T,T,T,T,F,F,F] rfl rfl (by kernel_rfl) (by decide) (fun K hK => ?_)
  refine Kd.R_lit_step (Kd.int .i64) _ 3 ?hg (N := 29) ?hd (xs := ([(-1), 0, 1000, 1001, 4611686018427387904] : List Int)) (inner := [.int .i64 (-1), .int .i64 0, .int .i64 1000, .int .i64 1001, .int .i64 4611686018427387904]) (ok := fun _ => True) (okp := fun _ => True) ?hr ?hp (fun _ hk => hk) trivial (Below.refl _ _) (Nat.le_refl _) (by simp) ?_; (case hd => rfl); (case hg => rfl); (case hr => first | (go_simp; done) | (go_simp; rfl)); (case hp => exact (Reps.one (show Kd.M (Kd.int .i64) _ _ _ (-1) [.int .i64 (-1)] from rfl) (Reps.one (show Kd.M (Kd.int .i64) _ _ _ 0 [.int .i64 0] from rfl) (Reps.one (show Kd.M (Kd.int .i64) _ _ _ 1000 [.int .i64 1000] from rfl) (Reps.one (show Kd.M (Kd.int .i64) _ _ _ 1001 [.int .i64 1001] from rfl) (Reps.one (show Kd.M (Kd.int .i64) _ _ _ 4611686018427387904 [.int .i64 4611686018427387904] from rfl) (Reps.none _ _)))))))
  intro v121 w39 ho40 hb hg_ hnew_
  clear hg_ hnew_
  (first | rw [← Ny120.out] at ho40 | (simp only [Int.reduceToNat] at ho40; rw [← Ny120.out] at ho40))
  have HO122 := Aside0.mk (Kd.R_lower (Kd.R_new' ho40 (Kd.R_lt (rQ HO105))) (keep_size (w := w) (g := g) (row := none) (wHK_spec_l1Cur_committee)))
  replace HO105 := rE HO105 (Kd.R_base ho40) hb
  replace BK101 := bP BK101 hb
  replace BK108 := bP BK108 hb
  replace HK := Aside0.mk (KeepBut.trans (wHK_spec_l1Cur_committee) (KeepBut.of_below hb g none) (.inl rfl))
  replace HB := Aside0.mk (below_step (wHB_spec_l1Cur_committee) hb)
  replace HI0 := Aside0.mk (IsS81.below (wHI0_spec_l1Cur_committee) hb)
  clear hb ho40
  obtain ⟨Ao41, co41, eo41⟩ := Kd.R_slice HO122.out
  (first | subst eo41 | (injection eo41 with f1_ f2_ f3_; have f4_ := f1_.symm; have f5_ := f3_.symm; clear f1_ f2_ f3_; subst f4_; subst f5_))
  refine hK.out _ _ ⟨(blk_cell BK108.out 0).trans rfl, (blk_cell BK108.out 1).trans rfl⟩ (fun hHeld => ?_)
  clear hK K
  refine nM ?_
  refine one_ (i := 4) (N := some 30) #[T,T,T,T,T,F,F] rfl rfl (by kernel_rfl) (by decide) (fun K hK => ?_)
  refine gE Tryz.func82 #[.pointer (some ⟨g, 0, none⟩), .slice Ao41 y120.length co41] ?_
  with_reducible refine (spec_l1Cur_among.calls g s0_0 t110 t111 _ _ y120 t123 t124 t125 w0 _ ?side1 ?side2 ?side3 ?side4 ?side5 A27.out).mono ?_
  (case side1 => exact wHI0_spec_l1Cur_committee)
  (case side2 => exact wHB_spec_l1Cur_committee)
  (case side3 => have hx_ := (Kd.R_reads' HO122.out).2.2; exact cC)
  (case side4 => exact (Kd.R_reads' HO122.out).2.1)
  (case side5 => exact far_slice (IsS81.own_ne HI0.out HO122.out (by decide)))
  rintro e w42 ⟨rfl, hi, hb, hk⟩
  refine ⟨_, rfl, ?_⟩
  replace BK101 := Aside0.mk (KeepBut.blk hk (g' := gb101) (o := .cells #[.int .i64 0, .slice none 0 0] 24 (0, 0)) (bQ BK101) NB101_0.out (by simp))
  replace HO105 := Aside0.mk (Kd.R_mono (Kd.R_keep (IsS81.apart (show IsS81 w0 _ g s0_0 t110 t111 from wHI0_spec_l1Cur_committee) (rQ HO105) (by decide)) hk (fun _ h => h.2)) (fun _ h => h.1))
  replace BK108 := Aside0.mk (KeepBut.blk hk (g' := gb108) (o := .cells #[.int .i64 t102, .slice Ao36 t103.length co36] 24 (0, 0)) (bQ BK108) NB108_0.out (by simp))
  replace HO122 := Aside0.mk (Kd.R_mono (Kd.R_keep (IsS81.apart (show IsS81 w0 _ g s0_0 t110 t111 from wHI0_spec_l1Cur_committee) (rQ HO122) (by decide)) hk (fun _ h => h.2)) (fun _ h => h.1))
  replace HK := Aside0.mk (KeepBut.trans (wHK_spec_l1Cur_committee) hk (.inl rfl))
  replace HB := Aside0.mk (hb)
  replace HI0 := Aside0.mk (hi)
  (try clear hb)
  (try clear hb2)
  (try clear hk)
  (try clear hi)
  have p29 : 0 ≤ (0 : Int) := (by omega)
  have q29 : (0 : Int) < ((t103.length : Int) : Int) := oD
  have qi29 : (0 < t103.length) = True := eq_true (by omega)
  obtain ⟨go29, co29, eo29, gb29, gl29, cl29, HG29⟩ := Kd.R_form HO105.out (by omega)
  (first | cases eo29 | (injection eo29 with ea_ en_ ec_; (first | subst ea_ | (injection ea_ with ea_; subst ea_)); subst ec_; clear en_))
  have GB29 := Aside0.mk gb29
  have GG29 := Aside0.mk HG29
  clear gb29 gl29 HG29
  obtain ⟨hx29_0, hf29_0⟩ := Kd.R_celln 0 HO105.out (0 : Int) p29 q29
  (try rw [show ((0 : Int)).toNat = 0 from rfl] at hx29_0)
  (try simp only [Nat.reduceMul, Nat.zero_mul, Nat.zero_add, Nat.reduceAdd] at hx29_0)
  (try rw [show ((0 : Int)).toNat = 0 from rfl] at hf29_0)
  (try simp only [Nat.reduceMul, Nat.zero_mul, Nat.zero_add, Nat.reduceAdd] at hf29_0)
  replace p29 := eq_true p29
  replace q29 := eq_true q29
  have HN0_go29 := Aside0.mk (show g ≠ go29 from by have h_ := IsS81.own_ne HI0.out HO105.out (by decide); intro e_; exact h_ (by rw [e_]; rfl))
  have HP43 := Kd.R_putn HO105.out (0 : Int) t123
  rw [← Ny126.out] at HP43
  have HQ43 := Aside0.mk HP43
  clear HP43
  refine hK.out _ _ ⟨(blk_cell BK108.out 0).trans rfl, (blk_cell BK108.out 1).trans rfl⟩ (fun hHeld => ?_)
  clear hK K
  refine nM ?_
  refine pure_ (i := 5) (N := some 31) (v := ?_) (a' := ?_) #[T,T,T,T,T,T,F] rfl rfl (by kernel_rfl) (fun _ _ _ h => h) (Or.inl ⟨by rfl, ?_⟩) ?_ ?_
  rotate_left
  ·intro w'
   go_simp
   with_reducible rfl
  rotate_left
  ·simp only [Act.put, sA, sZ, sS, i64_w, i32_w]
   rfl
  refine last_ (i := 6) (N := none) #[T,T,T,T,T,T,T] rfl rfl (by kernel_rfl) (by decide) (fun K hK => ?_)
  refine skip_ (w1 := ?_) (by rfl) rfl ?_ ?_
  rotate_left
  ·go_simp
   rfl
  refine hK.out _ _ ?_
  clear hK K
  refine done_ (by kernel_rfl) ?_
  have n0_ : Aside0 (Kd.R (Kd.int .i64) 3 (w42.setCell ⟨go29, 0, none⟩ (.int .i64 t123)) w.heap.size (fun k_ => nb (.slice Ao41 y120.length co41) k_) (.slice (some ⟨go29, 0, none⟩) t103.length co36) y126) := ⟨by (with_reducible repeat (first | apply qA | apply qN | apply qD)); exact Kd.R_mono HQ43.out (fun _ hk => hk.2)⟩
  have n1_ : Aside0 (Kd.R (Kd.int .i64) 3 (w42.setCell ⟨go29, 0, none⟩ (.int .i64 t123)) w.heap.size (fun k_ => nb (.slice (some ⟨go29, 0, none⟩) t103.length co36) k_) (.slice Ao41 y120.length co41) y120) := ⟨by (with_reducible repeat (first | apply qA | apply qN | apply qD)); exact Kd.R_mono (Kd.R_far (p := ⟨go29, 0, none⟩) (Kd.R_mono HO122.out (fun k_ hk => (⟨hk, fun e_ => hk.2 (by rw [e_]; rfl)⟩ : _ ∧ k_ ≠ go29))) (fun _ hk => hk.2) (.int .i64 t123)) (fun _ hk => hk.1.2)⟩
  have n2_ : Aside0 ((w42.setCell ⟨go29, 0, none⟩ (.int .i64 t123)).heap[gb101]? = some (.cells #[.int .i64 0, .slice none 0 0] 24 (0, 0))) := ⟨by (with_reducible repeat (first | refine kN ?_ _ | refine kD ?_ | refine kA ?_ _)); refine blk_far ?_ (by have h_ := Kd.R_ne HO105.out BK101.out (by decide); intro e_; exact h_ (by rw [e_]; rfl)) _; (with_reducible repeat (first | refine kN ?_ _ | refine kD ?_ | refine kA ?_ _)); exact BK101.out⟩
  have n3_ : Aside0 ((w42.setCell ⟨go29, 0, none⟩ (.int .i64 t123)).heap[gb108]? = some (.cells #[.int .i64 t102, .slice (some ⟨go29, 0, none⟩) t103.length co36] 24 (0, 0))) := ⟨by (with_reducible repeat (first | refine kN ?_ _ | refine kD ?_ | refine kA ?_ _)); refine blk_far ?_ (by have h_ := Kd.R_ne HO105.out BK108.out (by decide); intro e_; exact h_ (by rw [e_]; rfl)) _; (with_reducible repeat (first | refine kN ?_ _ | refine kD ?_ | refine kA ?_ _)); exact BK108.out⟩
  have n4_ : Aside0 (IsS81 w0 (w42.setCell ⟨go29, 0, none⟩ (.int .i64 t123)) g s0_0 t124 t125) := ⟨wHI0_spec_l1Cur_committee⟩
  have n5_ : Aside0 (KeepBut w (w42.setCell ⟨go29, 0, none⟩ (.int .i64 t123)) g none) := ⟨wHK_spec_l1Cur_committee⟩
  have n6_ : Aside0 (Below w0.heap.size w0 (w42.setCell ⟨go29, 0, none⟩ (.int .i64 t123))) := ⟨wHB_spec_l1Cur_committee⟩
  (try clear HO105)
  (try clear HO122)
  (try clear BK101)
  (try clear BK108)
  (try clear HI0)
  (try clear HK)
  (try clear HB)
  generalize (w42.setCell ⟨go29, 0, none⟩ (.int .i64 t123)) = w44 at n0_ n1_ n2_ n3_ n4_ n5_ n6_ ⊢
  have HO105 := n0_
  have HO122 := n1_
  have BK101 := n2_
  have BK108 := n3_
  have HI0 := n4_
  have HK := n5_
  have HB := n6_
  clear n0_ n1_ n2_ n3_ n4_ n5_ n6_
  obtain ⟨hcz45_0, hcz45_1, hfz45_0, hfz45_1⟩ := zZ BK108
  have hnb46 := NB101_0.out
  have hnc46 := NB0_101.out
  obtain ⟨hcz47_0, hcz47_1, hfz47_0, hfz47_1⟩ := zZ BK101
  try go_wp2
  refine bodyPost_ret (results_cell_row rfl _ _ gb101 24 #[.int .i64 t102, .slice (some ⟨go29, 0, none⟩) t103.length co36] (0, 0) _ rfl (by (with_reducible repeat (first | refine kN ?_ _ | refine kD ?_ | refine kA ?_ _)); refine blk_put (cs := #[.int .i64 t102, .slice none 0 0]) ?_ 1 _ rfl; (with_reducible repeat (first | refine kN ?_ _ | refine kD ?_ | refine kA ?_ _)); refine blk_put (cs := #[.int .i64 0, .slice none 0 0]) ?_ 0 _ rfl; (with_reducible repeat (first | refine kN ?_ _ | refine kD ?_ | refine kA ?_ _)); exact BK101.out) Tryz.underlying24 rfl (by kernel_rfl)) rfl ?_
  exact ⟨_, fR, by (with_reducible repeat (first | apply qA | apply qN | apply qD)); exact Kd.R_mono (Kd.R_far (p := ⟨gb101, 1, none⟩) (Kd.R_far (p := ⟨gb101, 0, none⟩) (Kd.R_types HO105.out BK101.out (by decide)) (fun _ hk => hk.2) (.int .i64 t102)) (fun _ hk => hk.2) (.slice (some ⟨go29, 0, none⟩) t103.length co36)) (fun _ hk => trivial), wHI0_spec_l1Cur_committee, wHB_spec_l1Cur_committee, wHK_spec_l1Cur_committee⟩
 rw [if_neg c26] at H
 have c26b0 : (t109 == 1) = false := beq_eq_false_iff_ne.mpr c26
 have c26b1 : (t109 != 1) = true := bne_iff_ne.mpr c26
 by_cases c48 : t109 = 2
 rotate_left
 ·rw [if_neg c48] at H
  have c48b0 : (t109 == 2) = false := beq_eq_false_iff_ne.mpr c48
  have c48b1 : (t109 != 2) = true := bne_iff_ne.mpr c48
  by_cases c77 : t109 = 3
  ·rw [if_pos c77] at H
   have c77b0 : (t109 == 3) = true := beq_iff_eq.mpr c77
   have c77b1 : (t109 != 3) = false := bne_eq_false_iff_eq.mpr c77
   clear c77
   simp only [Option.some.injEq, Prod.mk.injEq] at H
   obtain ⟨rfl, rfl, rfl, rfl⟩ := H
   go_enter Tryz.func52, Tryz.ntmps52
   go_wp2_with (first | ((with_reducible refine gate_dst (N := 4) rfl ?_); refine xE (N := 4) (cs := #[.int .i64 0, .slice none 0 0]) (t := 24) ?_; intro gb101 hg w78 BK101 hb; have GW101 := Aside0.mk ((by rw [hg]; exact (keep_size (w := w) (g := g) (row := none) (wHK_spec_l1Cur_committee)) : w.heap.size ≤ gb101)); have GE101 := Aside0.mk ((Nat.le_trans HW0.out (by rw [hg]; exact (keep_size (w := w) (g := g) (row := none) (wHK_spec_l1Cur_committee)) : w.heap.size ≤ gb101) : w0.heap.size ≤ gb101)); have NB0_101 := Aside0.mk ((by rw [hg]; exact Nat.ne_of_lt (IsS81.lt (show IsS81 w0 _ g s0_0 s0_1 s0_2 from wHI0_spec_l1Cur_committee)) : g ≠ gb101)); have NB101_0 := Aside0.mk ((by rw [hg]; exact Nat.ne_of_gt (IsS81.lt (show IsS81 w0 _ g s0_0 s0_1 s0_2 from wHI0_spec_l1Cur_committee)) : gb101 ≠ g)); replace HK := Aside0.mk (KeepBut.trans (wHK_spec_l1Cur_committee) (KeepBut.of_below hb g none) (.inl rfl)); replace HB := Aside0.mk (below_step (wHB_spec_l1Cur_committee) hb); replace HI0 := Aside0.mk (IsS81.below (wHI0_spec_l1Cur_committee) hb); clear hb hg) | ((with_reducible refine gate_callee (f := 57) rfl ?_); refine gL 8 Tryz.func57 #[.pointer (some ⟨g, 0, none⟩), .int .i64 a1] ?_; (with_reducible refine (spec_l1Cur_sureCommittee.calls k g s0_0 s0_1 s0_2 a1 t102 t103 t106 t107 w0 _ ?side1 ?side2 A3.out).mono ?_); (case side1 => exact wHI0_spec_l1Cur_committee); (case side2 => exact wHB_spec_l1Cur_committee); rintro e w79 ⟨v104, rfl, ho0, hi, hb, hk⟩; refine ⟨_, rfl, ?_⟩; have HO105 := Aside0.mk (Kd.R_lower ho0 (keep_size (w := w) (g := g) (row := none) (wHK_spec_l1Cur_committee))); replace BK101 := Aside0.mk (KeepBut.blk hk (g' := gb101) (o := .cells #[.int .i64 0, .slice none 0 0] 24 (0, 0)) BK101.out NB101_0.out (by simp)); replace HK := Aside0.mk (KeepBut.trans (wHK_spec_l1Cur_committee) hk (.inl rfl)); replace HB := Aside0.mk (hb); replace HI0 := Aside0.mk (hi); (try clear hb); (try clear ho0)) | ((with_reducible refine gate_dst (N := 5) rfl ?_); refine xE (N := 5) (cs := #[.int .i64 0, .slice none 0 0]) (t := 24) ?_; intro gb108 hg w80 BK108 hb; have GW108 := Aside0.mk ((by rw [hg]; exact (keep_size (w := w) (g := g) (row := none) (wHK_spec_l1Cur_committee)) : w.heap.size ≤ gb108)); have GE108 := Aside0.mk ((Nat.le_trans HW0.out (by rw [hg]; exact (keep_size (w := w) (g := g) (row := none) (wHK_spec_l1Cur_committee)) : w.heap.size ≤ gb108) : w0.heap.size ≤ gb108)); have NB101_108 := nL hg (blk_lt BK101.out); have NB108_101 := nG hg (blk_lt BK101.out); have NB0_108 := Aside0.mk ((by rw [hg]; exact Nat.ne_of_lt (IsS81.lt (show IsS81 w0 _ g s0_0 t106 t107 from wHI0_spec_l1Cur_committee)) : g ≠ gb108)); have NB108_0 := Aside0.mk ((by rw [hg]; exact Nat.ne_of_gt (IsS81.lt (show IsS81 w0 _ g s0_0 t106 t107 from wHI0_spec_l1Cur_committee)) : gb108 ≠ g)); replace HO105 := rB HO105 hb; replace BK101 := bB BK101 hb; replace HK := Aside0.mk (KeepBut.trans (wHK_spec_l1Cur_committee) (KeepBut.of_below hb g none) (.inl rfl)); replace HB := Aside0.mk (below_step (wHB_spec_l1Cur_committee) hb); replace HI0 := Aside0.mk (IsS81.below (wHI0_spec_l1Cur_committee) hb); clear hb hg; have hnb81 := NB108_101.out; have hnc81 := NB101_108.out; have hnb82 := NB108_0.out; have hnc82 := NB0_108.out; (try clear hcz74_0 hcz74_1 hfz74_0 hfz74_1 hcz76_0 hcz76_1 hfz76_0 hfz76_1); obtain ⟨hcz83_0, hcz83_1, hfz83_0, hfz83_1⟩ := zZ BK108; obtain ⟨Ao84, co84, eo84⟩ := Kd.R_slice HO105.out; subst eo84) | ((with_reducible refine gate_callee (f := 54) rfl ?_); refine gL 10 Tryz.func54 #[.pointer (some ⟨g, 0, none⟩), .int .i64 16] ?_; (with_reducible refine (spec_l1Cur_pick.calls g s0_0 t106 t107 16 t109 t110 t111 w0 _ ?side1 ?side2 A4.out).mono ?_); (case side1 => exact wHI0_spec_l1Cur_committee); (case side2 => exact wHB_spec_l1Cur_committee); rintro e w85 ⟨rfl, hi, hb, hk⟩; refine ⟨_, rfl, ?_⟩; replace BK101 := Aside0.mk (KeepBut.blk hk (g' := gb101) (o := .cells #[.int .i64 0, .slice none 0 0] 24 (0, 0)) (by refine blk_far ?_ NB101_108.out _; refine blk_far ?_ NB101_108.out _; exact BK101.out) NB101_0.out (by simp)); replace HO105 := Aside0.mk (Kd.R_mono (Kd.R_keep (IsS81.apart (show IsS81 w0 _ g s0_0 t106 t107 from wHI0_spec_l1Cur_committee) (by exact (Kd.R_mono (Kd.R_far (p := ⟨gb108, 1, none⟩) (Kd.R_far (p := ⟨gb108, 0, none⟩) (Kd.R_types HO105.out BK108.out (by decide)) (fun _ hk => hk.2) (.int .i64 t102)) (fun _ hk => hk.2) (.slice Ao84 t103.length co84)) (fun _ h_ => h_.1))) (by decide)) hk (fun _ h => h.2)) (fun _ h => h.1)); replace BK108 := Aside0.mk (KeepBut.blk hk (g' := gb108) (o := .cells #[.int .i64 t102, .slice Ao84 t103.length co84] 24 (0, 0)) (by refine blk_put (cs := #[.int .i64 t102, .slice none 0 0]) ?_ 1 _ rfl; refine blk_put (cs := #[.int .i64 0, .slice none 0 0]) ?_ 0 _ rfl; exact BK108.out) NB108_0.out (by simp)); replace HK := Aside0.mk (KeepBut.trans (wHK_spec_l1Cur_committee) hk (.inl rfl)); replace HB := Aside0.mk (hb); replace HI0 := Aside0.mk (hi); (try clear hb); have hnb86 := NB101_0.out; have hnc86 := NB0_101.out; (try clear hcz83_0 hcz83_1 hfz83_0 hfz83_1); obtain ⟨hcz87_0, hcz87_1, hfz87_0, hfz87_1⟩ := zZ BK101))
   refine bodyPost_ret (results_cell_row rfl _ _ gb101 24 #[.int .i64 1, .slice none 0 0] (0, 0) _ rfl (by refine blk_put (cs := #[.int .i64 1, .slice none 0 0]) ?_ 1 _ rfl; refine blk_put (cs := #[.int .i64 0, .slice none 0 0]) ?_ 0 _ rfl; exact BK101.out) Tryz.underlying24 rfl (by kernel_rfl)) rfl ?_
   exact ⟨_, fR, by first | exact Kd.R_nil _ _ _ _ _ | exact Kd.N_nil _ _ _ _ _ | exact Kd.V_nil _ _ _ _ _ | exact Kd.Q_nil _ _ _ _ _ | exact Kd.S_nil _ _ _ _ _, wHI0_spec_l1Cur_committee, wHB_spec_l1Cur_committee, wHK_spec_l1Cur_committee⟩
  rw [if_neg c77] at H
  have c77b0 : (t109 == 3) = false := beq_eq_false_iff_ne.mpr c77
  have c77b1 : (t109 != 3) = true := bne_iff_ne.mpr c77
  simp only [Option.some.injEq, Prod.mk.injEq] at H
  obtain ⟨rfl, rfl, rfl, rfl⟩ := H
  go_enter Tryz.func52, Tryz.ntmps52
  go_wp2_with (first | ((with_reducible refine gate_dst (N := 4) rfl ?_); refine xE (N := 4) (cs := #[.int .i64 0, .slice none 0 0]) (t := 24) ?_; intro gb101 hg w88 BK101 hb; have GW101 := Aside0.mk ((by rw [hg]; exact (keep_size (w := w) (g := g) (row := none) (wHK_spec_l1Cur_committee)) : w.heap.size ≤ gb101)); have GE101 := Aside0.mk ((Nat.le_trans HW0.out (by rw [hg]; exact (keep_size (w := w) (g := g) (row := none) (wHK_spec_l1Cur_committee)) : w.heap.size ≤ gb101) : w0.heap.size ≤ gb101)); have NB0_101 := Aside0.mk ((by rw [hg]; exact Nat.ne_of_lt (IsS81.lt (show IsS81 w0 _ g s0_0 s0_1 s0_2 from wHI0_spec_l1Cur_committee)) : g ≠ gb101)); have NB101_0 := Aside0.mk ((by rw [hg]; exact Nat.ne_of_gt (IsS81.lt (show IsS81 w0 _ g s0_0 s0_1 s0_2 from wHI0_spec_l1Cur_committee)) : gb101 ≠ g)); replace HK := Aside0.mk (KeepBut.trans (wHK_spec_l1Cur_committee) (KeepBut.of_below hb g none) (.inl rfl)); replace HB := Aside0.mk (below_step (wHB_spec_l1Cur_committee) hb); replace HI0 := Aside0.mk (IsS81.below (wHI0_spec_l1Cur_committee) hb); clear hb hg) | ((with_reducible refine gate_callee (f := 57) rfl ?_); refine gL 8 Tryz.func57 #[.pointer (some ⟨g, 0, none⟩), .int .i64 a1] ?_; (with_reducible refine (spec_l1Cur_sureCommittee.calls k g s0_0 s0_1 s0_2 a1 t102 t103 t106 t107 w0 _ ?side1 ?side2 A3.out).mono ?_); (case side1 => exact wHI0_spec_l1Cur_committee); (case side2 => exact wHB_spec_l1Cur_committee); rintro e w89 ⟨v104, rfl, ho0, hi, hb, hk⟩; refine ⟨_, rfl, ?_⟩; have HO105 := Aside0.mk (Kd.R_lower ho0 (keep_size (w := w) (g := g) (row := none) (wHK_spec_l1Cur_committee))); replace BK101 := Aside0.mk (KeepBut.blk hk (g' := gb101) (o := .cells #[.int .i64 0, .slice none 0 0] 24 (0, 0)) BK101.out NB101_0.out (by simp)); replace HK := Aside0.mk (KeepBut.trans (wHK_spec_l1Cur_committee) hk (.inl rfl)); replace HB := Aside0.mk (hb); replace HI0 := Aside0.mk (hi); (try clear hb); (try clear ho0)) | ((with_reducible refine gate_dst (N := 5) rfl ?_); refine xE (N := 5) (cs := #[.int .i64 0, .slice none 0 0]) (t := 24) ?_; intro gb108 hg w90 BK108 hb; have GW108 := Aside0.mk ((by rw [hg]; exact (keep_size (w := w) (g := g) (row := none) (wHK_spec_l1Cur_committee)) : w.heap.size ≤ gb108)); have GE108 := Aside0.mk ((Nat.le_trans HW0.out (by rw [hg]; exact (keep_size (w := w) (g := g) (row := none) (wHK_spec_l1Cur_committee)) : w.heap.size ≤ gb108) : w0.heap.size ≤ gb108)); have NB101_108 := nL hg (blk_lt BK101.out); have NB108_101 := nG hg (blk_lt BK101.out); have NB0_108 := Aside0.mk ((by rw [hg]; exact Nat.ne_of_lt (IsS81.lt (show IsS81 w0 _ g s0_0 t106 t107 from wHI0_spec_l1Cur_committee)) : g ≠ gb108)); have NB108_0 := Aside0.mk ((by rw [hg]; exact Nat.ne_of_gt (IsS81.lt (show IsS81 w0 _ g s0_0 t106 t107 from wHI0_spec_l1Cur_committee)) : gb108 ≠ g)); replace HO105 := rB HO105 hb; replace BK101 := bB BK101 hb; replace HK := Aside0.mk (KeepBut.trans (wHK_spec_l1Cur_committee) (KeepBut.of_below hb g none) (.inl rfl)); replace HB := Aside0.mk (below_step (wHB_spec_l1Cur_committee) hb); replace HI0 := Aside0.mk (IsS81.below (wHI0_spec_l1Cur_committee) hb); clear hb hg; have hnb91 := NB108_101.out; have hnc91 := NB101_108.out; have hnb92 := NB108_0.out; have hnc92 := NB0_108.out; (try clear hcz87_0 hcz87_1 hfz87_0 hfz87_1); obtain ⟨hcz93_0, hcz93_1, hfz93_0, hfz93_1⟩ := zZ BK108; obtain ⟨Ao94, co94, eo94⟩ := Kd.R_slice HO105.out; subst eo94) | ((with_reducible refine gate_callee (f := 54) rfl ?_); refine gL 10 Tryz.func54 #[.pointer (some ⟨g, 0, none⟩), .int .i64 16] ?_; (with_reducible refine (spec_l1Cur_pick.calls g s0_0 t106 t107 16 t109 t110 t111 w0 _ ?side1 ?side2 A4.out).mono ?_); (case side1 => exact wHI0_spec_l1Cur_committee); (case side2 => exact wHB_spec_l1Cur_committee); rintro e w95 ⟨rfl, hi, hb, hk⟩; refine ⟨_, rfl, ?_⟩; replace BK101 := Aside0.mk (KeepBut.blk hk (g' := gb101) (o := .cells #[.int .i64 0, .slice none 0 0] 24 (0, 0)) (by refine blk_far ?_ NB101_108.out _; refine blk_far ?_ NB101_108.out _; exact BK101.out) NB101_0.out (by simp)); replace HO105 := Aside0.mk (Kd.R_mono (Kd.R_keep (IsS81.apart (show IsS81 w0 _ g s0_0 t106 t107 from wHI0_spec_l1Cur_committee) (by exact (Kd.R_mono (Kd.R_far (p := ⟨gb108, 1, none⟩) (Kd.R_far (p := ⟨gb108, 0, none⟩) (Kd.R_types HO105.out BK108.out (by decide)) (fun _ hk => hk.2) (.int .i64 t102)) (fun _ hk => hk.2) (.slice Ao94 t103.length co94)) (fun _ h_ => h_.1))) (by decide)) hk (fun _ h => h.2)) (fun _ h => h.1)); replace BK108 := Aside0.mk (KeepBut.blk hk (g' := gb108) (o := .cells #[.int .i64 t102, .slice Ao94 t103.length co94] 24 (0, 0)) (by refine blk_put (cs := #[.int .i64 t102, .slice none 0 0]) ?_ 1 _ rfl; refine blk_put (cs := #[.int .i64 0, .slice none 0 0]) ?_ 0 _ rfl; exact BK108.out) NB108_0.out (by simp)); replace HK := Aside0.mk (KeepBut.trans (wHK_spec_l1Cur_committee) hk (.inl rfl)); replace HB := Aside0.mk (hb); replace HI0 := Aside0.mk (hi); (try clear hb); (try clear hcz93_0 hcz93_1 hfz93_0 hfz93_1); obtain ⟨hcz96_0, hcz96_1, hfz96_0, hfz96_1⟩ := zZ BK108; have hnb97 := NB101_0.out; have hnc97 := NB0_101.out; obtain ⟨hcz98_0, hcz98_1, hfz98_0, hfz98_1⟩ := zZ BK101))
  refine bodyPost_ret (results_cell_row rfl _ _ gb101 24 #[.int .i64 t102, .slice Ao94 t103.length co94] (0, 0) _ rfl (by refine blk_put (cs := #[.int .i64 t102, .slice none 0 0]) ?_ 1 _ rfl; refine blk_put (cs := #[.int .i64 0, .slice none 0 0]) ?_ 0 _ rfl; exact BK101.out) Tryz.underlying24 rfl (by kernel_rfl)) rfl ?_
  exact ⟨_, fR, by exact Kd.R_mono (Kd.R_far (p := ⟨gb101, 1, none⟩) (Kd.R_far (p := ⟨gb101, 0, none⟩) (Kd.R_types HO105.out BK101.out (by decide)) (fun _ hk => hk.2) (.int .i64 t102)) (fun _ hk => hk.2) (.slice Ao94 t103.length co94)) (fun _ hk => trivial), wHI0_spec_l1Cur_committee, wHB_spec_l1Cur_committee, wHK_spec_l1Cur_committee⟩
 rw [if_pos c48] at H
 have c48b0 : (t109 == 2) = true := beq_iff_eq.mpr c48
 have c48b1 : (t109 != 2) = false := bne_eq_false_iff_eq.mpr c48
 clear c48
 have H' := Aside0.mk H
 clear H
 go_enter Tryz.func52, Tryz.ntmps52
 go_wp2_with (first | ((with_reducible refine gate_dst (N := 4) rfl ?_); refine xE (N := 4) (cs := #[.int .i64 0, .slice none 0 0]) (t := 24) ?_; intro gb101 hg w49 BK101 hb; have GW101 := Aside0.mk ((by rw [hg]; exact (keep_size (w := w) (g := g) (row := none) (wHK_spec_l1Cur_committee)) : w.heap.size ≤ gb101)); have GE101 := Aside0.mk ((Nat.le_trans HW0.out (by rw [hg]; exact (keep_size (w := w) (g := g) (row := none) (wHK_spec_l1Cur_committee)) : w.heap.size ≤ gb101) : w0.heap.size ≤ gb101)); have NB0_101 := Aside0.mk ((by rw [hg]; exact Nat.ne_of_lt (IsS81.lt (show IsS81 w0 _ g s0_0 s0_1 s0_2 from wHI0_spec_l1Cur_committee)) : g ≠ gb101)); have NB101_0 := Aside0.mk ((by rw [hg]; exact Nat.ne_of_gt (IsS81.lt (show IsS81 w0 _ g s0_0 s0_1 s0_2 from wHI0_spec_l1Cur_committee)) : gb101 ≠ g)); replace HK := Aside0.mk (KeepBut.trans (wHK_spec_l1Cur_committee) (KeepBut.of_below hb g none) (.inl rfl)); replace HB := Aside0.mk (below_step (wHB_spec_l1Cur_committee) hb); replace HI0 := Aside0.mk (IsS81.below (wHI0_spec_l1Cur_committee) hb); clear hb hg) | ((with_reducible refine gate_callee (f := 57) rfl ?_); refine gL 8 Tryz.func57 #[.pointer (some ⟨g, 0, none⟩), .int .i64 a1] ?_; (with_reducible refine (spec_l1Cur_sureCommittee.calls k g s0_0 s0_1 s0_2 a1 t102 t103 t106 t107 w0 _ ?side1 ?side2 A3.out).mono ?_); (case side1 => exact wHI0_spec_l1Cur_committee); (case side2 => exact wHB_spec_l1Cur_committee); rintro e w50 ⟨v104, rfl, ho0, hi, hb, hk⟩; refine ⟨_, rfl, ?_⟩; have HO105 := Aside0.mk (Kd.R_lower ho0 (keep_size (w := w) (g := g) (row := none) (wHK_spec_l1Cur_committee))); replace BK101 := Aside0.mk (KeepBut.blk hk (g' := gb101) (o := .cells #[.int .i64 0, .slice none 0 0] 24 (0, 0)) (bQ BK101) NB101_0.out (by simp)); replace HK := Aside0.mk (KeepBut.trans (wHK_spec_l1Cur_committee) hk (.inl rfl)); replace HB := Aside0.mk (hb); replace HI0 := Aside0.mk (hi); (try clear hb); (try clear ho0)) | ((with_reducible refine gate_dst (N := 5) rfl ?_); refine xE (N := 5) (cs := #[.int .i64 0, .slice none 0 0]) (t := 24) ?_; intro gb108 hg w51 BK108 hb; have GW108 := Aside0.mk ((by rw [hg]; exact (keep_size (w := w) (g := g) (row := none) (wHK_spec_l1Cur_committee)) : w.heap.size ≤ gb108)); have GE108 := Aside0.mk ((Nat.le_trans HW0.out (by rw [hg]; exact (keep_size (w := w) (g := g) (row := none) (wHK_spec_l1Cur_committee)) : w.heap.size ≤ gb108) : w0.heap.size ≤ gb108)); have NB101_108 := Aside0.mk ((by rw [hg]; exact Nat.ne_of_lt (blk_lt (g := gb101) (o := .cells #[.int .i64 0, .slice none 0 0] 24 (0, 0)) (bQ BK101)) : gb101 ≠ gb108)); have NB108_101 := Aside0.mk ((by rw [hg]; exact Nat.ne_of_gt (blk_lt (g := gb101) (o := .cells #[.int .i64 0, .slice none 0 0] 24 (0, 0)) (bQ BK101)) : gb108 ≠ gb101)); have NB0_108 := Aside0.mk ((by rw [hg]; exact Nat.ne_of_lt (IsS81.lt (show IsS81 w0 _ g s0_0 t106 t107 from wHI0_spec_l1Cur_committee)) : g ≠ gb108)); have NB108_0 := Aside0.mk ((by rw [hg]; exact Nat.ne_of_gt (IsS81.lt (show IsS81 w0 _ g s0_0 t106 t107 from wHI0_spec_l1Cur_committee)) : gb108 ≠ g)); replace HO105 := rP HO105 hb; replace BK101 := bP BK101 hb; replace HK := Aside0.mk (KeepBut.trans (wHK_spec_l1Cur_committee) (KeepBut.of_below hb g none) (.inl rfl)); replace HB := Aside0.mk (below_step (wHB_spec_l1Cur_committee) hb); replace HI0 := Aside0.mk (IsS81.below (wHI0_spec_l1Cur_committee) hb); clear hb hg; have hnb52 := NB108_101.out; have hnc52 := NB101_108.out; have hnb53 := NB108_0.out; have hnc53 := NB0_108.out; (try clear hcz45_0 hcz45_1 hfz45_0 hfz45_1 hcz47_0 hcz47_1 hfz47_0 hfz47_1); obtain ⟨hcz54_0, hcz54_1, hfz54_0, hfz54_1⟩ := zZ BK108; obtain ⟨Ao55, co55, eo55⟩ := Kd.R_slice HO105.out; subst eo55) | ((with_reducible refine gate_callee (f := 54) rfl ?_); refine gL 10 Tryz.func54 #[.pointer (some ⟨g, 0, none⟩), .int .i64 16] ?_; (with_reducible refine (spec_l1Cur_pick.calls g s0_0 t106 t107 16 t109 t110 t111 w0 _ ?side1 ?side2 A4.out).mono ?_); (case side1 => exact wHI0_spec_l1Cur_committee); (case side2 => exact wHB_spec_l1Cur_committee); rintro e w56 ⟨rfl, hi, hb, hk⟩; refine ⟨_, rfl, ?_⟩; replace BK101 := Aside0.mk (KeepBut.blk hk (g' := gb101) (o := .cells #[.int .i64 0, .slice none 0 0] 24 (0, 0)) (by (with_reducible repeat (first | refine kN ?_ _ | refine kD ?_ | refine kA ?_ _)); refine blk_far ?_ NB101_108.out _; (with_reducible repeat (first | refine kN ?_ _ | refine kD ?_ | refine kA ?_ _)); refine blk_far ?_ NB101_108.out _; (with_reducible repeat (first | refine kN ?_ _ | refine kD ?_ | refine kA ?_ _)); exact BK101.out) NB101_0.out (by simp)); replace HO105 := Aside0.mk (Kd.R_mono (Kd.R_keep (IsS81.apart (show IsS81 w0 _ g s0_0 t106 t107 from wHI0_spec_l1Cur_committee) (by (with_reducible repeat (first | apply qA | apply qN | apply qD)); exact (Kd.R_mono (Kd.R_far (p := ⟨gb108, 1, none⟩) (Kd.R_far (p := ⟨gb108, 0, none⟩) (Kd.R_types HO105.out BK108.out (by decide)) (fun _ hk => hk.2) (.int .i64 t102)) (fun _ hk => hk.2) (.slice Ao55 t103.length co55)) (fun _ h_ => h_.1))) (by decide)) hk (fun _ h => h.2)) (fun _ h => h.1)); replace BK108 := Aside0.mk (KeepBut.blk hk (g' := gb108) (o := .cells #[.int .i64 t102, .slice Ao55 t103.length co55] 24 (0, 0)) (by (with_reducible repeat (first | refine kN ?_ _ | refine kD ?_ | refine kA ?_ _)); refine blk_put (cs := #[.int .i64 t102, .slice none 0 0]) ?_ 1 _ rfl; (with_reducible repeat (first | refine kN ?_ _ | refine kD ?_ | refine kA ?_ _)); refine blk_put (cs := #[.int .i64 0, .slice none 0 0]) ?_ 0 _ rfl; (with_reducible repeat (first | refine kN ?_ _ | refine kD ?_ | refine kA ?_ _)); exact BK108.out) NB108_0.out (by simp)); replace HK := Aside0.mk (KeepBut.trans (wHK_spec_l1Cur_committee) hk (.inl rfl)); replace HB := Aside0.mk (hb); replace HI0 := Aside0.mk (hi); (try clear hb)))
 go_loopg [] k (fun kq w' => ∃ (x1001_1 : Int) (x1002_1 : Int) (x109001_1 : List Int) (u109001 : Value), Aside0 (spec_l1Cur_committee.l0 kq s0_0 x1001_1 x1002_1 t102 x109001_1 = some (r1, r2, r3, r4)) ∧ Aside0 (kq ≤ k) ∧ Aside0 (Kd.R (Kd.int .i64) 3 w' w.heap.size (fun _ => True) u109001 x109001_1) ∧ Aside0 (w'.heap[gb101]? = some (.cells #[.int .i64 0, (.slice none 0 0)] 24 (0, 0))) ∧ Aside0 (w'.heap[gb108]? = some (.cells #[.int .i64 t102, u109001] 24 (0, 0))) ∧ Aside0 (IsS81 w0 w' g s0_0 x1001_1 x1002_1) ∧ Aside0 (KeepBut w w' g none) ∧ Aside0 (Below w0.heap.size w0 w'))
 case atStart => exact ⟨(t110), (t111), (t103), (.slice Ao55 t103.length co55), H', ⟨Nat.le_refl _⟩, ⟨rQ HO105⟩, ⟨bQ BK101⟩, ⟨bQ BK108⟩, ⟨wHI0_spec_l1Cur_committee⟩, ⟨wHK_spec_l1Cur_committee⟩, ⟨wHB_spec_l1Cur_committee⟩⟩
 case round =>
  clear H'
  (try clear c1); (try clear c2); (try clear p2); (try clear q2); (try clear hx2); (try clear qi2); (try clear hf2); (try clear c3); (try clear c4); (try clear c5); (try clear c5b0); (try clear c5b1); (try clear c6); (try clear p6); (try clear c8); (try clear c12); (try clear c13); (try clear c24); (try clear c26); (try clear c26b0); (try clear c26b1); (try clear c28); (try clear c28b0); (try clear c28b1); (try clear p29); (try clear q29); (try clear hx29); (try clear qi29); (try clear hf29); (try clear c33); (try clear c34); (try clear c46); (try clear c48); (try clear c48b0); (try clear c48b1); (try clear c52); (try clear c53); (try clear c54); (try clear hcz54_0); (try clear hcz54_1); (try clear hfz54_0); (try clear hfz54_1); (try clear hx29_0); (try clear p29); (try clear q29)
  obtain ⟨x1001_1, x1002_1, x109001_1, u109001, HA, HK1, HO_109001, BK101, BK108, HI0, HK, HB⟩ := hrel
  cases gk with
  | zero => exact absurd HA.out (by simp [spec_l1Cur_committee.l0])
  | succ k1 =>
   have H := HA.out
   clear HA
   simp only [spec_l1Cur_committee.l0] at H
   replace H := oB H
   obtain ⟨⟨t127, t128, t129⟩, A570, H⟩ := H
   (try dsimp only at H)
   have A57 := Aside0.mk A570
   clear A570
   by_cases c58 : (x109001_1.length : Int) < (wrap64 (9 + t127))
   rotate_left
   ·rw [if_neg c58] at H
    have c58b0 : decide ((x109001_1.length : Int) < (wrap64 (9 + t127))) = false := decide_eq_false c58
    clear c58
    simp only [Option.some.injEq, Prod.mk.injEq] at H
    obtain ⟨rfl, rfl, rfl, rfl⟩ := H
    try go_wp2
    replace HO_109001 := rD HO_109001
    replace BK101 := bD BK101
    replace BK108 := bD BK108
    replace HI0 := Aside0.mk (IsS81.drew HI0.out)
    replace HK := Aside0.mk (keep_drew HK.out)
    replace HB := Aside0.mk (below_drew1 HB.out)
    obtain ⟨Ao70, co70, eo70⟩ := Kd.R_slice HO_109001.out
    (first | subst eo70 | (injection eo70 with f1_ f2_ f3_; have f4_ := f1_.symm; have f5_ := f3_.symm; clear f1_ f2_ f3_; subst f4_; subst f5_))
    refine start_ (n := 7) (S := fun w' => w'.cell? ⟨gb108, 0, none⟩ = some (.int .i64 t102) ∧ w'.cell? ⟨gb108, 1, none⟩ = some (.slice Ao70 x109001_1.length co70)) (ds := []) #[F,F,F,F,F,F,F] (by kernel_rfl) rfl rfl ⟨(blk_cell BK108.out 0).trans rfl, (blk_cell BK108.out 1).trans rfl⟩ (fun hHeld => ?_)
    (try clear hcz68_0 hcz68_1 hfz68_0 hfz68_1)
    generalize wr.drew = w69 at HO_109001 BK101 BK108 HI0 HK HB hHeld ⊢
    refine pure_ (i := 0) (N := some 34) (v := ?_) (a' := ?_) #[T,F,F,F,F,F,F] rfl rfl (by kernel_rfl) (fun _ _ _ h => h) (Or.inl ⟨by rfl, ?_⟩) ?_ ?_
    rotate_left
    ·intro w'
     go_simp
     with_reducible rfl
    rotate_left
    ·simp only [Act.put, sA, sZ, sS, i64_w, i32_w]
     rfl
    refine pure_ (i := 3) (N := some 37) (v := ?_) (a' := ?_) #[T,F,F,T,F,F,F] rfl rfl (by kernel_rfl) (fun _ _ _ h => h) (Or.inl ⟨by rfl, ?_⟩) ?_ ?_
    rotate_left
    ·intro w'
     go_simp
     with_reducible rfl
    rotate_left
    ·simp only [Act.put, sA, sZ, sS, i64_w, i32_w]
     rfl
    refine take_ (i := 1) (N := some 35) (v := ?_) (a' := ?_) #[T,T,F,T,F,F,F] rfl rfl (by kernel_rfl) (fun _ _ _ h => h) (Or.inl ⟨by rfl, ?_⟩) hHeld ?_ ?_
    rotate_left
    ·rintro w' ⟨s0, s1⟩
     go_simp
     with_reducible rfl
    rotate_left
    ·simp only [Act.put, sA, sZ, sS, i64_w, i32_w]
     rfl
    refine pure_ (i := 2) (N := some 36) (v := ?_) (a' := ?_) #[T,T,T,T,F,F,F] rfl rfl (by kernel_rfl) (fun _ _ _ h => h) (Or.inl ⟨by rfl, ?_⟩) ?_ ?_
    rotate_left
    ·intro w'
     go_simp
     with_reducible rfl
    rotate_left
    ·simp only [Act.put, sA, sZ, sS, i64_w, i32_w]
     rfl
    refine one_ (i := 4) (N := some 38) #[T,T,T,T,T,F,F] rfl rfl (by kernel_rfl) (by decide) (fun K hK => ?_)
    refine gE Tryz.func54 #[.pointer (some ⟨g, 0, none⟩), .int .i64 2] ?_
    with_reducible refine (spec_l1Cur_pick.calls g s0_0 x1001_1 x1002_1 2 t127 t128 t129 w0 _ ?side1 ?side2 A57.out).mono ?_
    (case side1 => exact wHI0_spec_l1Cur_committee)
    (case side2 => exact wHB_spec_l1Cur_committee)
    rintro e w71 ⟨rfl, hi, hb, hk⟩
    refine ⟨_, rfl, ?_⟩
    replace HO_109001 := Aside0.mk (Kd.R_mono (Kd.R_keep (IsS81.apart (show IsS81 w0 _ g s0_0 x1001_1 x1002_1 from wHI0_spec_l1Cur_committee) HO_109001.out (by decide)) hk (fun _ h => h.2)) (fun _ h => h.1))
    replace BK101 := Aside0.mk (KeepBut.blk hk (g' := gb101) (o := .cells #[.int .i64 0, .slice none 0 0] 24 (0, 0)) BK101.out NB101_0.out (by simp))
    replace BK108 := Aside0.mk (KeepBut.blk hk (g' := gb108) (o := .cells #[.int .i64 t102, .slice Ao70 x109001_1.length co70] 24 (0, 0)) BK108.out NB108_0.out (by simp))
    replace HK := Aside0.mk (KeepBut.trans (wHK_spec_l1Cur_committee) hk (.inl rfl))
    replace HB := Aside0.mk (hb)
    replace HI0 := Aside0.mk (hi)
    (try clear hb)
    (try clear hb2)
    (try clear hk)
    (try clear hi)
    refine hK.out _ _ ⟨(blk_cell BK108.out 0).trans rfl, (blk_cell BK108.out 1).trans rfl⟩ (fun hHeld => ?_)
    clear hK K
    refine nM ?_
    refine pure_ (i := 5) (N := some 39) (v := ?_) (a' := ?_) #[T,T,T,T,T,T,F] rfl rfl (by kernel_rfl) (fun _ _ _ h => h) (Or.inl ⟨by rfl, ?_⟩) ?_ ?_
    rotate_left
    ·intro w'
     go_simp
     with_reducible rfl
    rotate_left
    ·simp only [Act.put, sA, sZ, sS, i64_w, i32_w]
     rfl
    refine pure_ (i := 6) (N := some 40) (v := ?_) (a' := ?_) #[T,T,T,T,T,T,T] rfl rfl (by kernel_rfl) (fun _ _ _ h => h) (Or.inl ⟨by rfl, ?_⟩) ?_ ?_
    rotate_left
    ·intro w'
     go_simp
     with_reducible rfl
    rotate_left
    ·simp only [Act.put, sA, sZ, sS, i64_w, i32_w]
     rfl
    refine done_ (by kernel_rfl) ?_
    have hnb72 := NB108_101.out
    have hnc72 := NB101_108.out
    have hnb73 := NB108_0.out
    have hnc73 := NB0_108.out
    obtain ⟨hcz74_0, hcz74_1, hfz74_0, hfz74_1⟩ := zZ BK108
    have hnb75 := NB101_0.out
    have hnc75 := NB0_101.out
    obtain ⟨hcz76_0, hcz76_1, hfz76_0, hfz76_1⟩ := zZ BK101
    try go_wp2
    refine bodyPost_ret (results_cell_row rfl _ _ gb101 24 #[.int .i64 t102, .slice Ao70 x109001_1.length co70] (0, 0) _ rfl (by refine blk_put (cs := #[.int .i64 t102, .slice none 0 0]) ?_ 1 _ rfl; refine blk_put (cs := #[.int .i64 0, .slice none 0 0]) ?_ 0 _ rfl; exact BK101.out) Tryz.underlying24 rfl (by kernel_rfl)) rfl ?_
    exact ⟨_, fR, by exact Kd.R_mono (Kd.R_far (p := ⟨gb101, 1, none⟩) (Kd.R_far (p := ⟨gb101, 0, none⟩) (Kd.R_types HO_109001.out BK101.out (by decide)) (fun _ hk => hk.2) (.int .i64 t102)) (fun _ hk => hk.2) (.slice Ao70 x109001_1.length co70)) (fun _ hk => trivial), wHI0_spec_l1Cur_committee, wHB_spec_l1Cur_committee, wHK_spec_l1Cur_committee⟩
   rw [if_pos c58] at H
   have c58b0 := decide_eq_true c58
   clear c58
   by_cases c59 : x109001_1.length < 17592186044416
   rotate_left
   ·rw [if_neg c59] at H
    exact absurd H (by simp)
   rw [if_pos c59] at H
   have LMc59 := Aside0.mk c59
   clear c59
   obtain ⟨y130, hy130⟩ : ∃ y_ : List Int, y_ = (x109001_1 ++ [1]) := ⟨_, rfl⟩
   replace H : (spec_l1Cur_committee.l0 k1 s0_0 t128 t129 t102 y130) = some (r1, r2, r3, r4) := by first | (rw [hy130]; with_reducible exact H) | (have H2_ := (Option.bind_some _ _).symm.trans H; rw [hy130]; with_reducible exact H2_) | (have H2_ := (Option.bind_some _ _).symm.trans H; with_reducible exact H2_) | with_reducible exact H | (rw [hy130]; exact H) | exact H
   have Ny130 := Aside0.mk hy130
   clear hy130
   have H' := Aside0.mk H
   clear H
   try go_wp2
   replace HO_109001 := rD HO_109001
   replace BK101 := bD BK101
   replace BK108 := bD BK108
   replace HI0 := Aside0.mk (IsS81.drew HI0.out)
   replace HK := Aside0.mk (keep_drew HK.out)
   replace HB := Aside0.mk (below_drew1 HB.out)
   obtain ⟨Ao61, co61, eo61⟩ := Kd.R_slice HO_109001.out
   (first | subst eo61 | (injection eo61 with f1_ f2_ f3_; have f4_ := f1_.symm; have f5_ := f3_.symm; clear f1_ f2_ f3_; subst f4_; subst f5_))
   refine start_ (n := 7) (S := fun w' => w'.cell? ⟨gb108, 0, none⟩ = some (.int .i64 t102) ∧ w'.cell? ⟨gb108, 1, none⟩ = some (.slice Ao61 x109001_1.length co61)) (ds := []) #[F,F,F,F,F,F,F] (by kernel_rfl) rfl rfl ⟨(blk_cell BK108.out 0).trans rfl, (blk_cell BK108.out 1).trans rfl⟩ (fun hHeld => ?_)
   generalize wr.drew = w60 at HO_109001 BK101 BK108 HI0 HK HB hHeld ⊢
   refine pure_ (i := 0) (N := some 34) (v := ?_) (a' := ?_) #[T,F,F,F,F,F,F] rfl rfl (by kernel_rfl) (fun _ _ _ h => h) (Or.inl ⟨by rfl, ?_⟩) ?_ ?_
   rotate_left
   ·intro w'
    go_simp
    with_reducible rfl
   rotate_left
   ·simp only [Act.put, sA, sZ, sS, i64_w, i32_w]
    rfl
   refine pure_ (i := 3) (N := some 37) (v := ?_) (a' := ?_) #[T,F,F,T,F,F,F] rfl rfl (by kernel_rfl) (fun _ _ _ h => h) (Or.inl ⟨by rfl, ?_⟩) ?_ ?_
   rotate_left
   ·intro w'
    go_simp
    with_reducible rfl
   rotate_left
   ·simp only [Act.put, sA, sZ, sS, i64_w, i32_w]
    rfl
   refine take_ (i := 1) (N := some 35) (v := ?_) (a' := ?_) #[T,T,F,T,F,F,F] rfl rfl (by kernel_rfl) (fun _ _ _ h => h) (Or.inl ⟨by rfl, ?_⟩) hHeld ?_ ?_
   rotate_left
   ·rintro w' ⟨s0, s1⟩
    go_simp
    with_reducible rfl
   rotate_left
   ·simp only [Act.put, sA, sZ, sS, i64_w, i32_w]
    rfl
   refine pure_ (i := 2) (N := some 36) (v := ?_) (a' := ?_) #[T,T,T,T,F,F,F] rfl rfl (by kernel_rfl) (fun _ _ _ h => h) (Or.inl ⟨by rfl, ?_⟩) ?_ ?_
   rotate_left
   ·intro w'
    go_simp
    with_reducible rfl
   rotate_left
   ·simp only [Act.put, sA, sZ, sS, i64_w, i32_w]
    rfl
   refine one_ (i := 4) (N := some 38) #[T,T,T,T,T,F,F] rfl rfl (by kernel_rfl) (by decide) (fun K hK => ?_)
   refine gE Tryz.func54 #[.pointer (some ⟨g, 0, none⟩), .int .i64 2] ?_
   with_reducible refine (spec_l1Cur_pick.calls g s0_0 x1001_1 x1002_1 2 t127 t128 t129 w0 _ ?side1 ?side2 A57.out).mono ?_
   (case side1 => exact wHI0_spec_l1Cur_committee)
   (case side2 => exact wHB_spec_l1Cur_committee)
   rintro e w62 ⟨rfl, hi, hb, hk⟩
   refine ⟨_, rfl, ?_⟩
   replace HO_109001 := Aside0.mk (Kd.R_mono (Kd.R_keep (IsS81.apart (show IsS81 w0 _ g s0_0 x1001_1 x1002_1 from wHI0_spec_l1Cur_committee) HO_109001.out (by decide)) hk (fun _ h => h.2)) (fun _ h => h.1))
   replace BK101 := Aside0.mk (KeepBut.blk hk (g' := gb101) (o := .cells #[.int .i64 0, .slice none 0 0] 24 (0, 0)) BK101.out NB101_0.out (by simp))
   replace BK108 := Aside0.mk (KeepBut.blk hk (g' := gb108) (o := .cells #[.int .i64 t102, .slice Ao61 x109001_1.length co61] 24 (0, 0)) BK108.out NB108_0.out (by simp))
   replace HK := Aside0.mk (KeepBut.trans (wHK_spec_l1Cur_committee) hk (.inl rfl))
   replace HB := Aside0.mk (hb)
   replace HI0 := Aside0.mk (hi)
   (try clear hb)
   (try clear hb2)
   (try clear hk)
   (try clear hi)
   refine hK.out _ _ ⟨(blk_cell BK108.out 0).trans rfl, (blk_cell BK108.out 1).trans rfl⟩ (fun hHeld => ?_)
   clear hK K
   refine nM ?_
   refine pure_ (i := 5) (N := some 39) (v := ?_) (a' := ?_) #[T,T,T,T,T,T,F] rfl rfl (by kernel_rfl) (fun _ _ _ h => h) (Or.inl ⟨by rfl, ?_⟩) ?_ ?_
   rotate_left
   ·intro w'
    go_simp
    with_reducible rfl
   rotate_left
   ·simp only [Act.put, sA, sZ, sS, i64_w, i32_w]
    rfl
   refine pure_ (i := 6) (N := some 40) (v := ?_) (a' := ?_) #[T,T,T,T,T,T,T] rfl rfl (by kernel_rfl) (fun _ _ _ h => h) (Or.inl ⟨by rfl, ?_⟩) ?_ ?_
   rotate_left
   ·intro w'
    go_simp
    with_reducible rfl
   rotate_left
   ·simp only [Act.put, sA, sZ, sS, i64_w, i32_w]
    rfl
   refine done_ (by kernel_rfl) ?_
   have hnb63 := NB108_101.out
   have hnc63 := NB101_108.out
   have hnb64 := NB108_0.out
   have hnc64 := NB0_108.out
   obtain ⟨hcz65_0, hcz65_1, hfz65_0, hfz65_1⟩ := zZ BK108
   try go_wp2_with (first | ((with_reducible refine gate_builtin (b := .append) (xs := #[.tmp 42, .tmp 43]) rfl ?_); at_builtin; refine Kd.R_append (Kd.int .i64) w.heap.size rfl (.tmp 42) (.tmp 43) 22 3 (.int .i64 0) 8 rfl Tryz.underlying22 info3 rfl (by decide) (by omega) (.slice Ao61 x109001_1.length co61) x109001_1 1 [.int .i64 1] (fun _ => True) (fun _ => False) rfl rfl ?aP (fun _ hk => hk.elim) ?aF ?aO (Below.refl _ _) ?aS ?aL ?_; (case aP => exact rfl); (case aF => exact (fun _ _ => trivial)); (case aO => exact HO_109001.out); (case aS => exact (keep_size (w := w) (g := g) (row := none) (wHK_spec_l1Cur_committee))); (case aL => have := LMc59.out; omega); intro v131 w66 ho hb hg hat; rw [← Ny130.out] at ho; have HO132 := Aside0.mk (ho); replace BK101 := Aside0.mk (blk_grown (g := gb101) (o := .cells #[.int .i64 0, .slice none 0 0] 24 (0, 0)) BK101.out hg (Kd.R_ne HO_109001.out BK101.out (by decide))); replace BK108 := Aside0.mk (blk_grown (g := gb108) (o := .cells #[.int .i64 t102, .slice Ao61 x109001_1.length co61] 24 (0, 0)) BK108.out hg (Kd.R_ne HO_109001.out BK108.out (by decide))); replace HB := Aside0.mk (below_weaken (wHB_spec_l1Cur_committee) HL.out hb); replace HI0 := Aside0.mk (IsS81.grown (wHI0_spec_l1Cur_committee) hg (IsS81.own_ne HI0.out HO_109001.out (by decide))); replace HK := Aside0.mk (KeepBut.trans (wHK_spec_l1Cur_committee) (KeepBut.of_grown hg g) (Kd.R_base2 HO_109001.out)); clear ho hb hg hat; obtain ⟨Ao67, co67, eo67⟩ := Kd.R_slice HO132.out; subst eo67; (try clear hcz65_0 hcz65_1 hfz65_0 hfz65_1); obtain ⟨hcz68_0, hcz68_1, hfz68_0, hfz68_1⟩ := zZ BK108))
   go_roundg k1
   case measure => have := HK1.out; omega
   case rel => exact ⟨(t128), (t129), (y130), (.slice Ao67 y130.length co67), H', ⟨by have := HK1.out; omega⟩, ⟨by exact Kd.R_mono (Kd.R_far (p := ⟨gb108, 1, none⟩) (Kd.R_types HO132.out BK108.out (by decide)) (fun _ hk => hk.2) (.slice Ao67 y130.length co67)) (fun _ hk => trivial)⟩, ⟨by refine blk_far ?_ NB101_108.out _; exact BK101.out⟩, ⟨by refine blk_put (cs := #[.int .i64 t102, .slice Ao61 x109001_1.length co61]) ?_ 1 _ rfl; exact BK108.out⟩, ⟨wHI0_spec_l1Cur_committee⟩, ⟨wHK_spec_l1Cur_committee⟩, ⟨wHB_spec_l1Cur_committee⟩⟩
end Go.Proofs.YtaambkdiokbdgacGreatDoor.Q
