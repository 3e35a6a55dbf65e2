/- Printed functions, their contracts and plain facts on them: QSpecL1Read; QSpecVoParse; QSpecParseCommittee; QLawsMSum; QImplVotesIsLeast; QCmpIsNaNInt; QCmpCompareInt; QSlicesCompareIntInt; QImplSetOf; QImplVotesSets; QI. Conditions: as each theorem states. -/
import Derived.Test.YtaambkdiokbdgacGreatDoorGCommitteesChangeOfAllx1
import Derived.Test.YtaambkdiokbdgacGreatDoorGCommitteesChangeOfAllx2
set_option maxHeartbeats 40000000
set_option maxRecDepth 100000
namespace Go.Proofs.YtaambkdiokbdgacGreatDoor.Q
open Go.RowKit Go.Proofs.YtaambkdiokbdgacGreatDoorX Go.Proofs.YtaambkdiokbdgacGreatDoorY Go.Proofs.YtaambkdiokbdgacGreatDoorW.PrintWords Go.Proofs.YtaambkdiokbdgacGreatDoorW.PrintLast Go.Proofs.YtaambkdiokbdgacGreatDoorW.PrintMore
attribute [local go_sem] max2_int min2_int max_two min_two max_three min_three max_four min_four   -- for this text's walks alone
set_option linter.unusedVariables false
set_option linter.unusedSimpArgs false
mutual
def spec_l1Read.j0 : Nat → ByteArray → Bool → Option (Int)
 | 0, _, _ => none
 | k + 1, x0, x18 => if x18 = true then (some (-1)) else (spec_l1Read.l0 k x0 0 0)
def spec_l1Read.l0 : Nat → ByteArray → Int → Int → Option (Int)
 | 0, _, _, _ => none
 | k + 1, x0, x3, x4 => if x4 < (x0.size : Int) then (if 0 ≤ x4 then (if (bt x0 x4) < 48 then (some (-1)) else (if (bt x0 x4) > 57 then (some (-1)) else (spec_l1Read.l0 k x0 (wrap64 ((wrap64 (10 * x3)) + (((bt x0 x4) - 48) % 256))) (wrap64 (x4 + 1))))) else (none)) else (some x3)
end
def spec_l1Read.f (k : Nat) (a0 : ByteArray) : Option (Int) := (spec_l1In.f (a0.size : Int) 1 6).bind fun t101 => (if t101 = true then (if 0 < (a0.size : Int) then (if (bt a0 0) = 48 then (spec_l1Read.j0 k a0 (decide ((a0.size : Int) > 1))) else (spec_l1Read.j0 k a0 false)) else (none)) else (spec_l1Read.j0 k a0 true))
theorem spec_l1Read.calls (k : Nat) (a0 : ByteArray) (r : Int) (w : World) (h : spec_l1Read.f k a0 = some r) :
  Calls Tryz.prog 77 #[.string a0] w fun e w' => e = .returned (.int .i64 r) ∧ Drawn0 w w' := by
 have H := h
 unfold spec_l1Read.f at H
 clear h
 have HC2 := Aside0.mk H
 clear H
 go_enter Tryz.func77, Tryz.ntmps77
 go_upto_region 1 with (fail)
 go_cut [18] (fun v18 wc => ∃ (kq : Nat) (x18_1 : Bool), v18 = .bool x18_1 ∧ Aside0 (spec_l1Read.j0 kq a0 x18_1 = some r) ∧ Aside0 (kq ≤ k) ∧ Drawn0 w wc)
 case first =>
  have H := HC2.out
  clear HC2
  replace H := oB H
  obtain ⟨t101, A30, H⟩ := H
  replace H : (if t101 = true then (if 0 < (a0.size : Int) then (if (bt a0 0) = 48 then (spec_l1Read.j0 k a0 (decide ((a0.size : Int) > 1))) else (spec_l1Read.j0 k a0 false)) else (none)) else (spec_l1Read.j0 k a0 true)) = some r := H
  have A3 := Aside0.mk A30
  clear A30
  by_cases c4 : t101 = true
  rotate_left
  ·replace c4 := Bool.eq_false_iff.mpr c4
   subst c4
   replace H := iF H
   have H' := Aside0.mk H
   clear H
   go_wp2_with (first | ((with_reducible refine gate_callee (f := 37) rfl ?_); refine gL 7 Tryz.func37 #[.int .i64 (a0.size : Int), .int .i64 1, .int .i64 6] ?_; (with_reducible refine (spec_l1In.calls (a0.size : Int) 1 6 false _ A3.out).mono ?_); rintro e w' ⟨rfl, ⟨nd, rfl⟩⟩; refine ⟨_, rfl, ?_⟩))
   go_meet
   case rel => exact ⟨_, (true), gR, H', ⟨by first | omega | exact Nat.le_refl _⟩, dS⟩
  subst c4
  replace H := iT H
  by_cases c5 : 0 < (a0.size : Int)
  rotate_left
  ·rw [if_neg c5] at H
   exact absurd H (by simp)
  rw [if_pos c5] at H
  have c5b0 := decide_eq_true c5
  have c5b1 : decide (0 < a0.size) = true := decide_eq_true (by omega)
  clear c5
  (first | rw [c5b0] | (simp only [i64_w, i32_w]; rw [c5b0]) | skip)
  by_cases c7 : (bt a0 0) = 48
  rotate_left
  ·rw [if_neg c7] at H
   have c7b0 : ((bt a0 0) == 48) = false := beq_eq_false_iff_ne.mpr c7
   have c7b1 : ((bt a0 0) != 48) = true := bne_iff_ne.mpr c7
   have H' := Aside0.mk H
   clear H
   go_wp2_with (first | ((with_reducible refine gate_callee (f := 37) rfl ?_); refine gL 7 Tryz.func37 #[.int .i64 (a0.size : Int), .int .i64 1, .int .i64 6] ?_; (with_reducible refine (spec_l1In.calls (a0.size : Int) 1 6 true _ A3.out).mono ?_); rintro e w' ⟨rfl, ⟨nd, rfl⟩⟩; refine ⟨_, rfl, ?_⟩; have p6 : 0 ≤ (0 : Int) := (by omega); have q6 : 0 < a0.size := (by have : (0 : Int) < (a0.size : Int) := oD; omega); have hx6 : ∀ h : 0 < a0.size, ((a0[0]'h).toNat : Int) = bt a0 0 := bt_at a0 0; clear p6; have qi6 : (0 < (a0.size : Int)) = True := eq_true (oD); replace q6 := eq_true q6))
   go_meet
   case rel => exact ⟨_, (false), gR, H', ⟨by first | omega | exact Nat.le_refl _⟩, dS⟩
  rw [if_pos c7] at H
  have c7b0 : ((bt a0 0) == 48) = true := beq_iff_eq.mpr c7
  have c7b1 : ((bt a0 0) != 48) = false := bne_eq_false_iff_eq.mpr c7
  clear c7
  have H' := Aside0.mk H
  clear H
  go_wp2_with (first | ((with_reducible refine gate_callee (f := 37) rfl ?_); refine gL 7 Tryz.func37 #[.int .i64 (a0.size : Int), .int .i64 1, .int .i64 6] ?_; (with_reducible refine (spec_l1In.calls (a0.size : Int) 1 6 true _ A3.out).mono ?_); rintro e w' ⟨rfl, ⟨nd, rfl⟩⟩; refine ⟨_, rfl, ?_⟩; have p6 : 0 ≤ (0 : Int) := (by omega); have q6 : 0 < a0.size := (by have : (0 : Int) < (a0.size : Int) := oD; omega); have hx6 : ∀ h : 0 < a0.size, ((a0[0]'h).toNat : Int) = bt a0 0 := bt_at a0 0; clear p6; have qi6 : (0 < (a0.size : Int)) = True := eq_true (oD); replace q6 := eq_true q6))
  go_meet
  case rel => exact ⟨_, (decide ((a0.size : Int) > 1)), gR, H', ⟨by first | omega | exact Nat.le_refl _⟩, dS⟩
 case rest =>
  clear HC2
  try clear p2
  try clear c3
  try clear c4
  try clear c5
  try clear c5b0
  try clear c5b1
  try clear p6
  try clear q6
  try clear hx6
  try clear qi6
  try clear c7
  try clear c7b0
  try clear c7b1
  try clear p6
  try clear q6
  obtain ⟨kq, x18_1, rfl, HA, HJ1, ⟨mc1, rfl⟩⟩ := hcut
  cases kq with
  | zero => exact absurd HA.out (by simp [spec_l1Read.j0])
  | succ kj1 =>
   have H := HA.out
   clear HA
   simp only [spec_l1Read.j0] at H
   by_cases c8 : x18_1 = true
   ·subst c8
    replace H := iT H
    obtain rfl := Option.some.inj H
    go_wp2
    go_ret
    exact ⟨by first | rfl | (simp; done) | (simp [*]; done), dS⟩
   replace c8 := Bool.eq_false_iff.mpr c8
   subst c8
   replace H := iF H
   have H' := Aside0.mk H
   clear H
   go_wp2
   go_loopg [3, 4] kj1 (fun kq v3 v4 w' => ∃ (x3_2 : Int) (x4_2 : Int), v3 = .int .i64 x3_2 ∧ v4 = .int .i64 x4_2 ∧ Aside0 (spec_l1Read.l0 kq a0 x3_2 x4_2 = some r) ∧ Aside0 (kq ≤ kj1) ∧ Drawn0 w w')
   case atStart => exact ⟨(0), (0), gR, gR, H', ⟨Nat.le_refl _⟩, dS⟩
   case round =>
    clear H'
    try clear c1
    try clear p2
    try clear c3
    try clear c4
    try clear c5
    try clear c5b0
    try clear c5b1
    try clear p6
    try clear q6
    try clear hx6
    try clear qi6
    try clear c7
    try clear c7b0
    try clear c7b1
    try clear c8
    try clear p2
    try clear p6
    try clear q6
    obtain ⟨x3_2, x4_2, rfl, rfl, HA, HK2, ⟨m2, rfl⟩⟩ := hrel
    cases gk with
    | zero => exact absurd HA.out (by simp [spec_l1Read.l0])
    | succ k2 =>
     have H := HA.out
     clear HA
     simp only [spec_l1Read.l0] at H
     by_cases c9 : x4_2 < (a0.size : Int)
     rotate_left
     ·rw [if_neg c9] at H
      have c9b0 : decide (x4_2 < (a0.size : Int)) = false := decide_eq_false c9
      clear c9
      obtain rfl := Option.some.inj H
      go_wp2
      go_ret
      exact ⟨by first | rfl | (simp; done) | (simp [*]; done), dS⟩
     rw [if_pos c9] at H
     have c9b0 := decide_eq_true c9
     clear c9
     by_cases c10 : 0 ≤ x4_2
     rotate_left
     ·rw [if_neg c10] at H
      exact absurd H (by simp)
     rw [if_pos c10] at H
     have c10b0 := decide_eq_true c10
     clear c10
     by_cases c12 : (bt a0 x4_2) < 48
     ·rw [if_pos c12] at H
      have c12b0 := decide_eq_true c12
      clear c12
      obtain rfl := Option.some.inj H
      have p11 : 0 ≤ (x4_2 : Int) := oD
      have q11 : x4_2 < (a0.size : Int) := oD
      have hx11 := bt_at a0 x4_2
      replace p11 := eq_true p11
      replace q11 := eq_true q11
      go_wp2
      go_ret
      exact ⟨by first | rfl | (simp; done) | (simp [*]; done), dS⟩
     rw [if_neg c12] at H
     have c12b0 : decide ((bt a0 x4_2) < 48) = false := decide_eq_false c12
     clear c12
     by_cases c14 : (bt a0 x4_2) > 57
     ·rw [if_pos c14] at H
      have c14b0 : decide (57 < (bt a0 x4_2)) = true := decide_eq_true c14
      clear c14
      obtain rfl := Option.some.inj H
      have p11 : 0 ≤ (x4_2 : Int) := oD
      have q11 : x4_2 < (a0.size : Int) := oD
      have hx11 := bt_at a0 x4_2
      replace p11 := eq_true p11
      replace q11 := eq_true q11
      have p13 : 0 ≤ (x4_2 : Int) := oD
      have q13 : x4_2 < (a0.size : Int) := oD
      have hx13 := bt_at a0 x4_2
      replace p13 := eq_true p13
      replace q13 := eq_true q13
      go_wp2
      go_ret
      exact ⟨by first | rfl | (simp; done) | (simp [*]; done), dS⟩
     rw [if_neg c14] at H
     have c14b0 : decide (57 < (bt a0 x4_2)) = false := decide_eq_false c14
     clear c14
     have H' := Aside0.mk H
     clear H
     have p11 : 0 ≤ (x4_2 : Int) := oD
     have q11 : x4_2 < (a0.size : Int) := oD
     have hx11 := bt_at a0 x4_2
     replace p11 := eq_true p11
     replace q11 := eq_true q11
     have p13 : 0 ≤ (x4_2 : Int) := oD
     have q13 : x4_2 < (a0.size : Int) := oD
     have hx13 := bt_at a0 x4_2
     replace p13 := eq_true p13
     replace q13 := eq_true q13
     have p15 : 0 ≤ (x4_2 : Int) := oD
     have q15 : x4_2 < (a0.size : Int) := oD
     have hx15 := bt_at a0 x4_2
     replace p15 := eq_true p15
     replace q15 := eq_true q15
     go_wp2
     go_roundg k2
     case measure => have := HJ1.out; have := HK2.out; omega
     case rel => exact ⟨(wrap64 ((wrap64 (10 * x3_2)) + (((bt a0 x4_2) - 48) % 256))), (wrap64 (x4_2 + 1)), gR, gR, H', ⟨by have := HJ1.out; have := HK2.out; omega⟩, dS⟩
mutual
def spec_voParse.j0 : Nat → ByteArray → List ByteArray → Bool → Option (Int × List Int × Bool)
 | 0, _, _, _ => none
 | k + 1, x0, x4, x17 => if x17 = true then (some (0, ([] : List Int), false)) else (if 0 < (x4.length : Int) then ((spec_l1Read.f k (rdOf ByteArray.empty x4 0)).bind fun t106 => (if 1 < (x4.length : Int) then ((spec_l1Split.f k (rdOf ByteArray.empty x4 1) 44).bind fun t109 => (spec_voParse.l0 k x0 t109 (t109.length : Int) 0 t106 ([] : List Int))) else (none))) else (none))
def spec_voParse.l0 : Nat → ByteArray → List ByteArray → Int → Int → Int → List Int → Option (Int × List Int × Bool)
 | 0, _, _, _, _, _, _ => none
 | k + 1, x0, x27, x28, x29, x108000, x108001 => if x29 < x28 then (if 0 ≤ x29 then (if x29 < (x27.length : Int) then ((spec_l1Read.f k (rdOf ByteArray.empty x27 x29)).bind fun t113 => (if x108001.length < 17592186044416 then (spec_voParse.l0 k x0 x27 x28 (wrap64 (x29 + 1)) x108000 (x108001 ++ [t113])) else (none))) else (none)) else (none)) else ((spec_voGood.f k x108000 x108001).bind fun t117 => (if t117 = true then ((spec_voText.f k x108000 x108001).bind fun t118 => (some (x108000, x108001, (t118.toList == x0.toList)))) else (some (x108000, x108001, false))))
end
def spec_voParse.f (k : Nat) (a0 : ByteArray) : Option (Int × List Int × Bool) := (spec_l1Split.f k a0 58).bind fun t102 => (if (a0.size : Int) > 60 then (spec_voParse.j0 k a0 t102 true) else (spec_voParse.j0 k a0 t102 ((t102.length : Int) != 2)))
def spec_voParse.T8 : Bool × List (List Nat × List Nat) := (true, [([], []), ([0], [0]), ([], []), ([2], [2]), ([3], [3]), ([1, 4, 3], [1, 4]), ([0, 1, 2, 3, 4, 5], []), ([6, 5, 5, 0, 1, 2, 3, 4, 5], [5, 6])])
def spec_voParse.B8 : List Nat := [0, 1, 0, 4, 12, 31, 63, 127]
theorem spec_voParse.tab8 : rtab .any (opsOf Tryz.f47 8) = spec_voParse.T8 := by kernel_rfl
theorem spec_voParse.bits8 : waitsOk spec_voParse.T8.2 spec_voParse.B8 = true := by kernel_rfl
def spec_voParse.T10 : Bool × List (List Nat × List Nat) := (true, [([], []), ([], []), ([1], [1]), ([2, 2], [2]), ([3], [3]), ([4, 3, 3], [3, 4]), ([3], [3]), ([5, 6, 3], [3, 5, 6]), ([3, 7], [3, 7]), ([0, 5, 0], [0]), ([8, 9, 0, 1, 2, 3, 4, 5, 6, 7, 8, 9], [8])])
def spec_voParse.B10 : List Nat := [0, 0, 2, 6, 14, 30, 14, 126, 254, 63, 1023]
theorem spec_voParse.tab10 : rtab .any (opsOf Tryz.f47 10) = spec_voParse.T10 := by kernel_rfl
theorem spec_voParse.bits10 : waitsOk spec_voParse.T10.2 spec_voParse.B10 = true := by kernel_rfl
theorem spec_voParse.calls (k : Nat) (a0 : ByteArray) (r1 : Int) (r2 : List Int) (r3 : Bool) (w : World) (h : spec_voParse.f k a0 = some (r1, r2, r3)) :
  Calls Tryz.prog 47 #[.string a0] w fun e w' => ∃ v1_ : Value, e = .returned (.tuple #[.agg #[.int .i64 r1, v1_], .bool r3]) ∧ Kd.R (Kd.int .i64) 3 w' w.heap.size (fun _ => True) v1_ r2 ∧ Below w.heap.size w w' := by
 have hu24 := Tryz.underlying24
 have HB := Aside0.mk (Below.refl w.heap.size w)
 have H := h
 unfold spec_voParse.f at H
 clear h
 replace H := oB H
 obtain ⟨t102, A20, H⟩ := H
 replace H : (if (a0.size : Int) > 60 then (spec_voParse.j0 k a0 t102 true) else (spec_voParse.j0 k a0 t102 ((t102.length : Int) != 2))) = some (r1, r2, r3) := H
 have A2 := Aside0.mk A20
 clear A20
 have HC3 := Aside0.mk H
 clear H
 go_enter Tryz.func47, Tryz.ntmps47
 go_upto_region 2 with (first | ((with_reducible refine gate_dst (N := 2) rfl ?_); (try (refine gate_guard (by rfl) ?_; dsimp only)); refine box_event ?hg (N := 2) ?hd (cs := #[.int .i64 0, .slice none 0 0]) (t := 24) ?hr ?_; (case hd => rfl); (case hg => rfl); (case hr => first | (go_simp; done) | (go_simp; rfl)); intro gb101 hg w4 hbox hb; have n0_ := sQ hb; have n1_ := Aside0.mk (hbox); have n2_ := Aside0.mk ((by rw [hg]; exact (below_size (wB)) : w.heap.size ≤ gb101)); have n3_ := Aside0.mk ((by rw [hg]; exact (below_size (wB)) : w.heap.size ≤ gb101)); clear HB; have HB := n0_; have BK101 := n1_; have GW101 := n2_; have GE101 := n3_; clear n0_ n1_ n2_ n3_; clear hb hbox hg) | ((with_reducible refine gate_callee (f := 76) rfl ?_); refine gL 9 Tryz.func76 #[.string a0, .int .u8 58] ?_; (with_reducible refine (spec_l1Split.calls k a0 58 t102 _ A2.out).mono ?_); rintro e w5 ⟨v103, rfl, ho0, hb⟩; refine ⟨_, rfl, ?_⟩; have n0_ := Aside0.mk (Kd.R_lower ho0 (below_size (wB))); have n1_ := bP BK101 hb; have n2_ := sQ hb; clear BK101; clear HB; have HO104 := n0_; have BK101 := n1_; have HB := n2_; clear n0_ n1_ n2_; (try clear hb); (try clear hb2); (try clear hk); (try clear hi); (try clear ho0)))
 (try simp only [Act.put, sA, sZ, sS])
 go_cut [17] (fun v17 wc => ∃ (kq : Nat) (x17_2 : Bool), v17 = .bool x17_2 ∧ Aside0 (spec_voParse.j0 kq a0 t102 x17_2 = some (r1, r2, r3)) ∧ Aside0 (kq ≤ k) ∧ Aside0 (Kd.R Kd.string 9 wc w.heap.size (fun _ => True) v103 t102) ∧ Aside0 (wc.heap[gb101]? = some (.cells #[.int .i64 0, (.slice none 0 0)] 24 (0, 0))) ∧ Aside0 (Below w.heap.size w wc))
 case first =>
  have H := HC3.out
  clear HC3
  by_cases c6 : (a0.size : Int) > 60
  ·rw [if_pos c6] at H
   have c6b0 : decide (60 < (a0.size : Int)) = true := decide_eq_true c6
   have c6b1 : decide (60 < a0.size) = true := decide_eq_true (by omega)
   clear c6
   (first | rw [c6b0] | (simp only [i64_w, i32_w]; rw [c6b0]) | skip)
   have H' := Aside0.mk H
   clear H
   go_wp2
   go_meet
   case rel => exact ⟨_, (true), gR, H', ⟨by first | omega | exact Nat.le_refl _⟩, ⟨rQ HO104⟩, ⟨bQ BK101⟩, ⟨wB⟩⟩
  rw [if_neg c6] at H
  have c6b0 : decide (60 < (a0.size : Int)) = false := decide_eq_false c6
  have c6b1 : decide (60 < a0.size) = false := decide_eq_false (by omega)
  clear c6
  (first | rw [c6b0] | (simp only [i64_w, i32_w]; rw [c6b0]) | skip)
  have H' := Aside0.mk H
  clear H
  obtain ⟨Ao7, co7, eo7⟩ := Kd.R_slice HO104.out
  subst eo7
  go_wp2
  go_meet
  case rel => exact ⟨_, (((t102.length : Int) != 2)), gR, H', ⟨by first | omega | exact Nat.le_refl _⟩, ⟨rQ HO104⟩, ⟨bQ BK101⟩, ⟨wB⟩⟩
 case rest =>
  clear HC3
  try clear p2
  try clear c4
  try clear c6
  try clear c6b0
  try clear c6b1
  try clear c7
  obtain ⟨kq, x17_2, rfl, HA, HJ2, HO_4, BK101, HB⟩ := hcut
  cases kq with
  | zero => exact absurd HA.out (by simp [spec_voParse.j0])
  | succ kj2 =>
   have H := HA.out
   clear HA
   simp only [spec_voParse.j0] at H
   by_cases c8 : x17_2 = true
   ·subst c8
    replace H := iT H
    simp only [Option.some.injEq, Prod.mk.injEq] at H
    obtain ⟨rfl, rfl, rfl⟩ := H
    obtain ⟨hcz9_0, hcz9_1, hfz9_0, hfz9_1⟩ := zZ BK101
    go_wp2
    refine bodyPost_ret (results_ct rfl _ _ gb101 24 #[.int .i64 0, .slice none 0 0] (0, 0) _ rfl (by (try refine bp ?_); refine blk_put (cs := #[.int .i64 0, .slice none 0 0]) ?_ 1 _ rfl; (try refine bp ?_); refine blk_put (cs := #[.int .i64 0, .slice none 0 0]) ?_ 0 _ rfl; (first | exact bp BK101.out | exact BK101.out)) Tryz.underlying24 rfl (by kernel_rfl)) rfl ?_
    exact ⟨_, fR, by first | exact Kd.R_nil _ _ _ _ _ | exact Kd.N_nil _ _ _ _ _ | exact Kd.V_nil _ _ _ _ _ | exact Kd.Q_nil _ _ _ _ _ | exact Kd.S_nil _ _ _ _ _, wB⟩
   replace c8 := Bool.eq_false_iff.mpr c8
   subst c8
   replace H := iF H
   by_cases c10 : 0 < (t102.length : Int)
   rotate_left
   ·rw [if_neg c10] at H
    exact absurd H (by simp)
   rw [if_pos c10] at H
   have c10b0 := decide_eq_true c10
   have c10b1 : decide (0 < t102.length) = true := decide_eq_true (by omega)
   clear c10
   replace H := oB H
   obtain ⟨t106, A110, H⟩ := H
   replace H : (if 1 < (t102.length : Int) then ((spec_l1Split.f kj2 (rdOf ByteArray.empty t102 1) 44).bind fun t109 => (spec_voParse.l0 kj2 a0 t109 (t109.length : Int) 0 t106 ([] : List Int))) else (none)) = some (r1, r2, r3) := H
   have A11 := Aside0.mk A110
   clear A110
   by_cases c12 : 1 < (t102.length : Int)
   rotate_left
   ·rw [if_neg c12] at H
    exact absurd H (by simp)
   rw [if_pos c12] at H
   have c12b0 := decide_eq_true c12
   have c12b1 : decide (1 < t102.length) = true := decide_eq_true (by omega)
   clear c12
   replace H := oB H
   obtain ⟨t109, A130, H⟩ := H
   replace H : (spec_voParse.l0 kj2 a0 t109 (t109.length : Int) 0 t106 ([] : List Int)) = some (r1, r2, r3) := H
   have A13 := Aside0.mk A130
   clear A130
   have H' := Aside0.mk H
   clear H
   obtain ⟨Ao14, co14, eo14⟩ := Kd.R_slice HO_4.out
   subst eo14
   have p105 : 0 ≤ (0 : Int) := (by omega)
   have q105 : 0 < (t102.length : Int) := oD
   obtain ⟨ad105, e105, hx105_0⟩ := Kd.at_string (Kd.R_reads' HO_4.out).2.2 0 p105 q105
   cases e105
   have qi105 : (0 < t102.length) = True := eq_true (by omega)
   (try rw [show ((0 : Int)).toNat = 0 from rfl] at hx105_0)
   (try rw [Addr.add_zero'] at hx105_0)
   replace p105 := eq_true p105
   replace q105 := eq_true q105
   go_wp2_with (first | ((with_reducible refine gate_callee (f := 77) rfl ?_); refine gL 22 Tryz.func77 #[.string (rdOf ByteArray.empty t102 0)] ?_; (with_reducible refine (spec_l1Read.calls kj2 (rdOf ByteArray.empty t102 0) t106 _ A11.out).mono ?_); rintro e w' ⟨rfl, ⟨nd, rfl⟩⟩; refine ⟨_, rfl, ?_⟩; (try (rw [drewN_self wc]; generalize hq_ : World.drewN wc _ = wc; have n0_ : Aside0 (Kd.R Kd.string 9 wc w.heap.size (fun _ => True) (.slice (some ad105) t102.length co14) t102) := ⟨by rw [← hq_]; exact (rQ HO_4)⟩; have n1_ : Aside0 (wc.heap[gb101]? = some (.cells #[.int .i64 0, .slice none 0 0] 24 (0, 0))) := ⟨by rw [← hq_]; exact (bQ BK101)⟩; have n2_ : Aside0 (Below w.heap.size w wc) := ⟨by rw [← hq_]; exact (wB)⟩; clear HO_4 BK101 HB hq_; have HO_4 := n0_; have BK101 := n1_; have HB := n2_; clear n0_ n1_ n2_))) | ((with_reducible refine gate_dst (N := 5) rfl ?_); (try (refine gate_guard (by rfl) ?_; dsimp only)); refine box_event ?hg (N := 5) ?hd (cs := #[.int .i64 0, .slice none 0 0]) (t := 24) ?hr ?_; (case hd => rfl); (case hg => rfl); (case hr => first | (go_simp; done) | (go_simp; rfl)); intro gb107 hg w15 hbox hb; have n0_ := rP HO_4 hb; have n1_ := bP BK101 hb; have n2_ := sQ hb; have n3_ := Aside0.mk (hbox); have n4_ := Aside0.mk ((by rw [hg]; exact (below_size (wB)) : w.heap.size ≤ gb107)); have n5_ := Aside0.mk ((by rw [hg]; exact (below_size (wB)) : w.heap.size ≤ gb107)); have n6_ := Aside0.mk ((by rw [hg]; exact Nat.ne_of_lt (blk_lt (g := gb101) (o := .cells #[.int .i64 0, .slice none 0 0] 24 (0, 0)) (bQ BK101)) : gb101 ≠ gb107)); have n7_ := Aside0.mk ((by rw [hg]; exact Nat.ne_of_gt (blk_lt (g := gb101) (o := .cells #[.int .i64 0, .slice none 0 0] 24 (0, 0)) (bQ BK101)) : gb107 ≠ gb101)); clear HO_4; clear BK101; clear HB; have HO_4 := n0_; have BK101 := n1_; have HB := n2_; have BK107 := n3_; have GW107 := n4_; have GE107 := n5_; have NB101_107 := n6_; have NB107_101 := n7_; clear n0_ n1_ n2_ n3_ n4_ n5_ n6_ n7_; clear hb hbox hg; have hnb16 := NB107_101.out; have hnc16 := NB101_107.out; obtain ⟨hcz17_0, hcz17_1, hfz17_0, hfz17_1⟩ := zZ BK107; have p108 : 0 ≤ (1 : Int) := (by omega); have q108 : 1 < (t102.length : Int) := oD; obtain ⟨ad108, e108, hx108_0⟩ := Kd.at_string (Kd.R_reads' HO_4.out).2.2 1 p108 q108; obtain rfl : ad105 = ad108 := (by injection e108); (try simp only [show (1 : Int).toNat = 1 from rfl, Nat.reduceMul, Nat.reduceEqDiff, Go.Addr.add, ↓reduceIte] at hx108_0); have qi108 : (1 < t102.length) = True := eq_true (by omega); (try rw [show ((1 : Int)).toNat = 1 from rfl] at hx108_0); have hn108_0 : ad105.block ≠ gb107 := Kd.own_blk (Kd.R_ne HO_4.out BK107.out (by decide)); have hn108_1 : ad105.block ≠ gb107 := Kd.own_blk (Kd.R_ne HO_4.out BK107.out (by decide)); replace hx108_0 := (cell_far (p := ⟨gb107, 0, none⟩) (by first | (rw [add_block]; exact hn108_0) | (show (Addr.add _ _).block ≠ _; rw [add_block]; exact hn108_0) | exact hn108_0) (.int .i64 t106)).trans hx108_0; replace hx108_0 := (cell_far (p := ⟨gb107, 1, none⟩) (by first | (rw [add_block]; exact hn108_1) | (show (Addr.add _ _).block ≠ _; rw [add_block]; exact hn108_1) | exact hn108_1) (.slice none 0 0)).trans hx108_0; clear hn108_0; clear hn108_1; replace p108 := eq_true p108; replace q108 := eq_true q108) | ((with_reducible refine gate_callee (f := 76) rfl ?_); refine gL 27 Tryz.func76 #[.string (rdOf ByteArray.empty t102 1), .int .u8 44] ?_; (with_reducible refine (spec_l1Split.calls kj2 (rdOf ByteArray.empty t102 1) 44 t109 _ A13.out).mono ?_); rintro e w18 ⟨v110, rfl, ho0, hb⟩; refine ⟨_, rfl, ?_⟩; have n0_ := Aside0.mk (Kd.R_elder' (by (try refine rp ?_); exact (Kd.R_mono (Kd.R_far (p := ⟨gb107, 1, none⟩) (Kd.R_far (p := ⟨gb107, 0, none⟩) (Kd.R_types HO_4.out BK107.out (by decide)) (fun _ hk => hk.2) (.int .i64 t106)) (fun _ hk => hk.2) (.slice none 0 0)) (fun _ h_ => h_.1))) (Kd.R_base ho0) hb); have n1_ := Aside0.mk (Kd.R_lower (Kd.R_new' ho0 (Kd.R_lt (by (try refine rp ?_); exact (Kd.R_mono (Kd.R_far (p := ⟨gb107, 1, none⟩) (Kd.R_far (p := ⟨gb107, 0, none⟩) (Kd.R_types HO_4.out BK107.out (by decide)) (fun _ hk => hk.2) (.int .i64 t106)) (fun _ hk => hk.2) (.slice none 0 0)) (fun _ h_ => h_.1))))) (below_size (wB))); have n2_ := Aside0.mk (blk_below (g := gb101) (o := .cells #[.int .i64 0, .slice none 0 0] 24 (0, 0)) (by (try refine bp ?_); refine blk_far ?_ NB101_107.out _; (try refine bp ?_); refine blk_far ?_ NB101_107.out _; (first | exact bp BK101.out | exact BK101.out)) hb); have n3_ := Aside0.mk (blk_below (g := gb107) (o := .cells #[.int .i64 t106, .slice none 0 0] 24 (0, 0)) (by (try refine bp ?_); refine blk_put (cs := #[.int .i64 t106, .slice none 0 0]) ?_ 1 _ rfl; (try refine bp ?_); refine blk_put (cs := #[.int .i64 0, .slice none 0 0]) ?_ 0 _ rfl; (first | exact bp BK107.out | exact BK107.out)) hb); have n4_ := sQ hb; clear HO_4; clear BK101; clear BK107; clear HB; have HO_4 := n0_; have HO111 := n1_; have BK101 := n2_; have BK107 := n3_; have HB := n4_; clear n0_ n1_ n2_ n3_ n4_; (try clear hb); (try clear hb2); (try clear hk); (try clear hi); (try clear ho0); obtain ⟨Ao19, co19, eo19⟩ := Kd.R_slice HO111.out; subst eo19))
   go_loopg [29] kj2 (fun kq v29 w' => ∃ (x29_2 : Int) (x108001_2 : List Int) (u108001 : Value), v29 = .int .i64 x29_2 ∧ Aside0 (spec_voParse.l0 kq a0 t109 (t109.length : Int) x29_2 t106 x108001_2 = some (r1, r2, r3)) ∧ Aside0 (kq ≤ kj2) ∧ Aside0 (Kd.R Kd.string 9 w' w.heap.size (fun _ => True) (.slice Ao19 t109.length co19) t109) ∧ Aside0 (Kd.R (Kd.int .i64) 3 w' w.heap.size (fun _ => True) u108001 x108001_2) ∧ Aside0 (w'.heap[gb101]? = some (.cells #[.int .i64 0, (.slice none 0 0)] 24 (0, 0))) ∧ Aside0 (w'.heap[gb107]? = some (.cells #[.int .i64 t106, u108001] 24 (0, 0))) ∧ Aside0 (Below w.heap.size w w'))
   case atStart => exact ⟨(0), (([] : List Int)), (.slice none 0 0), gR, H', ⟨Nat.le_refl _⟩, ⟨by (try refine rp ?_); exact Kd.R_mono HO111.out (fun _ hk => trivial)⟩, ⟨by first | exact Kd.R_nil _ _ _ _ _ | exact Kd.N_nil _ _ _ _ _ | exact Kd.V_nil _ _ _ _ _ | exact Kd.Q_nil _ _ _ _ _ | exact Kd.S_nil _ _ _ _ _⟩, ⟨bQ BK101⟩, ⟨bQ BK107⟩, ⟨wB⟩⟩
   case round =>
    clear H'
    try clear c1
    try clear p1
    try clear q1
    try clear hx1
    try clear qi1
    try clear p2
    try clear c4
    try clear c6
    try clear c6b0
    try clear c6b1
    try clear c7
    try clear c8
    try clear c10
    try clear c10b0
    try clear c10b1
    try clear p10
    try clear q10
    try clear hx10
    try clear qi10
    try clear c12
    try clear c12b0
    try clear c12b1
    try clear c16
    try clear hcz17_0
    try clear hcz17_1
    try clear hcz9_0
    try clear hcz9_1
    try clear hfz17_0
    try clear hfz17_1
    try clear hfz9_0
    try clear hfz9_1
    try clear hx105_0
    try clear hx108_0
    try clear p105
    try clear p108
    try clear p2
    try clear q105
    try clear q108
    obtain ⟨x29_2, x108001_2, u108001, rfl, HA, HK2, HO_27, HO_108001, BK101, BK107, HB⟩ := hrel
    cases gk with
    | zero => exact absurd HA.out (by simp [spec_voParse.l0])
    | succ k2 =>
     have H := HA.out
     clear HA
     simp only [spec_voParse.l0] at H
     by_cases c20 : x29_2 < (t109.length : Int)
     ·rw [if_pos c20] at H
      have c20b0 := decide_eq_true c20
      clear c20
      by_cases c21 : 0 ≤ x29_2
      rotate_left
      ·rw [if_neg c21] at H
       exact absurd H (by simp)
      rw [if_pos c21] at H
      have c21b0 := decide_eq_true c21
      clear c21
      by_cases c22 : x29_2 < (t109.length : Int)
      rotate_left
      ·rw [if_neg c22] at H
       exact absurd H (by simp)
      rw [if_pos c22] at H
      have c22b0 := decide_eq_true c22
      clear c22
      replace H := oB H
      obtain ⟨t113, A230, H⟩ := H
      replace H : (if x108001_2.length < 17592186044416 then (spec_voParse.l0 k2 a0 t109 (t109.length : Int) (wrap64 (x29_2 + 1)) t106 (x108001_2 ++ [t113])) else (none)) = some (r1, r2, r3) := H
      have A23 := Aside0.mk A230
      clear A230
      by_cases c24 : x108001_2.length < 17592186044416
      rotate_left
      ·rw [if_neg c24] at H
       exact absurd H (by simp)
      rw [if_pos c24] at H
      have LMc24 := Aside0.mk c24
      clear c24
      obtain ⟨y114, hy114⟩ : ∃ y_ : List Int, y_ = (x108001_2 ++ [t113]) := ⟨_, rfl⟩
      replace H : (spec_voParse.l0 k2 a0 t109 (t109.length : Int) (wrap64 (x29_2 + 1)) t106 y114) = some (r1, r2, r3) := by first | (rw [hy114]; with_reducible exact H) | (have H2_ := (Option.bind_some _ _).symm.trans H; rw [hy114]; with_reducible exact H2_) | (have H2_ := (Option.bind_some _ _).symm.trans H; with_reducible exact H2_) | with_reducible exact H | (rw [hy114]; exact H) | exact H
      have Ny114 := Aside0.mk hy114
      clear hy114
      have H' := Aside0.mk H
      clear H
      have p112 : 0 ≤ (x29_2 : Int) := oD
      have q112 : x29_2 < (t109.length : Int) := oD
      obtain ⟨ad112, e112, hx112_0⟩ := Kd.at_string (Kd.R_reads' HO_27.out).2.2 x29_2 p112 q112
      cases e112
      replace p112 := eq_true p112
      replace q112 := eq_true q112
      try go_wp2
      have n0_ := rD HO_27
      have n1_ := rD HO_108001
      have n2_ := bD BK101
      have n3_ := bD BK107
      have n4_ := Aside0.mk (below_drew1 HB.out)
      clear HO_27
      clear HO_108001
      clear BK101
      clear BK107
      clear HB
      have HO_27 := n0_
      have HO_108001 := n1_
      have BK101 := n2_
      have BK107 := n3_
      have HB := n4_
      clear n0_ n1_ n2_ n3_ n4_
      refine start_ (n := 8) (S := fun w' => w'.cell? ⟨gb107, 0, none⟩ = some (.int .i64 t106) ∧ w'.cell? ⟨gb107, 1, none⟩ = some (u108001)) (ds := [7]) #[false, false, false, false, false, false, false, false] (by kernel_rfl) rfl rfl ⟨(blk_cell BK107.out 0).trans rfl, (blk_cell BK107.out 1).trans rfl⟩ (fun hHeld => ?_); refine with_tabW spec_voParse.tab8 spec_voParse.bits8 (fun HT_ HW_ => ?_)
      generalize wr.drew = w25 at HO_27 HO_108001 BK101 BK107 HB hHeld ⊢
      refine pU 0 HT_ ?_
      refine pU 2 HT_ ?_
      refine tK 1 HT_ HW_ hHeld (hy := by rintro w' ⟨s0, s1⟩; go_simp; with_reducible rfl) ?_
      refine oN 3 HT_ (fun K hK => ?_)
      refine gE Tryz.func77 #[.string (rdOf ByteArray.empty t109 x29_2)] ?_
      with_reducible refine (spec_l1Read.calls k2 (rdOf ByteArray.empty t109 x29_2) t113 _ A23.out).mono ?_
      rintro e w' ⟨rfl, ⟨nd, rfl⟩⟩
      refine ⟨_, rfl, ?_⟩
      refine hK.out _ _ ⟨(blk_cell BK107.out 0).trans rfl, (blk_cell BK107.out 1).trans rfl⟩ (fun hHeld => ?_)
      clear hK K
      refine nM ?_
      refine oN 4 HT_ (fun K hK => ?_)
      refine value_ (w1 := ?_) (v := ?_) (by rfl) rfl ?_ ?_
      rotate_left 2
      ·go_simp
       constructor
       ·rfl
       rfl
      refine hK.out _ _ ⟨(blk_cell (blk_alloc BK107.out _) 0).trans rfl, (blk_cell (blk_alloc BK107.out _) 1).trans rfl⟩ (fun hHeld => ?_)
      clear hK K
      refine nM ?_
      refine oN 5 HT_ (fun K hK => ?_)
      refine Kd.R_append_step (Kd.int .i64) (w0 := w) w.heap.size (by rfl) (.tmp 34) (.tmp 37) 22 3 (.int .i64 0) 8 rfl Tryz.underlying22 info3 rfl (by decide) (by omega) u108001 x108001_2 t113 [.int .i64 t113] (fun _ => True) (fun _ => False) rfl rfl ?aP (fun _ hk => hk.elim) ?aF ?aO ?aB ?aS ?aL ?_
      (case aP => exact rfl)
      (case aB => exact (wB))
      (case aF => exact (fun _ _ => trivial))
      (case aO => exact (rQ HO_108001))
      (case aS => exact (below_size (wB)))
      (case aL => have := LMc24.out; omega)
      intro v115 w26 ho hb hg hat
      rw [← Ny114.out] at ho
      have n0_ := Aside0.mk (Kd.R_over' (rQ HO_27) (Kd.R_typed (rQ HO_108001)) (by decide) hg)
      have n1_ := Aside0.mk (blk_grown (g := gb101) (o := .cells #[.int .i64 0, .slice none 0 0] 24 (0, 0)) (bQ BK101) hg (Kd.R_ne HO_108001.out BK101.out (by decide)))
      have n2_ := Aside0.mk (blk_grown (g := gb107) (o := .cells #[.int .i64 t106, u108001] 24 (0, 0)) (bQ BK107) hg (Kd.R_ne HO_108001.out BK107.out (by decide)))
      have n3_ := Aside0.mk (hb)
      have n4_ := Aside0.mk (ho)
      clear HO_27
      clear BK101
      clear BK107
      clear HB
      clear HO_108001
      have HO_27 := n0_
      have BK101 := n1_
      have BK107 := n2_
      have HB := n3_
      have HO116 := n4_
      clear n0_ n1_ n2_ n3_ n4_
      clear ho hb hg hat
      obtain ⟨Ao27, co27, eo27⟩ := Kd.R_slice HO116.out
      (first | subst eo27 | (injection eo27 with f1_ f2_ f3_; have f4_ := f1_.symm; have f5_ := f3_.symm; clear f1_ f2_ f3_; subst f4_; subst f5_))
      refine hK.out _ _ ⟨(blk_cell BK107.out 0).trans rfl, (blk_cell BK107.out 1).trans rfl⟩ (fun hHeld => ?_)
      clear hK K
      refine nM ?_
      refine pU 6 HT_ ?_
      refine last_ (i := 7) (N := none) #[true, true, true, true, true, true, true, true] rfl rfl (one_of HT_.out (by kernel_rfl)) (by decide) (fun K hK => ?_)
      have hs28 : w26.cell? ⟨gb107, 1, none⟩ = some (u108001) := (blk_cell BK107.out 1).trans rfl
      have hfs28 := blk_frozen BK107.out 1
      have hns28_0 := NB101_107.out
      have hms28_0 := NB107_101.out
      refine skip_ (w1 := ?_) (by rfl) rfl ?_ ?_
      rotate_left
      ·go_simp
       rfl
      refine hK.out _ _ ?_
      clear hK K
      refine done_ (done_of HT_.out (by kernel_rfl)) ?_
      try go_wp2
      go_roundg k2
      case measure => have := HJ2.out; have := HK2.out; omega
      case rel => exact ⟨(wrap64 (x29_2 + 1)), (y114), (.slice Ao27 y114.length co27), gR, H', ⟨by have := HJ2.out; have := HK2.out; omega⟩, ⟨by (try refine rp ?_); exact Kd.R_mono (Kd.R_far (p := ⟨gb107, 1, none⟩) (Kd.R_types HO_27.out BK107.out (by decide)) (fun _ hk => hk.2) (.slice Ao27 y114.length co27)) (fun _ hk => trivial)⟩, ⟨by (try refine rp ?_); exact Kd.R_mono (Kd.R_far (p := ⟨gb107, 1, none⟩) (Kd.R_types HO116.out BK107.out (by decide)) (fun _ hk => hk.2) (.slice Ao27 y114.length co27)) (fun _ hk => trivial)⟩, ⟨by (try refine bp ?_); refine blk_far ?_ NB101_107.out _; (first | exact bp BK101.out | exact BK101.out)⟩, ⟨by (try refine bp ?_); refine blk_put (cs := #[.int .i64 t106, u108001]) ?_ 1 _ rfl; (first | exact bp BK107.out | exact BK107.out)⟩, ⟨wB⟩⟩
     rw [if_neg c20] at H
     have c20b0 : decide (x29_2 < (t109.length : Int)) = false := decide_eq_false c20
     clear c20
     replace H := oB H
     obtain ⟨t117, A290, H⟩ := H
     replace H : (if t117 = true then ((spec_voText.f k2 t106 x108001_2).bind fun t118 => (some (t106, x108001_2, (t118.toList == a0.toList)))) else (some (t106, x108001_2, false))) = some (r1, r2, r3) := H
     have A29 := Aside0.mk A290
     clear A290
     by_cases c30 : t117 = true
     rotate_left
     ·replace c30 := Bool.eq_false_iff.mpr c30
      subst c30
      replace H := iF H
      simp only [Option.some.injEq, Prod.mk.injEq] at H
      obtain ⟨rfl, rfl, rfl⟩ := H
      try go_wp2
      have n0_ := rD HO_27
      have n1_ := rD HO_108001
      have n2_ := bD BK101
      have n3_ := bD BK107
      have n4_ := Aside0.mk (below_drew1 HB.out)
      clear HO_27
      clear HO_108001
      clear BK101
      clear BK107
      clear HB
      have HO_27 := n0_
      have HO_108001 := n1_
      have BK101 := n2_
      have BK107 := n3_
      have HB := n4_
      clear n0_ n1_ n2_ n3_ n4_
      obtain ⟨Ao39, co39, eo39⟩ := Kd.R_slice HO_108001.out
      (first | subst eo39 | (injection eo39 with f1_ f2_ f3_; have f4_ := f1_.symm; have f5_ := f3_.symm; clear f1_ f2_ f3_; subst f4_; subst f5_))
      refine start_ (n := 11) (S := fun w' => w'.cell? ⟨gb107, 0, none⟩ = some (.int .i64 t106) ∧ w'.cell? ⟨gb107, 1, none⟩ = some (.slice Ao39 x108001_2.length co39)) (ds := []) #[false, false, false, false, false, false, false, false, false, false, false] (by kernel_rfl) rfl rfl ⟨(blk_cell BK107.out 0).trans rfl, (blk_cell BK107.out 1).trans rfl⟩ (fun hHeld => ?_); refine with_tabW spec_voParse.tab10 spec_voParse.bits10 (fun HT_ HW_ => ?_)
      generalize wr.drew = w38 at HO_27 HO_108001 BK101 BK107 HB hHeld ⊢
      refine tK 0 HT_ HW_ hHeld (hy := by rintro w' ⟨s0, s1⟩; go_simp; with_reducible rfl) ?_
      refine tK 1 HT_ HW_ hHeld (hy := by rintro w' ⟨s0, s1⟩; go_simp; with_reducible rfl) ?_
      refine oN 2 HT_ (fun K hK => ?_)
      refine gE Tryz.func28 #[.agg #[.int .i64 t106, .slice Ao39 x108001_2.length co39]] ?_
      with_reducible refine (spec_voGood.calls k2 t106 _ _ x108001_2 false _ ?side1 ?side2 A29.out).mono ?_
      (case side1 => have hx_ := (Kd.R_reads' HO_108001.out).2.2; exact cC)
      (case side2 => exact (Kd.R_reads' HO_108001.out).2.1)
      rintro e w40 ⟨rfl, hb⟩
      refine ⟨_, rfl, ?_⟩
      have n0_ := rP HO_27 hb
      have n1_ := rP HO_108001 hb
      have n2_ := bP BK101 hb
      have n3_ := bP BK107 hb
      have n4_ := sQ hb
      clear HO_27
      clear HO_108001
      clear BK101
      clear BK107
      clear HB
      have HO_27 := n0_
      have HO_108001 := n1_
      have BK101 := n2_
      have BK107 := n3_
      have HB := n4_
      clear n0_ n1_ n2_ n3_ n4_
      (try clear hb)
      (try clear hb2)
      (try clear hk)
      (try clear hi)
      refine hK.out _ _ ⟨(blk_cell BK107.out 0).trans rfl, (blk_cell BK107.out 1).trans rfl⟩ (fun hHeld => ?_)
      clear hK K
      refine nM ?_
      refine pU 3 HT_ ?_
      refine pV 4 HT_ ?_
      refine pV 5 HT_ ?_
      refine pV 6 HT_ ?_
      refine pV 7 HT_ ?_
      refine pU 8 HT_ ?_
      refine oN 9 HT_ (fun K hK => ?_)
      have hs41 : w40.cell? ⟨gb101, 0, none⟩ = some (.int .i64 0) := (blk_cell BK101.out 0).trans rfl
      have hfs41 := blk_frozen BK101.out 0
      have hns41_1 := NB107_101.out
      have hms41_1 := NB101_107.out
      have hs42 : w40.cell? ⟨gb101, 1, none⟩ = some (.slice none 0 0) := (blk_cell BK101.out 1).trans rfl
      have hfs42 := blk_frozen BK101.out 1
      have hns42_1 := NB107_101.out
      have hms42_1 := NB101_107.out
      refine skip_ (w1 := ?_) (by rfl) rfl ?_ ?_
      rotate_left
      ·go_simp
       rfl
      refine hK.out _ _ ⟨((cell_far (p := ⟨gb101, _, none⟩) NB107_101.out _).trans (((cell_far (p := ⟨gb101, _, none⟩) NB107_101.out _).trans (hHeld.1)))), ((cell_far (p := ⟨gb101, _, none⟩) NB107_101.out _).trans (((cell_far (p := ⟨gb101, _, none⟩) NB107_101.out _).trans (hHeld.2))))⟩ (fun hHeld => ?_)
      clear hK K
      refine pU 10 HT_ ?_
      refine done_ (done_of HT_.out (by kernel_rfl)) ?_
      try go_wp2
      refine bodyPost_ret (results_ct rfl _ _ gb101 24 #[.int .i64 t106, .slice Ao39 x108001_2.length co39] (0, 0) _ rfl (by (try refine bp ?_); refine blk_put (cs := #[.int .i64 t106, .slice none 0 0]) ?_ 1 _ rfl; (try refine bp ?_); refine blk_put (cs := #[.int .i64 0, .slice none 0 0]) ?_ 0 _ rfl; (first | exact bp BK101.out | exact BK101.out)) Tryz.underlying24 rfl (by kernel_rfl)) rfl ?_
      exact ⟨_, fR, by (try refine rp ?_); exact Kd.R_mono (Kd.R_far (p := ⟨gb101, 1, none⟩) (Kd.R_far (p := ⟨gb101, 0, none⟩) (Kd.R_types HO_108001.out BK101.out (by decide)) (fun _ hk => hk.2) (.int .i64 t106)) (fun _ hk => hk.2) (.slice Ao39 x108001_2.length co39)) (fun _ hk => trivial), wB⟩
     subst c30
     replace H := iT H
     replace H := oB H
     obtain ⟨t118, A310, H⟩ := H
     replace H : (some (t106, x108001_2, (t118.toList == a0.toList))) = some (r1, r2, r3) := H
     have A31 := Aside0.mk A310
     clear A310
     simp only [Option.some.injEq, Prod.mk.injEq] at H
     obtain ⟨rfl, rfl, rfl⟩ := H
     try go_wp2
     have n0_ := rD HO_27
     have n1_ := rD HO_108001
     have n2_ := bD BK101
     have n3_ := bD BK107
     have n4_ := Aside0.mk (below_drew1 HB.out)
     clear HO_27
     clear HO_108001
     clear BK101
     clear BK107
     clear HB
     have HO_27 := n0_
     have HO_108001 := n1_
     have BK101 := n2_
     have BK107 := n3_
     have HB := n4_
     clear n0_ n1_ n2_ n3_ n4_
     obtain ⟨Ao33, co33, eo33⟩ := Kd.R_slice HO_108001.out
     (first | subst eo33 | (injection eo33 with f1_ f2_ f3_; have f4_ := f1_.symm; have f5_ := f3_.symm; clear f1_ f2_ f3_; subst f4_; subst f5_))
     refine start_ (n := 11) (S := fun w' => w'.cell? ⟨gb107, 0, none⟩ = some (.int .i64 t106) ∧ w'.cell? ⟨gb107, 1, none⟩ = some (.slice Ao33 x108001_2.length co33)) (ds := []) #[false, false, false, false, false, false, false, false, false, false, false] (by kernel_rfl) rfl rfl ⟨(blk_cell BK107.out 0).trans rfl, (blk_cell BK107.out 1).trans rfl⟩ (fun hHeld => ?_); refine with_tabW spec_voParse.tab10 spec_voParse.bits10 (fun HT_ HW_ => ?_)
     generalize wr.drew = w32 at HO_27 HO_108001 BK101 BK107 HB hHeld ⊢
     refine tK 0 HT_ HW_ hHeld (hy := by rintro w' ⟨s0, s1⟩; go_simp; with_reducible rfl) ?_
     refine tK 1 HT_ HW_ hHeld (hy := by rintro w' ⟨s0, s1⟩; go_simp; with_reducible rfl) ?_
     refine oN 2 HT_ (fun K hK => ?_)
     refine gE Tryz.func28 #[.agg #[.int .i64 t106, .slice Ao33 x108001_2.length co33]] ?_
     with_reducible refine (spec_voGood.calls k2 t106 _ _ x108001_2 true _ ?side1 ?side2 A29.out).mono ?_
     (case side1 => have hx_ := (Kd.R_reads' HO_108001.out).2.2; exact cC)
     (case side2 => exact (Kd.R_reads' HO_108001.out).2.1)
     rintro e w34 ⟨rfl, hb⟩
     refine ⟨_, rfl, ?_⟩
     have n0_ := rP HO_27 hb
     have n1_ := rP HO_108001 hb
     have n2_ := bP BK101 hb
     have n3_ := bP BK107 hb
     have n4_ := sQ hb
     clear HO_27
     clear HO_108001
     clear BK101
     clear BK107
     clear HB
     have HO_27 := n0_
     have HO_108001 := n1_
     have BK101 := n2_
     have BK107 := n3_
     have HB := n4_
     clear n0_ n1_ n2_ n3_ n4_
     (try clear hb)
     (try clear hb2)
     (try clear hk)
     (try clear hi)
     refine hK.out _ _ ⟨(blk_cell BK107.out 0).trans rfl, (blk_cell BK107.out 1).trans rfl⟩ (fun hHeld => ?_)
     clear hK K
     refine nM ?_
     refine pU 3 HT_ ?_
     refine pU 6 HT_ ?_
     refine tK 4 HT_ HW_ hHeld (hy := by rintro w' ⟨s0, s1⟩; go_simp; with_reducible rfl) ?_
     refine oN 5 HT_ (fun K hK => ?_)
     refine gE Tryz.func43 #[.agg #[.int .i64 t106, .slice Ao33 x108001_2.length co33]] ?_
     with_reducible refine (spec_voText.calls k2 t106 _ _ x108001_2 t118 _ ?side1 ?side2 A31.out).mono ?_
     (case side1 => have hx_ := (Kd.R_reads' HO_108001.out).2.2; exact cC)
     (case side2 => exact (Kd.R_reads' HO_108001.out).2.1)
     rintro e w35 ⟨rfl, hb⟩
     refine ⟨_, rfl, ?_⟩
     have n0_ := rP HO_27 hb
     have n1_ := rP HO_108001 hb
     have n2_ := bP BK101 hb
     have n3_ := bP BK107 hb
     have n4_ := sQ hb
     clear HO_27
     clear HO_108001
     clear BK101
     clear BK107
     clear HB
     have HO_27 := n0_
     have HO_108001 := n1_
     have BK101 := n2_
     have BK107 := n3_
     have HB := n4_
     clear n0_ n1_ n2_ n3_ n4_
     (try clear hb)
     (try clear hb2)
     (try clear hk)
     (try clear hi)
     refine hK.out _ _ ⟨(blk_cell BK107.out 0).trans rfl, (blk_cell BK107.out 1).trans rfl⟩ (fun hHeld => ?_)
     clear hK K
     refine nM ?_
     refine pU 7 HT_ ?_
     refine pU 8 HT_ ?_
     refine oN 9 HT_ (fun K hK => ?_)
     have hs36 : w35.cell? ⟨gb101, 0, none⟩ = some (.int .i64 0) := (blk_cell BK101.out 0).trans rfl
     have hfs36 := blk_frozen BK101.out 0
     have hns36_1 := NB107_101.out
     have hms36_1 := NB101_107.out
     have hs37 : w35.cell? ⟨gb101, 1, none⟩ = some (.slice none 0 0) := (blk_cell BK101.out 1).trans rfl
     have hfs37 := blk_frozen BK101.out 1
     have hns37_1 := NB107_101.out
     have hms37_1 := NB101_107.out
     refine skip_ (w1 := ?_) (by rfl) rfl ?_ ?_
     rotate_left
     ·go_simp
      rfl
     refine hK.out _ _ ⟨((cell_far (p := ⟨gb101, _, none⟩) NB107_101.out _).trans (((cell_far (p := ⟨gb101, _, none⟩) NB107_101.out _).trans (hHeld.1)))), ((cell_far (p := ⟨gb101, _, none⟩) NB107_101.out _).trans (((cell_far (p := ⟨gb101, _, none⟩) NB107_101.out _).trans (hHeld.2))))⟩ (fun hHeld => ?_)
     clear hK K
     refine pU 10 HT_ ?_
     refine done_ (done_of HT_.out (by kernel_rfl)) ?_
     try go_wp2
     refine bodyPost_ret (results_ct rfl _ _ gb101 24 #[.int .i64 t106, .slice Ao33 x108001_2.length co33] (0, 0) _ rfl (by (try refine bp ?_); refine blk_put (cs := #[.int .i64 t106, .slice none 0 0]) ?_ 1 _ rfl; (try refine bp ?_); refine blk_put (cs := #[.int .i64 0, .slice none 0 0]) ?_ 0 _ rfl; (first | exact bp BK101.out | exact BK101.out)) Tryz.underlying24 rfl (by kernel_rfl)) rfl ?_
     exact ⟨_, fR, by (try refine rp ?_); exact Kd.R_mono (Kd.R_far (p := ⟨gb101, 1, none⟩) (Kd.R_far (p := ⟨gb101, 0, none⟩) (Kd.R_types HO_108001.out BK101.out (by decide)) (fun _ hk => hk.2) (.int .i64 t106)) (fun _ hk => hk.2) (.slice Ao33 x108001_2.length co33)) (fun _ hk => trivial), wB⟩
def spec_ParseCommittee.f (k : Nat) (a0 : ByteArray) : Option (Int × List Int × Bool) := (spec_voParse.f k a0).bind fun bt102 => (if bt102.2.2 = true then (some (bt102.1, bt102.2.1, true)) else (some (0, ([] : List Int), false)))
theorem spec_ParseCommittee.calls (k : Nat) (a0 : ByteArray) (r1 : Int) (r2 : List Int) (r3 : Bool) (w : World) (h : spec_ParseCommittee.f k a0 = some (r1, r2, r3)) :
  Calls Tryz.prog 16 #[.string a0] w fun e w' => ∃ v1_ : Value, e = .returned (.tuple #[.agg #[.int .i64 r1, v1_], .bool r3]) ∧ Kd.R (Kd.int .i64) 3 w' w.heap.size (fun _ => True) v1_ r2 ∧ Below w.heap.size w w' := by
 have hu24 := Tryz.underlying24
 have HB := Aside0.mk (Below.refl w.heap.size w)
 have H := h
 unfold spec_ParseCommittee.f at H
 clear h
 replace H := oB H
 obtain ⟨⟨t102, t103, t106⟩, A20, H⟩ := H
 replace H : (if t106 = true then (some (t102, t103, true)) else (some (0, ([] : List Int), false))) = some (r1, r2, r3) := H
 have A2 := Aside0.mk A20
 clear A20
 by_cases c3 : t106 = true
 rotate_left
 ·replace c3 := Bool.eq_false_iff.mpr c3
  subst c3
  replace H := iF H
  simp only [Option.some.injEq, Prod.mk.injEq] at H
  obtain ⟨rfl, rfl, rfl⟩ := H
  go_enter Tryz.func16, Tryz.ntmps16
  go_wp2_with (first | ((with_reducible refine gate_dst (N := 2) rfl ?_); refine box_event ?hg (N := 2) ?hd (cs := #[.int .i64 0, .slice none 0 0]) (t := 24) ?hr ?_; (case hd => rfl); (case hg => rfl); (case hr => first | (go_simp; done) | (go_simp; rfl)); intro gb101 hg w11 hbox hb; have n0_ := sQ hb; have n1_ := Aside0.mk (hbox); have n2_ := Aside0.mk ((by rw [hg]; exact (below_size (wB)) : w.heap.size ≤ gb101)); have n3_ := Aside0.mk ((by rw [hg]; exact (below_size (wB)) : w.heap.size ≤ gb101)); clear HB; have HB := n0_; have BK101 := n1_; have GW101 := n2_; have GE101 := n3_; clear n0_ n1_ n2_ n3_; clear hb hbox hg) | ((with_reducible refine gate_callee (f := 47) rfl ?_); refine gL 8 Tryz.func47 #[.string a0] ?_; (with_reducible refine (spec_voParse.calls k a0 t102 t103 false _ A2.out).mono ?_); rintro e w12 ⟨v104, rfl, ho0, hb⟩; refine ⟨_, rfl, ?_⟩; have n0_ := Aside0.mk (Kd.R_lower ho0 (below_size (wB))); have n1_ := bP BK101 hb; have n2_ := sQ hb; clear BK101; clear HB; have HO105 := n0_; have BK101 := n1_; have HB := n2_; clear n0_ n1_ n2_; (try clear hb); (try clear hb2); (try clear hk); (try clear hi); (try clear ho0)) | ((with_reducible refine gate_dst (N := 4) rfl ?_); refine box_event ?hg (N := 4) ?hd (cs := #[.int .i64 0, .slice none 0 0]) (t := 24) ?hr ?_; (case hd => rfl); (case hg => rfl); (case hr => first | (go_simp; done) | (go_simp; rfl)); intro gb107 hg w13 hbox hb; have n0_ := rP HO105 hb; have n1_ := bP BK101 hb; have n2_ := sQ hb; have n3_ := Aside0.mk (hbox); have n4_ := Aside0.mk ((by rw [hg]; exact (below_size (wB)) : w.heap.size ≤ gb107)); have n5_ := Aside0.mk ((by rw [hg]; exact (below_size (wB)) : w.heap.size ≤ gb107)); have n6_ := Aside0.mk ((by rw [hg]; exact Nat.ne_of_lt (blk_lt (g := gb101) (o := .cells #[.int .i64 0, .slice none 0 0] 24 (0, 0)) (bQ BK101)) : gb101 ≠ gb107)); have n7_ := Aside0.mk ((by rw [hg]; exact Nat.ne_of_gt (blk_lt (g := gb101) (o := .cells #[.int .i64 0, .slice none 0 0] 24 (0, 0)) (bQ BK101)) : gb107 ≠ gb101)); clear HO105; clear BK101; clear HB; have HO105 := n0_; have BK101 := n1_; have HB := n2_; have BK107 := n3_; have GW107 := n4_; have GE107 := n5_; have NB101_107 := n6_; have NB107_101 := n7_; clear n0_ n1_ n2_ n3_ n4_ n5_ n6_ n7_; clear hb hbox hg; have hnb14 := NB107_101.out; have hnc14 := NB101_107.out; obtain ⟨hcz15_0, hcz15_1, hfz15_0, hfz15_1⟩ := zZ BK107; obtain ⟨Ao16, co16, eo16⟩ := Kd.R_slice HO105.out; subst eo16; obtain ⟨hcz17_0, hcz17_1, hfz17_0, hfz17_1⟩ := zZ BK101))
  refine bodyPost_ret (results_ct rfl _ _ gb101 24 #[.int .i64 0, .slice none 0 0] (0, 0) _ rfl (by (try refine bp ?_); refine blk_put (cs := #[.int .i64 0, .slice none 0 0]) ?_ 1 _ rfl; (try refine bp ?_); refine blk_put (cs := #[.int .i64 0, .slice none 0 0]) ?_ 0 _ rfl; (try refine bp ?_); refine blk_far ?_ NB101_107.out _; (try refine bp ?_); refine blk_far ?_ NB101_107.out _; (first | exact bp BK101.out | exact BK101.out)) Tryz.underlying24 rfl (by kernel_rfl)) rfl ?_
  exact ⟨_, fR, by first | exact Kd.R_nil _ _ _ _ _ | exact Kd.N_nil _ _ _ _ _ | exact Kd.V_nil _ _ _ _ _ | exact Kd.Q_nil _ _ _ _ _ | exact Kd.S_nil _ _ _ _ _, wB⟩
 subst c3
 replace H := iT H
 simp only [Option.some.injEq, Prod.mk.injEq] at H
 obtain ⟨rfl, rfl, rfl⟩ := H
 go_enter Tryz.func16, Tryz.ntmps16
 go_wp2_with (first | ((with_reducible refine gate_dst (N := 2) rfl ?_); refine box_event ?hg (N := 2) ?hd (cs := #[.int .i64 0, .slice none 0 0]) (t := 24) ?hr ?_; (case hd => rfl); (case hg => rfl); (case hr => first | (go_simp; done) | (go_simp; rfl)); intro gb101 hg w4 hbox hb; have n0_ := sQ hb; have n1_ := Aside0.mk (hbox); have n2_ := Aside0.mk ((by rw [hg]; exact (below_size (wB)) : w.heap.size ≤ gb101)); have n3_ := Aside0.mk ((by rw [hg]; exact (below_size (wB)) : w.heap.size ≤ gb101)); clear HB; have HB := n0_; have BK101 := n1_; have GW101 := n2_; have GE101 := n3_; clear n0_ n1_ n2_ n3_; clear hb hbox hg) | ((with_reducible refine gate_callee (f := 47) rfl ?_); refine gL 8 Tryz.func47 #[.string a0] ?_; (with_reducible refine (spec_voParse.calls k a0 t102 t103 true _ A2.out).mono ?_); rintro e w5 ⟨v104, rfl, ho0, hb⟩; refine ⟨_, rfl, ?_⟩; have n0_ := Aside0.mk (Kd.R_lower ho0 (below_size (wB))); have n1_ := bP BK101 hb; have n2_ := sQ hb; clear BK101; clear HB; have HO105 := n0_; have BK101 := n1_; have HB := n2_; clear n0_ n1_ n2_; (try clear hb); (try clear hb2); (try clear hk); (try clear hi); (try clear ho0)) | ((with_reducible refine gate_dst (N := 4) rfl ?_); refine box_event ?hg (N := 4) ?hd (cs := #[.int .i64 0, .slice none 0 0]) (t := 24) ?hr ?_; (case hd => rfl); (case hg => rfl); (case hr => first | (go_simp; done) | (go_simp; rfl)); intro gb107 hg w6 hbox hb; have n0_ := rP HO105 hb; have n1_ := bP BK101 hb; have n2_ := sQ hb; have n3_ := Aside0.mk (hbox); have n4_ := Aside0.mk ((by rw [hg]; exact (below_size (wB)) : w.heap.size ≤ gb107)); have n5_ := Aside0.mk ((by rw [hg]; exact (below_size (wB)) : w.heap.size ≤ gb107)); have n6_ := Aside0.mk ((by rw [hg]; exact Nat.ne_of_lt (blk_lt (g := gb101) (o := .cells #[.int .i64 0, .slice none 0 0] 24 (0, 0)) (bQ BK101)) : gb101 ≠ gb107)); have n7_ := Aside0.mk ((by rw [hg]; exact Nat.ne_of_gt (blk_lt (g := gb101) (o := .cells #[.int .i64 0, .slice none 0 0] 24 (0, 0)) (bQ BK101)) : gb107 ≠ gb101)); clear HO105; clear BK101; clear HB; have HO105 := n0_; have BK101 := n1_; have HB := n2_; have BK107 := n3_; have GW107 := n4_; have GE107 := n5_; have NB101_107 := n6_; have NB107_101 := n7_; clear n0_ n1_ n2_ n3_ n4_ n5_ n6_ n7_; clear hb hbox hg; have hnb7 := NB107_101.out; have hnc7 := NB101_107.out; obtain ⟨hcz8_0, hcz8_1, hfz8_0, hfz8_1⟩ := zZ BK107; obtain ⟨Ao9, co9, eo9⟩ := Kd.R_slice HO105.out; subst eo9; obtain ⟨hcz10_0, hcz10_1, hfz10_0, hfz10_1⟩ := zZ BK101))
 refine bodyPost_ret (results_ct rfl _ _ gb101 24 #[.int .i64 t102, .slice Ao9 t103.length co9] (0, 0) _ rfl (by (try refine bp ?_); refine blk_put (cs := #[.int .i64 t102, .slice none 0 0]) ?_ 1 _ rfl; (try refine bp ?_); refine blk_put (cs := #[.int .i64 0, .slice none 0 0]) ?_ 0 _ rfl; (try refine bp ?_); refine blk_far ?_ NB101_107.out _; (try refine bp ?_); refine blk_far ?_ NB101_107.out _; (first | exact bp BK101.out | exact BK101.out)) Tryz.underlying24 rfl (by kernel_rfl)) rfl ?_
 exact ⟨_, fR, by (try refine rp ?_); exact Kd.R_mono (Kd.R_far (p := ⟨gb101, 1, none⟩) (Kd.R_far (p := ⟨gb101, 0, none⟩) (Kd.R_far (p := ⟨gb107, 1, none⟩) (Kd.R_far (p := ⟨gb107, 0, none⟩) (Kd.R_types (Kd.R_types HO105.out BK107.out (by decide)) BK101.out (by decide)) (fun _ hk => hk.1.2) (.int .i64 t102)) (fun _ hk => hk.1.2) (.slice Ao9 t103.length co9)) (fun _ hk => hk.2) (.int .i64 t102)) (fun _ hk => hk.2) (.slice Ao9 t103.length co9)) (fun _ hk => trivial), wB⟩
def laws_mSum.l0 : Nat → Int → List Int → Int → Int → Option (Int)
 | 0, _, _, _, _ => none
 | k + 1, x3, x6, x7, x8 => if x8 < x7 then (if 0 ≤ x8 then (if x8 < (x6.length : Int) then (laws_mSum.l0 k (wrap64 (x3 + (rd x6 x8))) x6 x7 (wrap64 (x8 + 1))) else (none)) else (none)) else (some x3)
def laws_mSum.f (k : Nat) (l0 : List Int) : Option (Int) := laws_mSum.l0 k 0 l0 (l0.length : Int) 0
theorem laws_mSum.calls (k : Nat) (A0 : Option Addr) (c0 : Nat) (l0 : List Int) (r : Int) (w : World) (hr0 : Kd.C (Kd.int .i64) w A0 l0.length l0) (hc0 : l0.length ≤ c0) (h : laws_mSum.f k l0 = some r) :
  Calls Tryz.prog 18 #[.slice A0 l0.length c0] w fun e w' => e = .returned (.int .i64 r) ∧ Drawn0 w w' := by
 have HR0 := Aside0.mk hr0
 have HC0 := Aside0.mk hc0
 clear hr0 hc0
 have H := h
 unfold laws_mSum.f at H
 clear h
 have H' := Aside0.mk H
 clear H
 go_enter Tryz.func18, Tryz.ntmps18
 go_wp2
 go_loopg [3, 8] k (fun kq v3 v8 w' => ∃ (x3_1 : Int) (x8_1 : Int), v3 = .int .i64 x3_1 ∧ v8 = .int .i64 x8_1 ∧ Aside0 (laws_mSum.l0 kq x3_1 l0 (l0.length : Int) x8_1 = some r) ∧ Aside0 (kq ≤ k) ∧ Drawn0 w w')
 case atStart => exact ⟨(0), (0), gR, gR, H', ⟨Nat.le_refl _⟩, dS⟩
 case round =>
  clear H'
  try clear c1
  obtain ⟨x3_1, x8_1, rfl, rfl, HA, HK1, ⟨m1, rfl⟩⟩ := hrel
  cases gk with
  | zero => exact absurd HA.out (by simp [laws_mSum.l0])
  | succ k1 =>
   have H := HA.out
   clear HA
   simp only [laws_mSum.l0] at H
   by_cases c2 : x8_1 < (l0.length : Int)
   rotate_left
   ·rw [if_neg c2] at H
    have c2b0 : decide (x8_1 < (l0.length : Int)) = false := decide_eq_false c2
    clear c2
    obtain rfl := Option.some.inj H
    go_wp2
    go_ret
    exact ⟨by first | rfl | (simp; done) | (simp [*]; done), dS⟩
   rw [if_pos c2] at H
   have c2b0 := decide_eq_true c2
   clear c2
   by_cases c3 : 0 ≤ x8_1
   rotate_left
   ·rw [if_neg c3] at H
    exact absurd H (by simp)
   rw [if_pos c3] at H
   have c3b0 := decide_eq_true c3
   clear c3
   by_cases c4 : x8_1 < (l0.length : Int)
   rotate_left
   ·rw [if_neg c4] at H
    exact absurd H (by simp)
   rw [if_pos c4] at H
   have c4b0 := decide_eq_true c4
   clear c4
   have H' := Aside0.mk H
   clear H
   have p101 : 0 ≤ (x8_1 : Int) := oD
   have q101 : x8_1 < (l0.length : Int) := oD
   obtain ⟨ad101, e101, hx101_0⟩ := Kd.at_int HR0.out x8_1 p101 q101
   cases e101
   replace p101 := eq_true p101
   replace q101 := eq_true q101
   go_wp2
   go_roundg k1
   case measure => have := HK1.out; omega
   case rel => exact ⟨(wrap64 (x3_1 + (rd l0 x8_1))), (wrap64 (x8_1 + 1)), gR, gR, H', ⟨by have := HK1.out; omega⟩, dS⟩
def impl_votes_isLeast.l0 : Nat → Int → Int → Int → Int → List Bool → Option (Bool)
 | 0, _, _, _, _, _ => none
 | k + 1, x1, x13, x14, x102000, x102001 => if x14 < x13 then ((impl_has.f x1 x14).bind fun t103 => (if t103 = true then (if 0 ≤ x14 then (if 0 ≤ (Go.bits .andNot .i64 x1 (shl .i64 1 x14)) then (if (Go.bits .andNot .i64 x1 (shl .i64 1 x14)) < (x102001.length : Int) then (if rdOf false x102001 (Go.bits .andNot .i64 x1 (shl .i64 1 x14)) = true then (some false) else (impl_votes_isLeast.l0 k x1 x13 (wrap64 (x14 + 1)) x102000 x102001)) else (none)) else (none)) else (none)) else (impl_votes_isLeast.l0 k x1 x13 (wrap64 (x14 + 1)) x102000 x102001))) else (some true)
def impl_votes_isLeast.f (k : Nat) (a0_0 : Int) (l0_1 : List Bool) (a1 : Int) : Option (Bool) := if 0 ≤ a1 then (if a1 < (l0_1.length : Int) then (if rdOf false l0_1 a1 = true then (impl_votes_isLeast.l0 k a1 a0_0 0 a0_0 l0_1) else (some false)) else (none)) else (none)
theorem impl_votes_isLeast.calls (k : Nat) (a0_0 : Int) (A0_1 : Option Addr) (c0_1 : Nat) (l0_1 : List Bool) (a1 : Int) (r : Bool) (w : World) (hr0_1 : Kd.C Kd.bool w A0_1 l0_1.length l0_1) (hc0_1 : l0_1.length ≤ c0_1) (h : impl_votes_isLeast.f k a0_0 l0_1 a1 = some r) :
  Calls Tryz.prog 81 #[.agg #[.int .i64 a0_0, .slice A0_1 l0_1.length c0_1], .int .i64 a1] w fun e w' => e = .returned (.bool r) ∧ Below w.heap.size w w' := by
 have hu58 := Tryz.underlying58
 have HR0_1 := Aside0.mk hr0_1
 have HC0_1 := Aside0.mk hc0_1
 clear hr0_1 hc0_1
 have HB := Aside0.mk (Below.refl w.heap.size w)
 have H := h
 unfold impl_votes_isLeast.f at H
 clear h
 by_cases c3 : 0 ≤ a1
 rotate_left
 ·rw [if_neg c3] at H
  exact absurd H (by simp)
 rw [if_pos c3] at H
 have c3b0 := decide_eq_true c3
 clear c3
 by_cases c4 : a1 < (l0_1.length : Int)
 rotate_left
 ·rw [if_neg c4] at H
  exact absurd H (by simp)
 rw [if_pos c4] at H
 have c4b0 := decide_eq_true c4
 clear c4
 obtain ⟨bq5, hbq5⟩ : ∃ b_ : Bool, b_ = (rdOf false l0_1 a1) := ⟨_, rfl⟩
 replace H : (if bq5 = true then (impl_votes_isLeast.l0 k a1 a0_0 0 a0_0 l0_1) else (some false)) = some r := by rw [← hbq5] at H; exact H
 have Nbq5 := Aside0.mk hbq5
 clear hbq5
 by_cases c6 : bq5 = true
 rotate_left
 ·replace c6 := Bool.eq_false_iff.mpr c6
  subst c6
  replace H := iF H
  obtain rfl := Option.some.inj H
  go_enter Tryz.func81, Tryz.ntmps81
  go_wp2_with (first | ((with_reducible refine gate_dst (N := 2) rfl ?_); refine box_event ?hg (N := 2) ?hd (cs := #[.int .i64 a0_0, .slice A0_1 l0_1.length c0_1]) (t := 58) ?hr ?_; (case hd => rfl); (case hg => rfl); (case hr => first | (go_simp; done) | (go_simp; rfl)); intro gb101 hg w20 hbox hb; have n0_ := sQ hb; have n1_ := Aside0.mk (hbox); have n2_ := Aside0.mk ((by rw [hg]; exact (below_size (wB)) : w.heap.size ≤ gb101)); have n3_ := Aside0.mk ((by rw [hg]; exact (below_size (wB)) : w.heap.size ≤ gb101)); clear HB; have HB := n0_; have BK101 := n1_; have GW101 := n2_; have GE101 := n3_; clear n0_ n1_ n2_ n3_; clear hb hbox hg; obtain ⟨hcz21_0, hcz21_1, hfz21_0, hfz21_1⟩ := zZ BK101; have p102 : 0 ≤ (a1 : Int) := oD; have q102 : a1 < (l0_1.length : Int) := oD; obtain ⟨ad102, e102, hx102_0⟩ := Kd.at_bool HR0_1.out a1 p102 q102; (try rw [← Nbq5.out] at hx102_0); cases e102; replace hx102_0 := (HB.out.cell (World.block_lt_of_cell? w _ hx102_0)).trans hx102_0; replace p102 := eq_true p102; replace q102 := eq_true q102))
  repeat (go_quiet (first | ((with_reducible refine gate_dst (N := 2) rfl ?_); refine box_event ?hg (N := 2) ?hd (cs := #[.int .i64 a0_0, .slice A0_1 l0_1.length c0_1]) (t := 58) ?hr ?_; (case hd => rfl); (case hg => rfl); (case hr => first | (go_simp; done) | (go_simp; rfl)); intro gb101 hg w20 hbox hb; have n0_ := sQ hb; have n1_ := Aside0.mk (hbox); have n2_ := Aside0.mk ((by rw [hg]; exact (below_size (wB)) : w.heap.size ≤ gb101)); have n3_ := Aside0.mk ((by rw [hg]; exact (below_size (wB)) : w.heap.size ≤ gb101)); clear HB; have HB := n0_; have BK101 := n1_; have GW101 := n2_; have GE101 := n3_; clear n0_ n1_ n2_ n3_; clear hb hbox hg; obtain ⟨hcz21_0, hcz21_1, hfz21_0, hfz21_1⟩ := zZ BK101; have p102 : 0 ≤ (a1 : Int) := oD; have q102 : a1 < (l0_1.length : Int) := oD; obtain ⟨ad102, e102, hx102_0⟩ := Kd.at_bool HR0_1.out a1 p102 q102; (try rw [← Nbq5.out] at hx102_0); cases e102; replace hx102_0 := (HB.out.cell (World.block_lt_of_cell? w _ hx102_0)).trans hx102_0; replace p102 := eq_true p102; replace q102 := eq_true q102)); try go_wp2_with (first | ((with_reducible refine gate_dst (N := 2) rfl ?_); refine box_event ?hg (N := 2) ?hd (cs := #[.int .i64 a0_0, .slice A0_1 l0_1.length c0_1]) (t := 58) ?hr ?_; (case hd => rfl); (case hg => rfl); (case hr => first | (go_simp; done) | (go_simp; rfl)); intro gb101 hg w20 hbox hb; have n0_ := sQ hb; have n1_ := Aside0.mk (hbox); have n2_ := Aside0.mk ((by rw [hg]; exact (below_size (wB)) : w.heap.size ≤ gb101)); have n3_ := Aside0.mk ((by rw [hg]; exact (below_size (wB)) : w.heap.size ≤ gb101)); clear HB; have HB := n0_; have BK101 := n1_; have GW101 := n2_; have GE101 := n3_; clear n0_ n1_ n2_ n3_; clear hb hbox hg; obtain ⟨hcz21_0, hcz21_1, hfz21_0, hfz21_1⟩ := zZ BK101; have p102 : 0 ≤ (a1 : Int) := oD; have q102 : a1 < (l0_1.length : Int) := oD; obtain ⟨ad102, e102, hx102_0⟩ := Kd.at_bool HR0_1.out a1 p102 q102; (try rw [← Nbq5.out] at hx102_0); cases e102; replace hx102_0 := (HB.out.cell (World.block_lt_of_cell? w _ hx102_0)).trans hx102_0; replace p102 := eq_true p102; replace q102 := eq_true q102)))
  go_ret
  exact ⟨fR, wB⟩
 subst c6
 replace H := iT H
 have H' := Aside0.mk H
 clear H
 go_enter Tryz.func81, Tryz.ntmps81
 go_wp2_with (first | ((with_reducible refine gate_dst (N := 2) rfl ?_); refine box_event ?hg (N := 2) ?hd (cs := #[.int .i64 a0_0, .slice A0_1 l0_1.length c0_1]) (t := 58) ?hr ?_; (case hd => rfl); (case hg => rfl); (case hr => first | (go_simp; done) | (go_simp; rfl)); intro gb101 hg w7 hbox hb; have n0_ := sQ hb; have n1_ := Aside0.mk (hbox); have n2_ := Aside0.mk ((by rw [hg]; exact (below_size (wB)) : w.heap.size ≤ gb101)); have n3_ := Aside0.mk ((by rw [hg]; exact (below_size (wB)) : w.heap.size ≤ gb101)); clear HB; have HB := n0_; have BK101 := n1_; have GW101 := n2_; have GE101 := n3_; clear n0_ n1_ n2_ n3_; clear hb hbox hg; obtain ⟨hcz8_0, hcz8_1, hfz8_0, hfz8_1⟩ := zZ BK101; have p102 : 0 ≤ (a1 : Int) := oD; have q102 : a1 < (l0_1.length : Int) := oD; obtain ⟨ad102, e102, hx102_0⟩ := Kd.at_bool HR0_1.out a1 p102 q102; (try rw [← Nbq5.out] at hx102_0); cases e102; replace hx102_0 := (HB.out.cell (World.block_lt_of_cell? w _ hx102_0)).trans hx102_0; replace p102 := eq_true p102; replace q102 := eq_true q102))
 repeat (go_quiet (first | ((with_reducible refine gate_dst (N := 2) rfl ?_); refine box_event ?hg (N := 2) ?hd (cs := #[.int .i64 a0_0, .slice A0_1 l0_1.length c0_1]) (t := 58) ?hr ?_; (case hd => rfl); (case hg => rfl); (case hr => first | (go_simp; done) | (go_simp; rfl)); intro gb101 hg w7 hbox hb; have n0_ := sQ hb; have n1_ := Aside0.mk (hbox); have n2_ := Aside0.mk ((by rw [hg]; exact (below_size (wB)) : w.heap.size ≤ gb101)); have n3_ := Aside0.mk ((by rw [hg]; exact (below_size (wB)) : w.heap.size ≤ gb101)); clear HB; have HB := n0_; have BK101 := n1_; have GW101 := n2_; have GE101 := n3_; clear n0_ n1_ n2_ n3_; clear hb hbox hg; obtain ⟨hcz8_0, hcz8_1, hfz8_0, hfz8_1⟩ := zZ BK101; have p102 : 0 ≤ (a1 : Int) := oD; have q102 : a1 < (l0_1.length : Int) := oD; obtain ⟨ad102, e102, hx102_0⟩ := Kd.at_bool HR0_1.out a1 p102 q102; (try rw [← Nbq5.out] at hx102_0); cases e102; replace hx102_0 := (HB.out.cell (World.block_lt_of_cell? w _ hx102_0)).trans hx102_0; replace p102 := eq_true p102; replace q102 := eq_true q102)); try go_wp2_with (first | ((with_reducible refine gate_dst (N := 2) rfl ?_); refine box_event ?hg (N := 2) ?hd (cs := #[.int .i64 a0_0, .slice A0_1 l0_1.length c0_1]) (t := 58) ?hr ?_; (case hd => rfl); (case hg => rfl); (case hr => first | (go_simp; done) | (go_simp; rfl)); intro gb101 hg w7 hbox hb; have n0_ := sQ hb; have n1_ := Aside0.mk (hbox); have n2_ := Aside0.mk ((by rw [hg]; exact (below_size (wB)) : w.heap.size ≤ gb101)); have n3_ := Aside0.mk ((by rw [hg]; exact (below_size (wB)) : w.heap.size ≤ gb101)); clear HB; have HB := n0_; have BK101 := n1_; have GW101 := n2_; have GE101 := n3_; clear n0_ n1_ n2_ n3_; clear hb hbox hg; obtain ⟨hcz8_0, hcz8_1, hfz8_0, hfz8_1⟩ := zZ BK101; have p102 : 0 ≤ (a1 : Int) := oD; have q102 : a1 < (l0_1.length : Int) := oD; obtain ⟨ad102, e102, hx102_0⟩ := Kd.at_bool HR0_1.out a1 p102 q102; (try rw [← Nbq5.out] at hx102_0); cases e102; replace hx102_0 := (HB.out.cell (World.block_lt_of_cell? w _ hx102_0)).trans hx102_0; replace p102 := eq_true p102; replace q102 := eq_true q102)))
 go_loopg [14] k (fun kq v14 w' => ∃ (x14_1 : Int), v14 = .int .i64 x14_1 ∧ Aside0 (impl_votes_isLeast.l0 kq a1 a0_0 x14_1 a0_0 l0_1 = some r) ∧ Aside0 (kq ≤ k) ∧ Aside0 (w'.heap[gb101]? = some (.cells #[.int .i64 a0_0, (.slice (some ad102) l0_1.length c0_1)] 58 (0, 0))) ∧ Aside0 (Below w.heap.size w w'))
 case atStart => exact ⟨(0), gR, H', ⟨Nat.le_refl _⟩, ⟨bQ BK101⟩, ⟨wB⟩⟩
 case round =>
  clear H'
  try clear p1
  try clear q1
  try clear hx1
  try clear p2
  try clear c3
  try clear c3b0
  try clear c4
  try clear c4b0
  try clear q5
  try clear c6
  try clear c8
  try clear hcz8_0
  try clear hcz8_1
  try clear hfz8_0
  try clear hfz8_1
  try clear hx102_0
  try clear p102
  try clear q102
  obtain ⟨x14_1, rfl, HA, HK1, BK101, HB⟩ := hrel
  cases gk with
  | zero => exact absurd HA.out (by simp [impl_votes_isLeast.l0])
  | succ k1 =>
   have H := HA.out
   clear HA
   simp only [impl_votes_isLeast.l0] at H
   by_cases c9 : x14_1 < a0_0
   rotate_left
   ·rw [if_neg c9] at H
    have c9b0 : decide (x14_1 < a0_0) = false := decide_eq_false c9
    clear c9
    obtain rfl := Option.some.inj H
    go_wp2
    repeat (go_quiet (fail); try go_wp2)
    go_ret
    exact ⟨fR, wB⟩
   rw [if_pos c9] at H
   have c9b0 := decide_eq_true c9
   clear c9
   replace H := oB H
   obtain ⟨t103, A100, H⟩ := H
   replace H : (if t103 = true then (if 0 ≤ x14_1 then (if 0 ≤ (Go.bits .andNot .i64 a1 (shl .i64 1 x14_1)) then (if (Go.bits .andNot .i64 a1 (shl .i64 1 x14_1)) < (l0_1.length : Int) then (if rdOf false l0_1 (Go.bits .andNot .i64 a1 (shl .i64 1 x14_1)) = true then (some false) else (impl_votes_isLeast.l0 k1 a1 a0_0 (wrap64 (x14_1 + 1)) a0_0 l0_1)) else (none)) else (none)) else (none)) else (impl_votes_isLeast.l0 k1 a1 a0_0 (wrap64 (x14_1 + 1)) a0_0 l0_1)) = some r := H
   have A10 := Aside0.mk A100
   clear A100
   by_cases c11 : t103 = true
   rotate_left
   ·replace c11 := Bool.eq_false_iff.mpr c11
    subst c11
    replace H := iF H
    have H' := Aside0.mk H
    clear H
    go_wp2_with (first | (go_at_call 85; (with_reducible refine (impl_has.calls a1 x14_1 false _ A10.out).mono ?_); rintro e w' ⟨rfl, ⟨nd, rfl⟩⟩; (try exact dR)))
    repeat (go_quiet (first | (go_at_call 85; (with_reducible refine (impl_has.calls a1 x14_1 false _ A10.out).mono ?_); rintro e w' ⟨rfl, ⟨nd, rfl⟩⟩; (try exact dR))); try go_wp2_with (first | (go_at_call 85; (with_reducible refine (impl_has.calls a1 x14_1 false _ A10.out).mono ?_); rintro e w' ⟨rfl, ⟨nd, rfl⟩⟩; (try exact dR))))
    go_roundg k1
    case measure => have := HK1.out; omega
    case rel => exact ⟨(wrap64 (x14_1 + 1)), gR, H', ⟨by have := HK1.out; omega⟩, ⟨bQ BK101⟩, ⟨wB⟩⟩
   subst c11
   replace H := iT H
   by_cases c12 : 0 ≤ x14_1
   rotate_left
   ·rw [if_neg c12] at H
    exact absurd H (by simp)
   rw [if_pos c12] at H
   have c12b0 := eq_true c12
   have c12b1 := decide_eq_true c12
   clear c12
   obtain ⟨ji13, hji13⟩ : ∃ j_ : Int, (shl .i64 1 x14_1) = j_ := ⟨_, rfl⟩
   replace H : (if 0 ≤ (Go.bits .andNot .i64 a1 (ji13)) then (if (Go.bits .andNot .i64 a1 (ji13)) < (l0_1.length : Int) then (if rdOf false l0_1 (Go.bits .andNot .i64 a1 (ji13)) = true then (some false) else (impl_votes_isLeast.l0 k1 a1 a0_0 (wrap64 (x14_1 + 1)) a0_0 l0_1)) else (none)) else (none)) = some r := by first | (rw [hji13] at H; exact H) | (simp only [hji13] at H ⊢; exact H)
   (try rw [hji13] at A10)
   have hji13_ : (IntKind.i64.wrap (1 * 2 ^ min x14_1.toNat 64)) = ji13 := hji13
   have hji13z : x14_1 ≤ 64 → (IntKind.i64.wrap (1 * 2 ^ x14_1.toNat)) = ji13 := shl_small hji13
   have hji13u : (IntKind.i64.wrap (2 ^ min x14_1.toNat 64)) = ji13 := by have h_ := hji13_; rw [Int.one_mul] at h_; exact h_
   have hji13v : x14_1 ≤ 64 → (IntKind.i64.wrap (2 ^ x14_1.toNat)) = ji13 := fun hle_ => by have h_ := hji13z hle_; rw [Int.one_mul] at h_; exact h_
   have hji13y : (wrap64 (1 * 2 ^ min x14_1.toNat 64)) = ji13 := (i64_w _).symm.trans hji13_
   have hji13x : x14_1 ≤ 64 → (wrap64 (1 * 2 ^ x14_1.toNat)) = ji13 := fun h_ => (i64_w _).symm.trans (hji13z h_)
   by_cases c14 : 0 ≤ (Go.bits .andNot .i64 a1 (ji13))
   rotate_left
   ·rw [if_neg c14] at H
    exact absurd H (by simp)
   rw [if_pos c14] at H
   have c14b0 := decide_eq_true c14
   clear c14
   by_cases c15 : (Go.bits .andNot .i64 a1 (ji13)) < (l0_1.length : Int)
   rotate_left
   ·rw [if_neg c15] at H
    exact absurd H (by simp)
   rw [if_pos c15] at H
   have c15b0 := decide_eq_true c15
   clear c15
   obtain ⟨bq16, hbq16⟩ : ∃ b_ : Bool, b_ = (rdOf false l0_1 (Go.bits .andNot .i64 a1 (ji13))) := ⟨_, rfl⟩
   replace H : (if bq16 = true then (some false) else (impl_votes_isLeast.l0 k1 a1 a0_0 (wrap64 (x14_1 + 1)) a0_0 l0_1)) = some r := by rw [← hbq16] at H; exact H
   have Nbq16 := Aside0.mk hbq16
   clear hbq16
   by_cases c17 : bq16 = true
   ·subst c17
    replace H := iT H
    obtain rfl := Option.some.inj H
    go_wp2_with (first | (go_at_call 85; (with_reducible refine (impl_has.calls a1 x14_1 true _ A10.out).mono ?_); rintro e w' ⟨rfl, ⟨nd, rfl⟩⟩; (try exact dR); obtain ⟨hcz18_0, hcz18_1, hfz18_0, hfz18_1⟩ := zZ BK101; have p104 : 0 ≤ ((Go.bits .andNot .i64 a1 (ji13)) : Int) := oD; have q104 : (Go.bits .andNot .i64 a1 (ji13)) < (l0_1.length : Int) := oD; obtain ⟨ad104, e104, hx104_0⟩ := Kd.at_bool HR0_1.out (Go.bits .andNot .i64 a1 (ji13)) p104 q104; (try rw [← Nbq5.out] at hx104_0); (try rw [← Nbq16.out] at hx104_0); obtain rfl : ad102 = ad104 := (by injection e104); replace hx104_0 := (HB.out.cell (World.block_lt_of_cell? w _ hx104_0)).trans hx104_0; replace p104 := eq_true p104; replace q104 := eq_true q104))
    repeat (go_quiet (first | (go_at_call 85; (with_reducible refine (impl_has.calls a1 x14_1 true _ A10.out).mono ?_); rintro e w' ⟨rfl, ⟨nd, rfl⟩⟩; (try exact dR); obtain ⟨hcz18_0, hcz18_1, hfz18_0, hfz18_1⟩ := zZ BK101; have p104 : 0 ≤ ((Go.bits .andNot .i64 a1 (ji13)) : Int) := oD; have q104 : (Go.bits .andNot .i64 a1 (ji13)) < (l0_1.length : Int) := oD; obtain ⟨ad104, e104, hx104_0⟩ := Kd.at_bool HR0_1.out (Go.bits .andNot .i64 a1 (ji13)) p104 q104; (try rw [← Nbq5.out] at hx104_0); (try rw [← Nbq16.out] at hx104_0); obtain rfl : ad102 = ad104 := (by injection e104); replace hx104_0 := (HB.out.cell (World.block_lt_of_cell? w _ hx104_0)).trans hx104_0; replace p104 := eq_true p104; replace q104 := eq_true q104)); try go_wp2_with (first | (go_at_call 85; (with_reducible refine (impl_has.calls a1 x14_1 true _ A10.out).mono ?_); rintro e w' ⟨rfl, ⟨nd, rfl⟩⟩; (try exact dR); obtain ⟨hcz18_0, hcz18_1, hfz18_0, hfz18_1⟩ := zZ BK101; have p104 : 0 ≤ ((Go.bits .andNot .i64 a1 (ji13)) : Int) := oD; have q104 : (Go.bits .andNot .i64 a1 (ji13)) < (l0_1.length : Int) := oD; obtain ⟨ad104, e104, hx104_0⟩ := Kd.at_bool HR0_1.out (Go.bits .andNot .i64 a1 (ji13)) p104 q104; (try rw [← Nbq5.out] at hx104_0); (try rw [← Nbq16.out] at hx104_0); obtain rfl : ad102 = ad104 := (by injection e104); replace hx104_0 := (HB.out.cell (World.block_lt_of_cell? w _ hx104_0)).trans hx104_0; replace p104 := eq_true p104; replace q104 := eq_true q104)))
    go_ret
    exact ⟨by first | rfl | (simp <;> rfl) | (simp only [← hji13]; first | rfl | (simp <;> rfl)) | (simp [*] <;> rfl), wB⟩
   replace c17 := Bool.eq_false_iff.mpr c17
   subst c17
   replace H := iF H
   have H' := Aside0.mk H
   clear H
   go_wp2_with (first | (go_at_call 85; (with_reducible refine (impl_has.calls a1 x14_1 true _ A10.out).mono ?_); rintro e w' ⟨rfl, ⟨nd, rfl⟩⟩; (try exact dR); obtain ⟨hcz19_0, hcz19_1, hfz19_0, hfz19_1⟩ := zZ BK101; have p104 : 0 ≤ ((Go.bits .andNot .i64 a1 (ji13)) : Int) := oD; have q104 : (Go.bits .andNot .i64 a1 (ji13)) < (l0_1.length : Int) := oD; obtain ⟨ad104, e104, hx104_0⟩ := Kd.at_bool HR0_1.out (Go.bits .andNot .i64 a1 (ji13)) p104 q104; (try rw [← Nbq5.out] at hx104_0); (try rw [← Nbq16.out] at hx104_0); obtain rfl : ad102 = ad104 := (by injection e104); replace hx104_0 := (HB.out.cell (World.block_lt_of_cell? w _ hx104_0)).trans hx104_0; replace p104 := eq_true p104; replace q104 := eq_true q104))
   repeat (go_quiet (first | (go_at_call 85; (with_reducible refine (impl_has.calls a1 x14_1 true _ A10.out).mono ?_); rintro e w' ⟨rfl, ⟨nd, rfl⟩⟩; (try exact dR); obtain ⟨hcz19_0, hcz19_1, hfz19_0, hfz19_1⟩ := zZ BK101; have p104 : 0 ≤ ((Go.bits .andNot .i64 a1 (ji13)) : Int) := oD; have q104 : (Go.bits .andNot .i64 a1 (ji13)) < (l0_1.length : Int) := oD; obtain ⟨ad104, e104, hx104_0⟩ := Kd.at_bool HR0_1.out (Go.bits .andNot .i64 a1 (ji13)) p104 q104; (try rw [← Nbq5.out] at hx104_0); (try rw [← Nbq16.out] at hx104_0); obtain rfl : ad102 = ad104 := (by injection e104); replace hx104_0 := (HB.out.cell (World.block_lt_of_cell? w _ hx104_0)).trans hx104_0; replace p104 := eq_true p104; replace q104 := eq_true q104)); try go_wp2_with (first | (go_at_call 85; (with_reducible refine (impl_has.calls a1 x14_1 true _ A10.out).mono ?_); rintro e w' ⟨rfl, ⟨nd, rfl⟩⟩; (try exact dR); obtain ⟨hcz19_0, hcz19_1, hfz19_0, hfz19_1⟩ := zZ BK101; have p104 : 0 ≤ ((Go.bits .andNot .i64 a1 (ji13)) : Int) := oD; have q104 : (Go.bits .andNot .i64 a1 (ji13)) < (l0_1.length : Int) := oD; obtain ⟨ad104, e104, hx104_0⟩ := Kd.at_bool HR0_1.out (Go.bits .andNot .i64 a1 (ji13)) p104 q104; (try rw [← Nbq5.out] at hx104_0); (try rw [← Nbq16.out] at hx104_0); obtain rfl : ad102 = ad104 := (by injection e104); replace hx104_0 := (HB.out.cell (World.block_lt_of_cell? w _ hx104_0)).trans hx104_0; replace p104 := eq_true p104; replace q104 := eq_true q104)))
   go_roundg k1
   case measure => have := HK1.out; omega
   case rel => exact ⟨(wrap64 (x14_1 + 1)), gR, H', ⟨by have := HK1.out; omega⟩, ⟨bQ BK101⟩, ⟨wB⟩⟩
def cmp_isNaN_int.f (a0 : Int) : Option (Bool) := some (a0 != a0)
theorem cmp_isNaN_int.calls (a0 : Int) (r : Bool) (w : World) (h : cmp_isNaN_int.f a0 = some r) :
  Calls Tryz.prog 145 #[.int .i64 a0] w fun e w' => e = .returned (.bool r) ∧ Drawn0 w w' := by
 have H : (some (a0 != a0)) = some r := h
 clear h
 obtain rfl := Option.some.inj H
 go_enter Tryz.func145, Tryz.ntmps145
 go_wp2
 go_ret
 exact ⟨by first | rfl | (simp; done) | (simp [*]; done), dS⟩
def cmp_Compare_int.f (a0 : Int) (a1 : Int) : Option (Int) := (cmp_isNaN_int.f a0).bind fun t101 => ((cmp_isNaN_int.f a1).bind fun t102 => (if t101 = true then (if t102 = true then (some 0) else (some (-1))) else (if t102 = true then (some 1) else (if a0 < a1 then (some (-1)) else (if a0 > a1 then (some 1) else (some 0))))))
theorem cmp_Compare_int.calls (a0 : Int) (a1 : Int) (r : Int) (w : World) (h : cmp_Compare_int.f a0 a1 = some r) :
  Calls Tryz.prog 120 #[.int .i64 a0, .int .i64 a1] w fun e w' => e = .returned (.int .i64 r) ∧ Drawn0 w w' := by
 have H := h
 unfold cmp_Compare_int.f at H
 clear h
 replace H := oB H
 obtain ⟨t101, A30, H⟩ := H
 replace H : ((cmp_isNaN_int.f a1).bind fun t102 => (if t101 = true then (if t102 = true then (some 0) else (some (-1))) else (if t102 = true then (some 1) else (if a0 < a1 then (some (-1)) else (if a0 > a1 then (some 1) else (some 0)))))) = some r := H
 have A3 := Aside0.mk A30
 clear A30
 replace H := oB H
 obtain ⟨t102, A40, H⟩ := H
 replace H : (if t101 = true then (if t102 = true then (some 0) else (some (-1))) else (if t102 = true then (some 1) else (if a0 < a1 then (some (-1)) else (if a0 > a1 then (some 1) else (some 0))))) = some r := H
 have A4 := Aside0.mk A40
 clear A40
 by_cases c5 : t101 = true
 ·subst c5
  replace H := iT H
  by_cases c6 : t102 = true
  ·subst c6
   replace H := iT H
   obtain rfl := Option.some.inj H
   go_enter Tryz.func120, Tryz.ntmps120
   go_wp2_with (first | ((with_reducible refine gate_callee (f := 145) rfl ?_); refine gL 8 Tryz.func145 #[.int .i64 a0] ?_; (with_reducible refine (cmp_isNaN_int.calls a0 true _ A3.out).mono ?_); rintro e w' ⟨rfl, ⟨nd, rfl⟩⟩; refine ⟨_, rfl, ?_⟩) | ((with_reducible refine gate_callee (f := 145) rfl ?_); refine gL 10 Tryz.func145 #[.int .i64 a1] ?_; (with_reducible refine (cmp_isNaN_int.calls a1 true _ A4.out).mono ?_); rintro e w' ⟨rfl, ⟨nd, rfl⟩⟩; refine ⟨_, rfl, ?_⟩))
   go_ret
   exact ⟨by first | rfl | (simp; done) | (simp [*]; done), dS⟩
  replace c6 := Bool.eq_false_iff.mpr c6
  subst c6
  replace H := iF H
  obtain rfl := Option.some.inj H
  go_enter Tryz.func120, Tryz.ntmps120
  go_wp2_with (first | ((with_reducible refine gate_callee (f := 145) rfl ?_); refine gL 8 Tryz.func145 #[.int .i64 a0] ?_; (with_reducible refine (cmp_isNaN_int.calls a0 true _ A3.out).mono ?_); rintro e w' ⟨rfl, ⟨nd, rfl⟩⟩; refine ⟨_, rfl, ?_⟩) | ((with_reducible refine gate_callee (f := 145) rfl ?_); refine gL 10 Tryz.func145 #[.int .i64 a1] ?_; (with_reducible refine (cmp_isNaN_int.calls a1 false _ A4.out).mono ?_); rintro e w' ⟨rfl, ⟨nd, rfl⟩⟩; refine ⟨_, rfl, ?_⟩))
  go_ret
  exact ⟨by first | rfl | (simp; done) | (simp [*]; done), dS⟩
 replace c5 := Bool.eq_false_iff.mpr c5
 subst c5
 replace H := iF H
 by_cases c7 : t102 = true
 ·subst c7
  replace H := iT H
  obtain rfl := Option.some.inj H
  go_enter Tryz.func120, Tryz.ntmps120
  go_wp2_with (first | ((with_reducible refine gate_callee (f := 145) rfl ?_); refine gL 8 Tryz.func145 #[.int .i64 a0] ?_; (with_reducible refine (cmp_isNaN_int.calls a0 false _ A3.out).mono ?_); rintro e w' ⟨rfl, ⟨nd, rfl⟩⟩; refine ⟨_, rfl, ?_⟩) | ((with_reducible refine gate_callee (f := 145) rfl ?_); refine gL 10 Tryz.func145 #[.int .i64 a1] ?_; (with_reducible refine (cmp_isNaN_int.calls a1 true _ A4.out).mono ?_); rintro e w' ⟨rfl, ⟨nd, rfl⟩⟩; refine ⟨_, rfl, ?_⟩))
  go_ret
  exact ⟨by first | rfl | (simp; done) | (simp [*]; done), dS⟩
 replace c7 := Bool.eq_false_iff.mpr c7
 subst c7
 replace H := iF H
 by_cases c8 : a0 < a1
 ·rw [if_pos c8] at H
  have c8b0 := decide_eq_true c8
  clear c8
  obtain rfl := Option.some.inj H
  go_enter Tryz.func120, Tryz.ntmps120
  go_wp2_with (first | ((with_reducible refine gate_callee (f := 145) rfl ?_); refine gL 8 Tryz.func145 #[.int .i64 a0] ?_; (with_reducible refine (cmp_isNaN_int.calls a0 false _ A3.out).mono ?_); rintro e w' ⟨rfl, ⟨nd, rfl⟩⟩; refine ⟨_, rfl, ?_⟩) | ((with_reducible refine gate_callee (f := 145) rfl ?_); refine gL 10 Tryz.func145 #[.int .i64 a1] ?_; (with_reducible refine (cmp_isNaN_int.calls a1 false _ A4.out).mono ?_); rintro e w' ⟨rfl, ⟨nd, rfl⟩⟩; refine ⟨_, rfl, ?_⟩))
  go_ret
  exact ⟨by first | rfl | (simp; done) | (simp [*]; done), dS⟩
 rw [if_neg c8] at H
 have c8b0 : decide (a0 < a1) = false := decide_eq_false c8
 clear c8
 by_cases c9 : a0 > a1
 ·rw [if_pos c9] at H
  have c9b0 : decide (a1 < a0) = true := decide_eq_true c9
  clear c9
  obtain rfl := Option.some.inj H
  go_enter Tryz.func120, Tryz.ntmps120
  go_wp2_with (first | ((with_reducible refine gate_callee (f := 145) rfl ?_); refine gL 8 Tryz.func145 #[.int .i64 a0] ?_; (with_reducible refine (cmp_isNaN_int.calls a0 false _ A3.out).mono ?_); rintro e w' ⟨rfl, ⟨nd, rfl⟩⟩; refine ⟨_, rfl, ?_⟩) | ((with_reducible refine gate_callee (f := 145) rfl ?_); refine gL 10 Tryz.func145 #[.int .i64 a1] ?_; (with_reducible refine (cmp_isNaN_int.calls a1 false _ A4.out).mono ?_); rintro e w' ⟨rfl, ⟨nd, rfl⟩⟩; refine ⟨_, rfl, ?_⟩))
  go_ret
  exact ⟨by first | rfl | (simp; done) | (simp [*]; done), dS⟩
 rw [if_neg c9] at H
 have c9b0 : decide (a1 < a0) = false := decide_eq_false c9
 clear c9
 obtain rfl := Option.some.inj H
 go_enter Tryz.func120, Tryz.ntmps120
 go_wp2_with (first | ((with_reducible refine gate_callee (f := 145) rfl ?_); refine gL 8 Tryz.func145 #[.int .i64 a0] ?_; (with_reducible refine (cmp_isNaN_int.calls a0 false _ A3.out).mono ?_); rintro e w' ⟨rfl, ⟨nd, rfl⟩⟩; refine ⟨_, rfl, ?_⟩) | ((with_reducible refine gate_callee (f := 145) rfl ?_); refine gL 10 Tryz.func145 #[.int .i64 a1] ?_; (with_reducible refine (cmp_isNaN_int.calls a1 false _ A4.out).mono ?_); rintro e w' ⟨rfl, ⟨nd, rfl⟩⟩; refine ⟨_, rfl, ?_⟩))
 go_ret
 exact ⟨by first | rfl | (simp; done) | (simp [*]; done), dS⟩
def slices_Compare_int_int.l0 : Nat → List Int → List Int → List Int → Int → Int → Option (Int)
 | 0, _, _, _, _, _ => none
 | k + 1, x0, x1, x9, x10, x11 => if x11 < x10 then (if 0 ≤ x11 then (if x11 < (x9.length : Int) then (if x11 ≥ (x1.length : Int) then (some 1) else (if x11 < (x1.length : Int) then ((cmp_Compare_int.f (rd x9 x11) (rd x1 x11)).bind fun t103 => (if t103 = 0 then (slices_Compare_int_int.l0 k x0 x1 x9 x10 (wrap64 (x11 + 1))) else (some t103))) else (none))) else (none)) else (none)) else (if (x0.length : Int) < (x1.length : Int) then (some (-1)) else (some 0))
def slices_Compare_int_int.f (k : Nat) (l0 : List Int) (l1 : List Int) : Option (Int) := slices_Compare_int_int.l0 k l0 l1 l0 (l0.length : Int) 0
theorem slices_Compare_int_int.calls (k : Nat) (A0 : Option Addr) (c0 : Nat) (l0 : List Int) (A1 : Option Addr) (c1 : Nat) (l1 : List Int) (r : Int) (w : World) (hr0 : Kd.C (Kd.int .i64) w A0 l0.length l0) (hc0 : l0.length ≤ c0) (hr1 : Kd.C (Kd.int .i64) w A1 l1.length l1) (hc1 : l1.length ≤ c1) (h : slices_Compare_int_int.f k l0 l1 = some r) :
  Calls Tryz.prog 97 #[.slice A0 l0.length c0, .slice A1 l1.length c1] w fun e w' => e = .returned (.int .i64 r) ∧ Drawn0 w w' := by
 have HR0 := Aside0.mk hr0
 have HC0 := Aside0.mk hc0
 clear hr0 hc0
 have HR1 := Aside0.mk hr1
 have HC1 := Aside0.mk hc1
 clear hr1 hc1
 have H := h
 unfold slices_Compare_int_int.f at H
 clear h
 have H' := Aside0.mk H
 clear H
 go_enter Tryz.func97, Tryz.ntmps97
 go_wp2
 go_loopg [11] k (fun kq v11 w' => ∃ (x11_1 : Int), v11 = .int .i64 x11_1 ∧ Aside0 (slices_Compare_int_int.l0 kq l0 l1 l0 (l0.length : Int) x11_1 = some r) ∧ Aside0 (kq ≤ k) ∧ Drawn0 w w')
 case atStart => exact ⟨(0), gR, H', ⟨Nat.le_refl _⟩, dS⟩
 case round =>
  clear H'
  try clear c1
  try clear p2
  obtain ⟨x11_1, rfl, HA, HK1, ⟨m1, rfl⟩⟩ := hrel
  cases gk with
  | zero => exact absurd HA.out (by simp [slices_Compare_int_int.l0])
  | succ k1 =>
   have H := HA.out
   clear HA
   simp only [slices_Compare_int_int.l0] at H
   by_cases c3 : x11_1 < (l0.length : Int)
   rotate_left
   ·rw [if_neg c3] at H
    have c3b0 : decide (x11_1 < (l0.length : Int)) = false := decide_eq_false c3
    clear c3
    by_cases c10 : (l0.length : Int) < (l1.length : Int)
    ·rw [if_pos c10] at H
     have c10b0 := decide_eq_true c10
     have c10b1 : decide (l0.length < l1.length) = true := decide_eq_true (Int.ofNat_lt.mp c10)
     clear c10
     obtain rfl := Option.some.inj H
     go_wp2
     go_ret
     exact ⟨by first | rfl | (simp; done) | (simp [*]; done), dS⟩
    rw [if_neg c10] at H
    have c10b0 : decide ((l0.length : Int) < (l1.length : Int)) = false := decide_eq_false c10
    have c10b1 : decide (l0.length < l1.length) = false := decide_eq_false (fun h => c10 (Int.ofNat_lt.mpr h))
    clear c10
    obtain rfl := Option.some.inj H
    go_wp2
    go_ret
    exact ⟨by first | rfl | (simp; done) | (simp [*]; done), dS⟩
   rw [if_pos c3] at H
   have c3b0 := decide_eq_true c3
   clear c3
   by_cases c4 : 0 ≤ x11_1
   rotate_left
   ·rw [if_neg c4] at H
    exact absurd H (by simp)
   rw [if_pos c4] at H
   have c4b0 := decide_eq_true c4
   clear c4
   by_cases c5 : x11_1 < (l0.length : Int)
   rotate_left
   ·rw [if_neg c5] at H
    exact absurd H (by simp)
   rw [if_pos c5] at H
   have c5b0 := decide_eq_true c5
   clear c5
   by_cases c6 : x11_1 ≥ (l1.length : Int)
   ·rw [if_pos c6] at H
    have c6b0 : decide ((l1.length : Int) ≤ x11_1) = true := decide_eq_true c6
    clear c6
    obtain rfl := Option.some.inj H
    have p101 : 0 ≤ (x11_1 : Int) := oD
    have q101 : x11_1 < (l0.length : Int) := oD
    obtain ⟨ad101, e101, hx101_0⟩ := Kd.at_int HR0.out x11_1 p101 q101
    cases e101
    replace p101 := eq_true p101
    replace q101 := eq_true q101
    go_wp2
    go_ret
    exact ⟨by first | rfl | (simp; done) | (simp [*]; done), dS⟩
   rw [if_neg c6] at H
   have c6b0 : decide ((l1.length : Int) ≤ x11_1) = false := decide_eq_false c6
   clear c6
   by_cases c7 : x11_1 < (l1.length : Int)
   rotate_left
   ·rw [if_neg c7] at H
    exact absurd H (by simp)
   rw [if_pos c7] at H
   have c7b0 := decide_eq_true c7
   clear c7
   replace H := oB H
   obtain ⟨t103, A80, H⟩ := H
   replace H : (if t103 = 0 then (slices_Compare_int_int.l0 k1 l0 l1 l0 (l0.length : Int) (wrap64 (x11_1 + 1))) else (some t103)) = some r := H
   have A8 := Aside0.mk A80
   clear A80
   by_cases c9 : t103 = 0
   rotate_left
   ·rw [if_neg c9] at H
    have c9b0 : (t103 == 0) = false := beq_eq_false_iff_ne.mpr c9
    have c9b1 : (t103 != 0) = true := bne_iff_ne.mpr c9
    obtain rfl := Option.some.inj H
    have p101 : 0 ≤ (x11_1 : Int) := oD
    have q101 : x11_1 < (l0.length : Int) := oD
    obtain ⟨ad101, e101, hx101_0⟩ := Kd.at_int HR0.out x11_1 p101 q101
    cases e101
    replace p101 := eq_true p101
    replace q101 := eq_true q101
    have p102 : 0 ≤ (x11_1 : Int) := oD
    have q102 : x11_1 < (l1.length : Int) := oD
    obtain ⟨ad102, e102, hx102_0⟩ := Kd.at_int HR1.out x11_1 p102 q102
    cases e102
    replace p102 := eq_true p102
    replace q102 := eq_true q102
    go_wp2_with (first | ((with_reducible refine gate_callee (f := 120) rfl ?_); refine gL 26 Tryz.func120 #[.int .i64 (rd l0 x11_1), .int .i64 (rd l1 x11_1)] ?_; (with_reducible refine (cmp_Compare_int.calls (rd l0 x11_1) (rd l1 x11_1) t103 _ A8.out).mono ?_); rintro e w' ⟨rfl, ⟨nd, rfl⟩⟩; refine ⟨_, rfl, ?_⟩))
    go_ret
    exact ⟨by first | rfl | (simp; done) | (simp [*]; done), dS⟩
   rw [if_pos c9] at H
   have c9b0 : (t103 == 0) = true := beq_iff_eq.mpr c9
   have c9b1 : (t103 != 0) = false := bne_eq_false_iff_eq.mpr c9
   clear c9
   have H' := Aside0.mk H
   clear H
   have p101 : 0 ≤ (x11_1 : Int) := oD
   have q101 : x11_1 < (l0.length : Int) := oD
   obtain ⟨ad101, e101, hx101_0⟩ := Kd.at_int HR0.out x11_1 p101 q101
   cases e101
   replace p101 := eq_true p101
   replace q101 := eq_true q101
   have p102 : 0 ≤ (x11_1 : Int) := oD
   have q102 : x11_1 < (l1.length : Int) := oD
   obtain ⟨ad102, e102, hx102_0⟩ := Kd.at_int HR1.out x11_1 p102 q102
   cases e102
   replace p102 := eq_true p102
   replace q102 := eq_true q102
   go_wp2_with (first | ((with_reducible refine gate_callee (f := 120) rfl ?_); refine gL 26 Tryz.func120 #[.int .i64 (rd l0 x11_1), .int .i64 (rd l1 x11_1)] ?_; (with_reducible refine (cmp_Compare_int.calls (rd l0 x11_1) (rd l1 x11_1) t103 _ A8.out).mono ?_); rintro e w' ⟨rfl, ⟨nd, rfl⟩⟩; refine ⟨_, rfl, ?_⟩))
   go_roundg k1
   case measure => have := HK1.out; omega
   case rel => exact ⟨(wrap64 (x11_1 + 1)), gR, H', ⟨by have := HK1.out; omega⟩, dS⟩
def impl_setOf.l0 : Nat → Int → List Int → Int → Option (List Int)
 | 0, _, _, _ => none
 | k + 1, x0, x3, x4 => if 0 ≤ x4 then (if (shr .i64 x0 x4) > 0 then (if (Go.bits .and .i64 (shr .i64 x0 x4) 1) = 1 then (if x3.length < 17592186044416 then (impl_setOf.l0 k x0 (x3 ++ [x4]) (wrap64 (x4 + 1))) else (none)) else (impl_setOf.l0 k x0 x3 (wrap64 (x4 + 1)))) else (some x3)) else (none)
def impl_setOf.f (k : Nat) (a0 : Int) : Option (List Int) := impl_setOf.l0 k a0 (([] : List Int)) 0
theorem impl_setOf.calls (k : Nat) (a0 : Int) (r : List Int) (w : World) (h : impl_setOf.f k a0 = some r) :
  Calls Tryz.prog 95 #[.int .i64 a0] w fun e w' => ∃ v0_ : Value, e = .returned (v0_) ∧ Kd.R (Kd.int .i64) 3 w' w.heap.size (fun _ => True) v0_ r ∧ Below w.heap.size w w' := by
 have HB := Aside0.mk (Below.refl w.heap.size w)
 have H := h
 unfold impl_setOf.f at H
 clear h
 obtain ⟨y101, hy101⟩ : ∃ y_ : List Int, y_ = (([] : List Int)) := ⟨_, rfl⟩
 replace H : (impl_setOf.l0 k a0 y101 0) = some r := by first | (rw [hy101]; with_reducible exact H) | (have H2_ := (Option.bind_some _ _).symm.trans H; rw [hy101]; with_reducible exact H2_) | (have H2_ := (Option.bind_some _ _).symm.trans H; with_reducible exact H2_) | with_reducible exact H | (rw [hy101]; exact H) | exact H
 have Ny101 := Aside0.mk hy101
 clear hy101
 have H' := Aside0.mk H
 clear H
 go_enter Tryz.func95, Tryz.ntmps95
 go_wp2_with (first | ((with_reducible refine gate_dst (N := 5) rfl ?_); refine Kd.R_lit (Kd.int .i64) _ 3 ?hg (N := 5) ?hd (xs := ([] : List Int)) (inner := []) (ok := fun _ => True) (okp := fun _ => True) ?hr ?hp (fun _ hk => hk) trivial (Below.refl _ _) (Nat.le_refl _) (by simp) ?_; (case hd => rfl); (case hg => rfl); (case hr => first | (go_simp; done) | (go_simp; rfl)); (case hp => exact (Reps.none _ _)); intro v102 w2 ho3 hb hg_ hnew_; clear hg_ hnew_; (first | rw [← Ny101.out] at ho3 | (simp only [Int.reduceToNat] at ho3; rw [← Ny101.out] at ho3)); have n0_ := Aside0.mk (Kd.R_lower ho3 (below_size (wB))); have n1_ := sQ hb; clear HB; have HO103 := n0_; have HB := n1_; clear n0_ n1_; clear hb ho3))
 go_loopg [3, 4] k (fun kq v3 v4 w' => ∃ (x3_1 : List Int) (x4_1 : Int), v4 = .int .i64 x4_1 ∧ Aside0 (impl_setOf.l0 kq a0 x3_1 x4_1 = some r) ∧ Aside0 (kq ≤ k) ∧ Aside0 (Kd.R (Kd.int .i64) 3 w' w.heap.size (fun _ => True) v3 x3_1) ∧ Aside0 (Below w.heap.size w w'))
 case atStart => exact ⟨(y101), (0), gR, H', ⟨Nat.le_refl _⟩, ⟨rQ HO103⟩, ⟨wB⟩⟩
 case round =>
  clear H'
  try clear p2
  obtain ⟨x3_1, x4_1, rfl, HA, HK1, HO_3, HB⟩ := hrel
  cases gk with
  | zero => exact absurd HA.out (by simp [impl_setOf.l0])
  | succ k1 =>
   have H := HA.out
   clear HA
   simp only [impl_setOf.l0] at H
   by_cases c4 : 0 ≤ x4_1
   rotate_left
   ·rw [if_neg c4] at H
    exact absurd H (by simp)
   rw [if_pos c4] at H
   have c4b0 := eq_true c4
   have c4b1 := decide_eq_true c4
   clear c4
   obtain ⟨ji5, hji5⟩ : ∃ j_ : Int, (shr .i64 a0 x4_1) = j_ := ⟨_, rfl⟩
   replace H : (if (ji5) > 0 then (if (Go.bits .and .i64 (ji5) 1) = 1 then (if x3_1.length < 17592186044416 then (impl_setOf.l0 k1 a0 (x3_1 ++ [x4_1]) (wrap64 (x4_1 + 1))) else (none)) else (impl_setOf.l0 k1 a0 x3_1 (wrap64 (x4_1 + 1)))) else (some x3_1)) = some r := by first | (rw [hji5] at H; exact H) | (simp only [hji5] at H ⊢; exact H)
   have hji5_ : (a0 / 2 ^ min x4_1.toNat 64) = ji5 := hji5
   have hji5z : x4_1 ≤ 64 → (a0 / 2 ^ x4_1.toNat) = ji5 := shr_small hji5
   by_cases c6 : (ji5) > 0
   rotate_left
   ·rw [if_neg c6] at H
    have c6b0 : decide (0 < (ji5)) = false := decide_eq_false c6
    clear c6
    obtain rfl := Option.some.inj H
    go_wp2
    go_ret
    exact ⟨_, by first | rfl | (simp <;> rfl) | (simp only [← hji5]; first | rfl | (simp <;> rfl)) | (simp [*] <;> rfl), by (first | exact rp HO_3.out | exact HO_3.out), wB⟩
   rw [if_pos c6] at H
   have c6b0 : decide (0 < (ji5)) = true := decide_eq_true c6
   clear c6
   have c7b0 := eq_true (oD : 0 ≤ x4_1)
   by_cases c9 : (Go.bits .and .i64 (ji5) 1) = 1
   rotate_left
   ·rw [if_neg c9] at H
    have c9b0 : ((Go.bits .and .i64 (ji5) 1) == 1) = false := beq_eq_false_iff_ne.mpr c9
    have c9b1 : ((Go.bits .and .i64 (ji5) 1) != 1) = true := bne_iff_ne.mpr c9
    have H' := Aside0.mk H
    clear H
    go_wp2
    go_roundg k1
    case measure => have := HK1.out; omega
    case rel => exact ⟨(x3_1), (wrap64 (x4_1 + 1)), gR, H', ⟨by have := HK1.out; omega⟩, ⟨rQ HO_3⟩, ⟨wB⟩⟩
   rw [if_pos c9] at H
   have c9b0 : ((Go.bits .and .i64 (ji5) 1) == 1) = true := beq_iff_eq.mpr c9
   have c9b1 : ((Go.bits .and .i64 (ji5) 1) != 1) = false := bne_eq_false_iff_eq.mpr c9
   clear c9
   by_cases c10 : x3_1.length < 17592186044416
   rotate_left
   ·rw [if_neg c10] at H
    exact absurd H (by simp)
   rw [if_pos c10] at H
   have LMc10 := Aside0.mk c10
   clear c10
   obtain ⟨y104, hy104⟩ : ∃ y_ : List Int, y_ = (x3_1 ++ [x4_1]) := ⟨_, rfl⟩
   replace H : (impl_setOf.l0 k1 a0 y104 (wrap64 (x4_1 + 1))) = some r := by first | (rw [hy104]; with_reducible exact H) | (have H2_ := (Option.bind_some _ _).symm.trans H; rw [hy104]; with_reducible exact H2_) | (have H2_ := (Option.bind_some _ _).symm.trans H; with_reducible exact H2_) | with_reducible exact H | (rw [hy104]; exact H) | exact H
   have Ny104 := Aside0.mk hy104
   clear hy104
   have H' := Aside0.mk H
   clear H
   go_wp2_with (first | ((with_reducible refine gate_builtin (b := .append) (xs := #[.tmp 17, .tmp 19]) rfl ?_); at_builtin; refine Kd.R_append (Kd.int .i64) (w0 := w) w.heap.size rfl (.tmp 17) (.tmp 19) 22 3 (.int .i64 0) 8 rfl Tryz.underlying22 info3 rfl (by decide) (by omega) u3 x3_1 x4_1 [.int .i64 x4_1] (fun _ => True) (fun _ => False) rfl rfl ?aP (fun _ hk => hk.elim) ?aF ?aO ?aB ?aS ?aL ?_; (case aP => exact rfl); (case aB => exact (wB)); (case aF => exact (fun _ _ => trivial)); (case aO => exact (rQ HO_3)); (case aS => exact (below_size (wB))); (case aL => have := LMc10.out; omega); intro v105 w11 ho hb hg hat; rw [← Ny104.out] at ho; have n0_ := Aside0.mk (hb); have n1_ := Aside0.mk (ho); clear HB; clear HO_3; have HB := n0_; have HO106 := n1_; clear n0_ n1_; clear ho hb hg hat))
   go_roundg k1
   case measure => have := HK1.out; omega
   case rel => exact ⟨(y104), (wrap64 (x4_1 + 1)), gR, H', ⟨by have := HK1.out; omega⟩, ⟨rQ HO106⟩, ⟨wB⟩⟩
open Go.Proofs.YtaambkdiokbdgacGreatDoorM in
theorem impl_votes_sets.cmp_v (a b : Int) : cmp_Compare_int.f a b = some (if a < b then -1 else if b < a then 1 else 0) := by
 have h : ∀ x : Int, cmp_isNaN_int.f x = some false := fun x => by simp [cmp_isNaN_int.f]
 simp only [cmp_Compare_int.f, h, Option.bind_some, Bool.false_eq_true, if_false]
 by_cases h1 : a < b
 ·rw [if_pos h1, if_pos h1]
 by_cases h2 : b < a
 ·rw [if_neg h1, if_pos h2, if_neg h1, if_pos h2]
 rw [if_neg h1, if_neg h2, if_neg h1, if_neg h2]
open Go.Proofs.YtaambkdiokbdgacGreatDoorM in
theorem impl_votes_sets.cmp_ev_l (a b : List Int) (ha : a.length ≤ 9223372036854775807) : ∀ (d i : Nat), i + d = a.length → i ≤ b.length → a.take i = b.take i → Ev (fun k => slices_Compare_int_int.l0 k a b a (a.length : Int) (i : Int)) (Go.Proofs.YtaambkdiokbdgacGreatDoorM.cmpL (a.drop i) (b.drop i)) := by
 intro d
 induction d with
 | zero =>
  intro i h hb _
  refine ev_step ?_
  simp only [slices_Compare_int_int.l0]
  rw [ev_neg (by omega), List.drop_of_length_le (by omega)]
  by_cases hc : (a.length : Int) < (b.length : Int)
  ·rw [ev_pos hc, ev_now, List.drop_eq_getElem_cons (by omega)]
   rfl
  rw [ev_neg hc, ev_now, List.drop_of_length_le (by omega)]
  rfl
 | succ d ih =>
  intro i h hb ht
  refine ev_step ?_
  simp only [slices_Compare_int_int.l0]
  have hi : i < a.length := by omega
  rw [ev_pos (by omega), ev_pos (by omega), ev_pos (by omega)]
  by_cases hc : (i : Int) ≥ (b.length : Int)
  ·rw [ev_pos hc, ev_now, List.drop_eq_getElem_cons hi, List.drop_of_length_le (by omega : b.length ≤ i)]
   rfl
  have hib : i < b.length := by omega
  rw [ev_neg hc, ev_pos (by omega), rd_lt a i hi, rd_lt b i hib, ev_bind (ev_of (impl_votes_sets.cmp_v _ _)), w64i (n := a.length) (by omega) (by omega) ha, List.drop_eq_getElem_cons hi, List.drop_eq_getElem_cons hib]
  simp only [Go.Proofs.YtaambkdiokbdgacGreatDoorM.cmpL]
  by_cases h1 : a[i] < b[i]
  ·rw [if_pos h1, ev_neg (by decide), ev_now, if_pos h1]
  by_cases h2 : b[i] < a[i]
  ·rw [if_neg h1, if_pos h2, ev_neg (by decide), ev_now, if_neg h1, if_pos h2]
  rw [if_neg h1, if_neg h2, ev_pos rfl, if_neg h1, if_neg h2]
  refine ih (i + 1) (by omega) (by omega) ?_
  rw [List.take_succ_eq_append_getElem hi, List.take_succ_eq_append_getElem hib, ht, show a[i] = b[i] by omega]
open Go.Proofs.YtaambkdiokbdgacGreatDoorM in
theorem impl_votes_sets.cmp_ev (a b : List Int) (ha : a.length ≤ 9223372036854775807) : Ev (fun k => slices_Compare_int_int.f k a b) (Go.Proofs.YtaambkdiokbdgacGreatDoorM.cmpL a b) := impl_votes_sets.cmp_ev_l a b ha a.length 0 (by omega) (by omega) (by simp)
def impl_votes_sets.l0 : Nat → (Int → Option Bool) → List Bool → List (List Int) → Int → Option (List (List Int))
 | 0, _, _, _, _ => none
 | k + 1, p, ws, out, x => if x < (ws.length : Int) then ((p x).bind fun b => if b = true then ((impl_setOf.f k x).bind fun s => if out.length < 5000000000000 then impl_votes_sets.l0 k p ws (out ++ [s]) (wrap64 (x + 1)) else none) else impl_votes_sets.l0 k p ws out (wrap64 (x + 1))) else some out
def impl_votes_sets.g (k : Nat) (ws : List Bool) (p : Int → Option Bool) : Option (List (List Int)) := (impl_votes_sets.l0 k p ws [] 0).bind fun out => if out.length < 5000000000000 then some (Go.Proofs.YtaambkdiokbdgacGreatDoorS.sortL out) else none
theorem impl_votes_sets.hof (k : Nat) (a0 : Int) (A1 : Option Addr) (c1 : Nat) (ws : List Bool) (p : Int → Option Bool) (g : Nat) (fb lb : Array Value) (r : List (List Int)) (w : World) (hr1 : Kd.C Kd.bool w A1 ws.length ws) (eg : ∀ args w, (callFunc g args).run Tryz.prog w = .ok (.enter g args) w)
  (hp : ∀ (W : World) (x : Int) (b : Bool), Below w.heap.size w W → 0 ≤ x → x < (ws.length : Int) → p x = some b → Calls Tryz.prog g (fb ++ #[.int .i64 x] ++ lb) W fun e W' => e = .returned (.bool b) ∧ Below W.heap.size W W') (h : impl_votes_sets.g k ws p = some r) :
  Calls Tryz.prog 80 #[.agg #[.int .i64 a0, .slice A1 ws.length c1], .func (.func g) fb lb] w fun e w' => ∃ v0_ : Value, e = .returned (v0_) ∧ Kd.S (Kd.slice 3 (Kd.int .i64)) 22 w' w.heap.size (fun _ => True) v0_ r ∧ Below w.heap.size w w' := by
 have egC : ∀ args w, (callFunc 97 args).run Tryz.prog w = .ok (.enter 97 args) w := enters_of Tryz.func97 (by kernel_rfl) rfl
 have huV := Tryz.underlying58
 obtain ⟨OUT, hout, hr⟩ := oB h
 by_cases hlo : OUT.length < 5000000000000
 case neg => rw [if_neg hlo] at hr; cases hr
 rw [if_pos hlo] at hr
 obtain rfl := Option.some.inj hr
 have HLO := Aside0.mk hlo
 have HN := Aside0.mk (Kd.C_max hr1)
 have HR := Aside0.mk hr1
 have HP := Aside0.mk hp
 have H' := Aside0.mk hout
 have HB := Aside0.mk (Below.refl w.heap.size w)
 clear hr1 h hout hr hlo hp
 go_enter Tryz.func80, Tryz.ntmps80
 go_wp2_with (first | ((with_reducible refine gate_dst (N := 2) rfl ?_); refine box_event ?hg (N := 2) ?hd (cs := #[.int .i64 a0, .slice A1 ws.length c1]) (t := 58) ?hr ?_; (case hd => rfl); (case hg => rfl); (case hr => first | (go_simp; done) | (go_simp; rfl)); intro gb hg w7 hbox hb; have n0_ := sQ hb; have n1_ := Aside0.mk (hbox); clear HB; have HB := n0_; have BK := n1_; clear n0_ n1_; clear hb hbox hg) | ((with_reducible refine gate_dst (N := 7) rfl ?_); refine Kd.S_lit (Kd.slice 3 (Kd.int .i64)) _ 22 ?hg (N := 7) ?hd (xs := ([] : List (List Int))) (inner := []) (ok := fun _ => True) (okp := fun _ => True) ?hr ?hp (fun _ hk => hk) trivial (Below.refl _ _) (Nat.le_refl _) (by simp) ?_; (case hd => rfl); (case hg => rfl); (case hr => first | (go_simp; done) | (go_simp; rfl)); (case hp => exact (Reps.none _ _)); intro v102 w8 ho hb hg_ hnew_; clear hg_ hnew_; have n0_ := Aside0.mk (Kd.S_lower ho (below_size (wB))); have n1_ := Aside0.mk (blk_below (by (first | exact bp BK.out | exact BK.out)) hb); have n2_ := sQ hb; clear HB BK; have HO := n0_; have BK := n1_; have HB := n2_; clear n0_ n1_ n2_; clear hb ho; obtain ⟨Ao9, co9, eo9⟩ := Kd.S_slice HO.out; subst eo9; have hcz1 := cZ BK 1))
 go_loopg [5, 11] k (fun kq v5 v11 w' => ∃ (out : List (List Int)) (x : Int), v11 = .int .i64 x ∧ Aside0 (impl_votes_sets.l0 kq p ws out x = some OUT) ∧ Aside0 (kq ≤ k) ∧ Aside0 (0 ≤ x) ∧ Aside0 (Kd.S (Kd.slice 3 (Kd.int .i64)) 22 w' w.heap.size (fun _ => True) v5 out) ∧ Aside0 (w'.heap[gb]? = some (.cells #[.int .i64 a0, .slice A1 ws.length c1] 58 (0, 0))) ∧ Aside0 (Below w.heap.size w w'))
 case atStart => exact ⟨[], 0, gR, H', ⟨Nat.le_refl _⟩, ⟨Int.le_refl _⟩, ⟨by (with_reducible repeat (first | apply Kd.S_alloc | apply Kd.S_drewN | apply Kd.S_drew)); exact HO.out⟩, ⟨by (first | exact bp BK.out | exact BK.out)⟩, ⟨(wB)⟩⟩
 case round =>
  clear H' HB BK HO
  try clear hcz1
  obtain ⟨out, x, rfl, HA, HK1, HX0, HO, BK, HB⟩ := hrel
  cases gk with
  | zero => exact absurd HA.out (by simp [impl_votes_sets.l0])
  | succ k1 =>
   have H := HA.out
   clear HA
   simp only [impl_votes_sets.l0] at H
   by_cases c1 : x < (ws.length : Int)
   rotate_left
   ·rw [if_neg c1] at H
    obtain rfl := Option.some.inj H
    have c1b0 : decide (x < (ws.length : Int)) = false := decide_eq_false c1
    clear c1 H
    obtain ⟨Ao, co, eo⟩ := Kd.S_slice HO.out
    subst eo
    go_wp2_with fail
    have hs := Go.Proofs.YtaambkdiokbdgacGreatDoorS.sort_rows Go.Proofs.YtaambkdiokbdgacGreatDoorL.sortLL (Kd.slice 3 (Kd.int .i64)) rfl Go.Proofs.YtaambkdiokbdgacGreatDoorM.cmpL Go.Proofs.YtaambkdiokbdgacGreatDoorS.swoL 97 egC HO.out (by have := HLO.out; omega) (fun W a b u v _ _ ha hb => by
     obtain ⟨A1_, c1_, e1_, hl1, hC1⟩ := ha
     obtain ⟨A2_, c2_, e2_, hl2, hC2⟩ := hb
     obtain rfl := (List.cons.inj e1_).1
     obtain rfl := (List.cons.inj e2_).1
     obtain ⟨K, hK⟩ := impl_votes_sets.cmp_ev a b (Kd.C_max hC1)
     refine (slices_Compare_int_int.calls K A1_ c1_ a A2_ c2_ b _ W hC1 hl1 hC2 hl2 (hK K (Nat.le_refl _))).mono ?_
     rintro e W' ⟨rfl, ⟨q, rfl⟩⟩
     exact ⟨rfl, q, rfl⟩)
    change Calls Tryz.prog 96 _ _ _ at hs
    refine hs.mono ?_
    rintro e w' ⟨rfl, ys, hperm, hsd, hS, hg⟩
    obtain rfl := Go.Proofs.YtaambkdiokbdgacGreatDoorS.sortL_of hperm hsd
    have HS := Aside0.mk hS
    have HBN := Aside0.mk (HB.out.grown hg HB.out.size (fun k_ hk_ => Kd.S_base HO.out k_ hk_))
    clear hS hg hs HO HB
    go_wp2
    go_ret
    exact ⟨_, rfl, by (with_reducible repeat (first | apply Kd.S_alloc | apply Kd.S_drewN | apply Kd.S_drew)); exact HS.out, HBN.out⟩
   rw [if_pos c1] at H
   obtain ⟨b, A5, H⟩ := oB H
   have hcall := HP.out wr x b HB.out HX0.out c1 A5
   have HXW : Aside0 (0 ≤ wrap64 (x + 1)) := ⟨by have h1_ := HX0.out; have h2_ := HN.out; unfold wrap64; omega⟩
   have c1b0 := decide_eq_true c1
   clear c1
   cases b with
   | true =>
    rw [if_pos rfl] at H
    obtain ⟨s, A6, H⟩ := oB H
    have A6 := Aside0.mk A6
    by_cases c3 : out.length < 5000000000000
    rotate_left
    ·rw [if_neg c3] at H
     exact absurd H (by simp)
    rw [if_pos c3] at H
    obtain ⟨y, hy⟩ : ∃ y_ : List (List Int), y_ = (out ++ [s]) := ⟨_, rfl⟩
    rw [← hy] at H
    have NY := Aside0.mk hy
    have LM := Aside0.mk c3
    have H' := Aside0.mk H
    clear hy c3 H
    go_wp2_with fail
    refine hcall.mono ?_
    rintro e w' ⟨rfl, hb⟩
    have n0_ := tB HO hb
    have n1_ := bB BK hb
    have n2_ := Aside0.mk (HB.out.trans (hb.mono HB.out.size))
    clear HO BK HB hb hcall
    have HO := n0_
    have BK := n1_
    have HB := n2_
    clear n0_ n1_ n2_
    go_wp2_with (first | ((with_reducible refine gate_callee (f := 95) rfl ?_); refine gL 19 Tryz.func95 #[.int .i64 x] ?_; (with_reducible refine (impl_setOf.calls k1 x s _ A6.out).mono ?_); rintro e w22 ⟨v111, rfl, ho0, hb⟩; refine ⟨_, rfl, ?_⟩; have n0_ := Aside0.mk (Kd.S_elder' (by (with_reducible repeat (first | apply Kd.S_alloc | apply Kd.S_drewN | apply Kd.S_drew)); exact HO.out) (Kd.R_base ho0) hb); have n1_ := Aside0.mk (Kd.R_lower ho0 (below_size (wB))); have n2_ := sQ hb; have n3_ := Aside0.mk (blk_below (by (first | exact bp BK.out | exact BK.out)) hb); clear HO HB BK; have HO := n0_; have HOs := n1_; have HB := n2_; have BK := n3_; clear n0_ n1_ n2_ n3_ hb ho0; obtain ⟨Ao24, co24, eo24⟩ := Kd.R_slice HOs.out; subst eo24) | ((with_reducible refine gate_builtin (b := .append) (xs := #[.tmp 17, .tmp 20]) rfl ?_); at_builtin; refine Kd.S_append (Kd.slice 3 (Kd.int .i64)) (w0 := w) w.heap.size rfl (.tmp 17) (.tmp 20) 38 22 (.slice none 0 0) 24 rfl Tryz.underlying38 info22 rfl (by decide) (by omega) u5 out s [.slice Ao24 s.length co24] (fun _ => True) (fun k_ => some k_ = (.slice Ao24 s.length co24 : Value).ownBlock) rfl rfl ?aP (fun k_ hk_ => (Kd.R_mono (ok' := fun k_ => True ∧ nb u5 k_) (Kd.R_apart' HOs.out (Kd.S_typed HO.out) (by decide)) (fun k_ hk => ⟨trivial, hk.2⟩)).1 k_ hk_.symm) ?aF ?aO ?aB ?aS ?aL ?_; (case aP => exact Kd.M_row (Kd.R_mono (Kd.R_tight rfl (Kd.R_mono (ok' := fun k_ => True ∧ nb u5 k_) (Kd.R_apart' HOs.out (Kd.S_typed HO.out) (by decide)) (fun k_ hk => ⟨trivial, hk.2⟩))) (fun _ h_ => h_))); (case aB => exact (wB)); (case aF => exact (fun _ _ => trivial)); (case aO => exact (by (with_reducible repeat (first | apply Kd.S_alloc | apply Kd.S_drewN | apply Kd.S_drew)); exact Kd.S_mono HO.out (fun k_ hk => ⟨trivial, fun e_ => hk.2 e_⟩))); (case aS => exact (below_size (wB))); (case aL => have := LM.out; omega); intro v114 w23 ho hb hg hat; rw [← NY.out] at ho; have n0_ := Aside0.mk (blk_grown (by (first | exact bp BK.out | exact BK.out)) hg (Kd.S_ne HO.out BK.out (by decide))); have n1_ := Aside0.mk hb; have n2_ := Aside0.mk ho; clear BK HB HO HOs; have BK := n0_; have HB := n1_; have HO := n2_; clear n0_ n1_ n2_ ho hb hg hat))
    go_roundg k1
    case measure => have := HK1.out; omega
    case rel => exact ⟨y, (wrap64 (x + 1)), gR, H', ⟨by have := HK1.out; omega⟩, HXW, ⟨by (with_reducible repeat (first | apply Kd.S_alloc | apply Kd.S_drewN | apply Kd.S_drew)); exact HO.out⟩, ⟨by (first | exact bp BK.out | exact BK.out)⟩, ⟨(wB)⟩⟩
   | false =>
    rw [if_neg (by decide)] at H
    have H' := Aside0.mk H
    clear H
    go_wp2_with fail
    refine hcall.mono ?_
    rintro e w' ⟨rfl, hb⟩
    have n0_ := tB HO hb
    have n1_ := bB BK hb
    have n2_ := Aside0.mk (HB.out.trans (hb.mono HB.out.size))
    clear HO BK HB hb hcall
    have HO := n0_
    have BK := n1_
    have HB := n2_
    clear n0_ n1_ n2_
    go_wp2
    go_roundg k1
    case measure => have := HK1.out; omega
    case rel => exact ⟨out, (wrap64 (x + 1)), gR, H', ⟨by have := HK1.out; omega⟩, HXW, ⟨by (with_reducible repeat (first | apply Kd.S_alloc | apply Kd.S_drewN | apply Kd.S_drew)); exact HO.out⟩, ⟨by (first | exact bp BK.out | exact BK.out)⟩, ⟨(wB)⟩⟩
def impl_votes_least.f (k : Nat) (a0_0 : Int) (l0_1 : List Bool) : Option (List (List Int)) := impl_votes_sets.g k l0_1 (fun x => impl_votes_isLeast.f k a0_0 l0_1 x)
theorem impl_votes_least.calls (k : Nat) (a0_0 : Int) (A0_1 : Option Addr) (c0_1 : Nat) (l0_1 : List Bool) (r : List (List Int)) (w : World) (hr0_1 : Kd.C Kd.bool w A0_1 l0_1.length l0_1) (hc0_1 : l0_1.length ≤ c0_1) (h : impl_votes_least.f k a0_0 l0_1 = some r) :
  Calls Tryz.prog 51 #[.agg #[.int .i64 a0_0, .slice A0_1 l0_1.length c0_1]] w fun e w' => ∃ v0_ : Value, e = .returned (v0_) ∧ Kd.S (Kd.slice 3 (Kd.int .i64)) 22 w' w.heap.size (fun _ => True) v0_ r ∧ Below w.heap.size w w' := by
 have eg : ∀ args w, (callFunc 81 args).run Tryz.prog w = .ok (.enter 81 args) w := enters_of Tryz.func81 (by kernel_rfl) rfl
 have hmf : ∀ (fn : Fn) (first cap : Array Value) (w : World), (Instr.makeFunc fn first cap).run Tryz.prog w = .ok (.func fn first cap) w := fun _ _ _ _ => rfl
 have huV := Tryz.underlying58
 have HR := Aside0.mk hr0_1
 have HC := Aside0.mk hc0_1
 have H := Aside0.mk h
 clear hr0_1 hc0_1 h
 go_enter Tryz.func51, Tryz.ntmps51
 go_wp2_with fail
 have hB1 : Below w.heap.size w (w.alloc (.cells #[.int .i64 a0_0, .slice A0_1 l0_1.length c0_1] 58)) := (Below.refl _ _).alloc (Nat.le_refl _) _
 refine (impl_votes_sets.hof k a0_0 A0_1 c0_1 l0_1 (fun x => impl_votes_isLeast.f k a0_0 l0_1 x) 81 #[.agg #[.int .i64 a0_0, .slice A0_1 l0_1.length c0_1]] #[] r _ (Kd.C_below HR.out hB1) eg ?_ H.out).mono ?_
 ·intro W x b hb _ _ hx
  exact impl_votes_isLeast.calls k a0_0 A0_1 c0_1 l0_1 x b W (Kd.C_below HR.out (hB1.trans (hb.mono hB1.size))) HC.out hx
 rintro e w' ⟨v1, rfl, hS, hb⟩
 have HS := Aside0.mk (Kd.S_lower hS hB1.size)
 have HBN := Aside0.mk (hB1.trans (hb.mono hB1.size))
 clear hS hb hB1
 go_wp2
 go_ret
 exact ⟨_, rfl, HS.out, HBN.out⟩
def impl_LeastWinning.f (k : Nat) (a0_0 : Int) (l0_1 : List Int) : Option ((List (List Int)) × Bool) := (impl_IsCommittee.f k a0_0 l0_1).bind fun t102 => (if t102 = true then ((impl_Committee_votes.f k a0_0 l0_1).bind fun bt103 => ((impl_votes_least.f k bt103.1 bt103.2).bind fun t107 => (some (t107, true)))) else (some (([] : List (List Int)), false)))
theorem impl_LeastWinning.calls (k : Nat) (a0_0 : Int) (A0_1 : Option Addr) (c0_1 : Nat) (l0_1 : List Int) (r1 : List (List Int)) (r2 : Bool) (w : World) (hr0_1 : Kd.C (Kd.int .i64) w A0_1 l0_1.length l0_1) (hc0_1 : l0_1.length ≤ c0_1) (h : impl_LeastWinning.f k a0_0 l0_1 = some (r1, r2)) :
  Calls Tryz.prog 19 #[.agg #[.int .i64 a0_0, .slice A0_1 l0_1.length c0_1]] w fun e w' => ∃ v0_ : Value, e = .returned (.tuple #[v0_, .bool r2]) ∧ Kd.S (Kd.slice 3 (Kd.int .i64)) 22 w' w.heap.size (fun _ => True) v0_ r1 ∧ Below w.heap.size w w' := by
 have hu24 := Tryz.underlying24
 have HR0_1 := Aside0.mk hr0_1
 have HC0_1 := Aside0.mk hc0_1
 clear hr0_1 hc0_1
 have HB := Aside0.mk (Below.refl w.heap.size w)
 have H := h
 unfold impl_LeastWinning.f at H
 clear h
 replace H := oB H
 obtain ⟨t102, A20, H⟩ := H
 replace H : (if t102 = true then ((impl_Committee_votes.f k a0_0 l0_1).bind fun bt103 => ((impl_votes_least.f k bt103.1 bt103.2).bind fun t107 => (some (t107, true)))) else (some (([] : List (List Int)), false))) = some (r1, r2) := H
 have A2 := Aside0.mk A20
 clear A20
 by_cases c3 : t102 = true
 rotate_left
 ·replace c3 := Bool.eq_false_iff.mpr c3
  subst c3
  replace H := iF H
  simp only [Option.some.injEq, Prod.mk.injEq] at H
  obtain ⟨rfl, rfl⟩ := H
  go_enter Tryz.func19, Tryz.ntmps19
  go_wp2_with (first | ((with_reducible refine gate_dst (N := 1) rfl ?_); refine box_event ?hg (N := 1) ?hd (cs := #[.int .i64 a0_0, .slice A0_1 l0_1.length c0_1]) (t := 24) ?hr ?_; (case hd => rfl); (case hg => rfl); (case hr => first | (go_simp; done) | (go_simp; rfl)); intro gb101 hg w13 hbox hb; have n0_ := sQ hb; have n1_ := Aside0.mk (hbox); have n2_ := Aside0.mk ((by rw [hg]; exact (below_size (wB)) : w.heap.size ≤ gb101)); have n3_ := Aside0.mk ((by rw [hg]; exact (below_size (wB)) : w.heap.size ≤ gb101)); clear HB; have HB := n0_; have BK101 := n1_; have GW101 := n2_; have GE101 := n3_; clear n0_ n1_ n2_ n3_; clear hb hbox hg; obtain ⟨hcz14_0, hcz14_1, hfz14_0, hfz14_1⟩ := zZ BK101) | ((with_reducible refine gate_callee (f := 17) rfl ?_); refine gL 5 Tryz.func17 #[.agg #[.int .i64 a0_0, .slice A0_1 l0_1.length c0_1]] ?_; (with_reducible refine (impl_IsCommittee.calls k a0_0 _ _ l0_1 false _ ?side1 ?side2 A2.out).mono ?_); (case side1 => have hx_ := (Kd.C_below HR0_1.out HB.out); exact cC); (case side2 => exact HC0_1.out); rintro e w15 ⟨rfl, hb⟩; refine ⟨_, rfl, ?_⟩; have n0_ := bP BK101 hb; have n1_ := sQ hb; clear BK101; clear HB; have BK101 := n0_; have HB := n1_; clear n0_ n1_; (try clear hb); (try clear hb2); (try clear hk); (try clear hi)))
  go_ret2
  exact ⟨_, fR, by first | exact Kd.S_nil _ _ _ _ _ | exact Kd.N_nil _ _ _ _ _ | exact Kd.V_nil _ _ _ _ _ | exact Kd.Q_nil _ _ _ _ _ | exact Kd.R_nil _ _ _ _ _, wB⟩
 subst c3
 replace H := iT H
 replace H := oB H
 obtain ⟨⟨t103, t104⟩, A40, H⟩ := H
 replace H : ((impl_votes_least.f k t103 t104).bind fun t107 => (some (t107, true))) = some (r1, r2) := H
 have A4 := Aside0.mk A40
 clear A40
 replace H := oB H
 obtain ⟨t107, A50, H⟩ := H
 replace H : (some (t107, true)) = some (r1, r2) := H
 have A5 := Aside0.mk A50
 clear A50
 simp only [Option.some.injEq, Prod.mk.injEq] at H
 obtain ⟨rfl, rfl⟩ := H
 go_enter Tryz.func19, Tryz.ntmps19
 go_wp2_with (first | ((with_reducible refine gate_dst (N := 1) rfl ?_); refine box_event ?hg (N := 1) ?hd (cs := #[.int .i64 a0_0, .slice A0_1 l0_1.length c0_1]) (t := 24) ?hr ?_; (case hd => rfl); (case hg => rfl); (case hr => first | (go_simp; done) | (go_simp; rfl)); intro gb101 hg w6 hbox hb; have n0_ := sQ hb; have n1_ := Aside0.mk (hbox); have n2_ := Aside0.mk ((by rw [hg]; exact (below_size (wB)) : w.heap.size ≤ gb101)); have n3_ := Aside0.mk ((by rw [hg]; exact (below_size (wB)) : w.heap.size ≤ gb101)); clear HB; have HB := n0_; have BK101 := n1_; have GW101 := n2_; have GE101 := n3_; clear n0_ n1_ n2_ n3_; clear hb hbox hg; obtain ⟨hcz7_0, hcz7_1, hfz7_0, hfz7_1⟩ := zZ BK101) | ((with_reducible refine gate_callee (f := 17) rfl ?_); refine gL 5 Tryz.func17 #[.agg #[.int .i64 a0_0, .slice A0_1 l0_1.length c0_1]] ?_; (with_reducible refine (impl_IsCommittee.calls k a0_0 _ _ l0_1 true _ ?side1 ?side2 A2.out).mono ?_); (case side1 => have hx_ := (Kd.C_below HR0_1.out HB.out); exact cC); (case side2 => exact HC0_1.out); rintro e w8 ⟨rfl, hb⟩; refine ⟨_, rfl, ?_⟩; have n0_ := bP BK101 hb; have n1_ := sQ hb; clear BK101; clear HB; have BK101 := n0_; have HB := n1_; clear n0_ n1_; (try clear hb); (try clear hb2); (try clear hk); (try clear hi); obtain ⟨hcz9_0, hcz9_1, hfz9_0, hfz9_1⟩ := zZ BK101) | ((with_reducible refine gate_callee (f := 31) rfl ?_); refine gL 8 Tryz.func31 #[.agg #[.int .i64 a0_0, .slice A0_1 l0_1.length c0_1]] ?_; (with_reducible refine (impl_Committee_votes.calls k a0_0 _ _ l0_1 t103 t104 _ ?side1 ?side2 A4.out).mono ?_); (case side1 => have hx_ := (Kd.C_below HR0_1.out HB.out); exact cC); (case side2 => exact HC0_1.out); rintro e w10 ⟨v105, rfl, ho0, hb⟩; refine ⟨_, rfl, ?_⟩; have n0_ := Aside0.mk (Kd.R_lower ho0 (below_size (wB))); have n1_ := bP BK101 hb; have n2_ := sQ hb; clear BK101; clear HB; have HO106 := n0_; have BK101 := n1_; have HB := n2_; clear n0_ n1_ n2_; (try clear hb); (try clear hb2); (try clear hk); (try clear hi); (try clear ho0); obtain ⟨Ao11, co11, eo11⟩ := Kd.R_slice HO106.out; subst eo11) | ((with_reducible refine gate_callee (f := 51) rfl ?_); refine gL 9 Tryz.func51 #[.agg #[.int .i64 t103, .slice Ao11 t104.length co11]] ?_; (with_reducible refine (impl_votes_least.calls k t103 _ _ t104 t107 _ ?side1 ?side2 A5.out).mono ?_); (case side1 => have hx_ := (Kd.R_reads' HO106.out).2.2; exact cC); (case side2 => exact (Kd.R_reads' HO106.out).2.1); rintro e w12 ⟨v108, rfl, ho0, hb⟩; refine ⟨_, rfl, ?_⟩; have n0_ := rP HO106 hb; have n1_ := Aside0.mk (Kd.S_lower ho0 (below_size (wB))); have n2_ := bP BK101 hb; have n3_ := sQ hb; clear HO106; clear BK101; clear HB; have HO106 := n0_; have HO109 := n1_; have BK101 := n2_; have HB := n3_; clear n0_ n1_ n2_ n3_; (try clear hb); (try clear hb2); (try clear hk); (try clear hi); (try clear ho0)))
 go_ret2
 exact ⟨_, fR, by (with_reducible repeat (first | apply Kd.S_alloc | apply Kd.S_drewN | apply Kd.S_drew)); exact HO109.out, wB⟩
def laws_mSets.l0 : Nat → List (List Int) → List (List Int) → Int → Int → Option (Bool)
 | 0, _, _, _, _ => none
 | k + 1, x0, x1, x12, x13 => if x13 < x12 then (if 0 ≤ x13 then (if x13 < (x0.length : Int) then (if x13 < (x1.length : Int) then ((laws_mSame.f k (rd_L2 x0 x13) (rd_L2 x1 x13)).bind fun t103 => (if t103 = true then (laws_mSets.l0 k x0 x1 x12 (wrap64 (x13 + 1))) else (some false))) else (none)) else (none)) else (none)) else (some true)
def laws_mSets.f (k : Nat) (l0 : List (List Int)) (l1 : List (List Int)) : Option (Bool) := if (l0.length : Int) = (l1.length : Int) then (laws_mSets.l0 k l0 l1 (l0.length : Int) 0) else (some false)
theorem laws_mSets.calls (k : Nat) (A0 : Option Addr) (c0 : Nat) (l0 : List (List Int)) (A1 : Option Addr) (c1 : Nat) (l1 : List (List Int)) (r : Bool) (w : World) (hr0 : Kd.C (Kd.slice 3 (Kd.int .i64)) w A0 l0.length l0) (hc0 : l0.length ≤ c0) (hr1 : Kd.C (Kd.slice 3 (Kd.int .i64)) w A1 l1.length l1) (hc1 : l1.length ≤ c1) (h : laws_mSets.f k l0 l1 = some r) :
  Calls Tryz.prog 20 #[.slice A0 l0.length c0, .slice A1 l1.length c1] w fun e w' => e = .returned (.bool r) ∧ Drawn0 w w' := by
 have HR0 := Aside0.mk hr0
 have HC0 := Aside0.mk hc0
 clear hr0 hc0
 have HR1 := Aside0.mk hr1
 have HC1 := Aside0.mk hc1
 clear hr1 hc1
 have H := h
 unfold laws_mSets.f at H
 clear h
 by_cases c3 : (l0.length : Int) = (l1.length : Int)
 rotate_left
 ·rw [if_neg c3] at H
  have c3b0 : ((l0.length : Int) == (l1.length : Int)) = false := beq_eq_false_iff_ne.mpr c3
  have c3b1 : ((l0.length : Int) != (l1.length : Int)) = true := bne_iff_ne.mpr c3
  have c3b2 : (l0.length == l1.length) = false := by first | simpa using c3 | (simp at c3 ⊢; omega)
  obtain rfl := Option.some.inj H
  go_enter Tryz.func20, Tryz.ntmps20
  go_wp2
  repeat (go_quiet (fail); try go_wp2)
  go_ret
  exact ⟨by first | rfl | (simp; done) | (simp [*]; done), dS⟩
 rw [if_pos c3] at H
 have c3b0 : ((l0.length : Int) == (l1.length : Int)) = true := beq_iff_eq.mpr c3
 have c3b1 : ((l0.length : Int) != (l1.length : Int)) = false := bne_eq_false_iff_eq.mpr c3
 have c3b2 : (l0.length == l1.length) = true := by first | simpa using c3 | (simp at c3 ⊢; omega)
 clear c3
 have H' := Aside0.mk H
 clear H
 go_enter Tryz.func20, Tryz.ntmps20
 go_wp2
 repeat (go_quiet (fail); try go_wp2)
 go_loopg [13] k (fun kq v13 w' => ∃ (x13_1 : Int), v13 = .int .i64 x13_1 ∧ Aside0 (laws_mSets.l0 kq l0 l1 (l0.length : Int) x13_1 = some r) ∧ Aside0 (kq ≤ k) ∧ Drawn0 w w')
 case atStart => exact ⟨(0), gR, H', ⟨Nat.le_refl _⟩, dS⟩
 case round =>
  clear H'
  try clear c1
  try clear c2
  try clear p2
  try clear c3
  try clear c3b0
  try clear c3b1
  try clear c3b2
  obtain ⟨x13_1, rfl, HA, HK1, ⟨m1, rfl⟩⟩ := hrel
  cases gk with
  | zero => exact absurd HA.out (by simp [laws_mSets.l0])
  | succ k1 =>
   have H := HA.out
   clear HA
   simp only [laws_mSets.l0] at H
   by_cases c4 : x13_1 < (l0.length : Int)
   rotate_left
   ·rw [if_neg c4] at H
    have c4b0 : decide (x13_1 < (l0.length : Int)) = false := decide_eq_false c4
    clear c4
    obtain rfl := Option.some.inj H
    go_wp2
    repeat (go_quiet (fail); try go_wp2)
    go_ret
    exact ⟨by first | rfl | (simp; done) | (simp [*]; done), dS⟩
   rw [if_pos c4] at H
   have c4b0 := decide_eq_true c4
   clear c4
   by_cases c5 : 0 ≤ x13_1
   rotate_left
   ·rw [if_neg c5] at H
    exact absurd H (by simp)
   rw [if_pos c5] at H
   have c5b0 := decide_eq_true c5
   clear c5
   by_cases c6 : x13_1 < (l0.length : Int)
   rotate_left
   ·rw [if_neg c6] at H
    exact absurd H (by simp)
   rw [if_pos c6] at H
   have c6b0 := decide_eq_true c6
   clear c6
   by_cases c7 : x13_1 < (l1.length : Int)
   rotate_left
   ·rw [if_neg c7] at H
    exact absurd H (by simp)
   rw [if_pos c7] at H
   have c7b0 := decide_eq_true c7
   clear c7
   replace H := oB H
   obtain ⟨t103, A80, H⟩ := H
   replace H : (if t103 = true then (laws_mSets.l0 k1 l0 l1 (l0.length : Int) (wrap64 (x13_1 + 1))) else (some false)) = some r := H
   have A8 := Aside0.mk A80
   clear A80
   by_cases c9 : t103 = true
   rotate_left
   ·replace c9 := Bool.eq_false_iff.mpr c9
    subst c9
    replace H := iF H
    obtain rfl := Option.some.inj H
    have p101 : 0 ≤ (x13_1 : Int) := oD
    have q101 : x13_1 < (l0.length : Int) := oD
    obtain ⟨ad101, A101_0, c101_0, e101, hx101_0, hl101_0, hi101_0⟩ := at_L2 HR0.out x13_1 p101 q101
    cases e101
    have HR101_0 := Aside0.mk hi101_0
    have HC101_0 := Aside0.mk hl101_0
    clear hi101_0 hl101_0
    replace p101 := eq_true p101
    replace q101 := eq_true q101
    have p102 : 0 ≤ (x13_1 : Int) := oD
    have q102 : x13_1 < (l1.length : Int) := oD
    obtain ⟨ad102, A102_0, c102_0, e102, hx102_0, hl102_0, hi102_0⟩ := at_L2 HR1.out x13_1 p102 q102
    cases e102
    have HR102_0 := Aside0.mk hi102_0
    have HC102_0 := Aside0.mk hl102_0
    clear hi102_0 hl102_0
    replace p102 := eq_true p102
    replace q102 := eq_true q102
    go_wp2_with (first | (go_at_call 30; (with_reducible refine (laws_mSame.calls k1 _ _ (rd_L2 l0 x13_1) _ _ (rd_L2 l1 x13_1) false _ ?side1 ?side2 ?side3 ?side4 A8.out).mono ?_); (case side1 => have hx_ := HR101_0.out; exact cC); (case side2 => exact HC101_0.out); (case side3 => have hx_ := HR102_0.out; exact cC); (case side4 => exact HC102_0.out); rintro e w' ⟨rfl, ⟨nd, rfl⟩⟩; (try exact dR)))
    repeat (go_quiet (first | (go_at_call 30; (with_reducible refine (laws_mSame.calls k1 _ _ (rd_L2 l0 x13_1) _ _ (rd_L2 l1 x13_1) false _ ?side1 ?side2 ?side3 ?side4 A8.out).mono ?_); (case side1 => have hx_ := HR101_0.out; exact cC); (case side2 => exact HC101_0.out); (case side3 => have hx_ := HR102_0.out; exact cC); (case side4 => exact HC102_0.out); rintro e w' ⟨rfl, ⟨nd, rfl⟩⟩; (try exact dR))); try go_wp2_with (first | (go_at_call 30; (with_reducible refine (laws_mSame.calls k1 _ _ (rd_L2 l0 x13_1) _ _ (rd_L2 l1 x13_1) false _ ?side1 ?side2 ?side3 ?side4 A8.out).mono ?_); (case side1 => have hx_ := HR101_0.out; exact cC); (case side2 => exact HC101_0.out); (case side3 => have hx_ := HR102_0.out; exact cC); (case side4 => exact HC102_0.out); rintro e w' ⟨rfl, ⟨nd, rfl⟩⟩; (try exact dR))))
    go_ret
    exact ⟨by first | rfl | (simp; done) | (simp [*]; done), dS⟩
   subst c9
   replace H := iT H
   have H' := Aside0.mk H
   clear H
   have p101 : 0 ≤ (x13_1 : Int) := oD
   have q101 : x13_1 < (l0.length : Int) := oD
   obtain ⟨ad101, A101_0, c101_0, e101, hx101_0, hl101_0, hi101_0⟩ := at_L2 HR0.out x13_1 p101 q101
   cases e101
   have HR101_0 := Aside0.mk hi101_0
   have HC101_0 := Aside0.mk hl101_0
   clear hi101_0 hl101_0
   replace p101 := eq_true p101
   replace q101 := eq_true q101
   have p102 : 0 ≤ (x13_1 : Int) := oD
   have q102 : x13_1 < (l1.length : Int) := oD
   obtain ⟨ad102, A102_0, c102_0, e102, hx102_0, hl102_0, hi102_0⟩ := at_L2 HR1.out x13_1 p102 q102
   cases e102
   have HR102_0 := Aside0.mk hi102_0
   have HC102_0 := Aside0.mk hl102_0
   clear hi102_0 hl102_0
   replace p102 := eq_true p102
   replace q102 := eq_true q102
   go_wp2_with (first | (go_at_call 30; (with_reducible refine (laws_mSame.calls k1 _ _ (rd_L2 l0 x13_1) _ _ (rd_L2 l1 x13_1) true _ ?side1 ?side2 ?side3 ?side4 A8.out).mono ?_); (case side1 => have hx_ := HR101_0.out; exact cC); (case side2 => exact HC101_0.out); (case side3 => have hx_ := HR102_0.out; exact cC); (case side4 => exact HC102_0.out); rintro e w' ⟨rfl, ⟨nd, rfl⟩⟩; (try exact dR)))
   repeat (go_quiet (first | (go_at_call 30; (with_reducible refine (laws_mSame.calls k1 _ _ (rd_L2 l0 x13_1) _ _ (rd_L2 l1 x13_1) true _ ?side1 ?side2 ?side3 ?side4 A8.out).mono ?_); (case side1 => have hx_ := HR101_0.out; exact cC); (case side2 => exact HC101_0.out); (case side3 => have hx_ := HR102_0.out; exact cC); (case side4 => exact HC102_0.out); rintro e w' ⟨rfl, ⟨nd, rfl⟩⟩; (try exact dR))); try go_wp2_with (first | (go_at_call 30; (with_reducible refine (laws_mSame.calls k1 _ _ (rd_L2 l0 x13_1) _ _ (rd_L2 l1 x13_1) true _ ?side1 ?side2 ?side3 ?side4 A8.out).mono ?_); (case side1 => have hx_ := HR101_0.out; exact cC); (case side2 => exact HC101_0.out); (case side3 => have hx_ := HR102_0.out; exact cC); (case side4 => exact HC102_0.out); rintro e w' ⟨rfl, ⟨nd, rfl⟩⟩; (try exact dR))))
   go_roundg k1
   case measure => have := HK1.out; omega
   case rel => exact ⟨(wrap64 (x13_1 + 1)), gR, H', ⟨by have := HK1.out; omega⟩, dS⟩
end Go.Proofs.YtaambkdiokbdgacGreatDoor.Q
namespace Go.Proofs.YtaambkdiokbdgacGreatDoor.Q
open Go.RowKit Go.Proofs.YtaambkdiokbdgacGreatDoorX Go.Proofs.YtaambkdiokbdgacGreatDoorY Go.Proofs.YtaambkdiokbdgacGreatDoorX Go.Proofs.YtaambkdiokbdgacGreatDoorW.PrintWords Go.Proofs.YtaambkdiokbdgacGreatDoorW.PrintLast Go.Proofs.YtaambkdiokbdgacGreatDoorW.PrintMore
attribute [local go_sem] max2_int min2_int max_two min_two max_three min_three max_four min_four   -- for this text's walks alone
set_option linter.unusedVariables false
set_option linter.unusedSimpArgs false
mutual
def laws_FnCommitteesChangeOfAll.j0 : Nat → List Int → Int → ByteArray → Bool → Int → List Int → Int → List Int → Int → List Int → Int → List Int → Int → List Int → Option (Bool)
 | 0, _, _, _, _, _, _, _, _, _, _, _, _, _, _ => none
 | k + 1, x1, x3, x7, x64, x102000, x102001, x103000, x103001, x104000, x104001, x105000, x105001, x106000, x106001 => if x64 = true then (some true) else ((impl_RenameCommittee.f k x102000 x102001 x1).bind fun bt106 => ((spec_RenameCommittee.f k x102000 x102001 x1).bind fun bt112 => (if (bt106.2.2 != bt112.2.2) = true then (none) else ((laws_mCommittee.f k bt106.1 bt106.2.1 bt112.1 bt112.2.1).bind fun t118 => (if t118 = true then (if bt106.2.2 = true then (if 0 ≤ (x1.length : Int) then (if ((x1.length : Int) : Int).toNat ≤ 35184372088832 then (laws_FnCommitteesChangeOfAll.l0 k x3 x7 (List.replicate ((x1.length : Int) : Int).toNat 0) x1 (x1.length : Int) 0 x102000 x102001 x103000 x103001 x104000 x104001 x105000 x105001 x106000 x106001 bt106.1 bt106.2.1) else (none)) else (none)) else (laws_FnCommitteesChangeOfAll.j2 k x3 x7 x103000 x103001 x104000 x104001 x105000 x105001 x106000 x106001)) else (none))))))
def laws_FnCommitteesChangeOfAll.j2 : Nat → Int → ByteArray → Int → List Int → Int → List Int → Int → List Int → Int → List Int → Option (Bool)
 | 0, _, _, _, _, _, _, _, _, _, _ => none
 | k + 1, x3, x7, x103000, x103001, x104000, x104001, x105000, x105001, x106000, x106001 => (impl_DropMember.f k x103000 x103001 x3).bind fun bt137 => ((spec_DropMember.f k x103000 x103001 x3).bind fun bt143 => ((impl_AreSameVotes.f k x104000 x104001 x105000 x105001).bind fun bt149 => ((spec_AreSameVotes.f k x104000 x104001 x105000 x105001).bind fun bt151 => ((impl_CommitteeText.f k x106000 x106001).bind fun bt153 => ((spec_CommitteeText.f k x106000 x106001).bind fun bt155 => ((impl_ParseCommittee.f k x7).bind fun bt157 => ((spec_ParseCommittee.f k x7).bind fun bt163 => (if (bt137.2.2 != bt143.2.2) = true then (none) else ((laws_mCommittee.f k bt137.1 bt137.2.1 bt143.1 bt143.2.1).bind fun t169 => (if t169 = true then (if (bt149.2 != bt151.2) = true then (none) else (if (bt149.1 != bt151.1) = true then (none) else (if (bt153.2 != bt155.2) = true then (none) else (if bt153.1.toList = bt155.1.toList then (if (bt157.2.2 != bt163.2.2) = true then (none) else ((laws_mCommittee.f k bt157.1 bt157.2.1 bt163.1 bt163.2.1).bind fun t170 => (if t170 = true then ((impl_IsCommittee.f k x106000 x106001).bind fun t171 => (if (bt153.2 != t171) = true then (none) else (if bt137.2.2 = true then ((laws_mSum.f k bt137.2.1).bind fun t172 => (if 0 ≤ x3 then (if x3 < (x103001.length : Int) then ((laws_mSum.f k x103001).bind fun t174 => (if (wrap64 (t172 + (rd x103001 x3))) = t174 then (if (bt137.2.1.length : Int) = (wrap64 ((x103001.length : Int) - 1)) then (laws_FnCommitteesChangeOfAll.j3 k x7 bt149.1 bt149.2 bt153.1 bt153.2 bt157.2.2 (bt137.1 != x103000) x104000 x104001 x105000 x105001 x106000 x106001 bt157.1 bt157.2.1) else (none)) else (none))) else (none)) else (none))) else (laws_FnCommitteesChangeOfAll.j3 k x7 bt149.1 bt149.2 bt153.1 bt153.2 bt157.2.2 false x104000 x104001 x105000 x105001 x106000 x106001 bt157.1 bt157.2.1)))) else (none)))) else (none))))) else (none)))))))))))
def laws_FnCommitteesChangeOfAll.j3 : Nat → ByteArray → Bool → Bool → ByteArray → Bool → Bool → Bool → Int → List Int → Int → List Int → Int → List Int → Int → List Int → Option (Bool)
 | 0, _, _, _, _, _, _, _, _, _, _, _, _, _, _, _ => none
 | k + 1, x7, x35, x36, x39, x40, x44, x273, x104000, x104001, x105000, x105001, x106000, x106001, x163000, x163001 => if x273 = true then (none) else (if x36 = true then ((impl_LeastWinning.f k x104000 x104001).bind fun bt175 => ((impl_LeastWinning.f k x105000 x105001).bind fun bt179 => ((impl_AreSameVotes.f k x105000 x105001 x104000 x104001).bind fun bt183 => (if bt175.2 = true then (if bt179.2 = true then (if (x104001.length : Int) = (x105001.length : Int) then ((laws_mSets.f k bt175.1 bt179.1).bind fun t185 => (if (x35 != t185) = true then (none) else (if bt183.2 = true then (if (bt183.1 != x35) = true then (none) else (laws_FnCommitteesChangeOfAll.j4 k x7 x39 x40 x44 x106000 x106001 x163000 x163001)) else (none)))) else (if (x35 != false) = true then (none) else (if bt183.2 = true then (if (bt183.1 != x35) = true then (none) else (laws_FnCommitteesChangeOfAll.j4 k x7 x39 x40 x44 x106000 x106001 x163000 x163001)) else (none)))) else (none)) else (none))))) else (laws_FnCommitteesChangeOfAll.j4 k x7 x39 x40 x44 x106000 x106001 x163000 x163001))
def laws_FnCommitteesChangeOfAll.j4 : Nat → ByteArray → ByteArray → Bool → Bool → Int → List Int → Int → List Int → Option (Bool)
 | 0, _, _, _, _, _, _, _, _ => none
 | k + 1, x7, x39, x40, x44, x106000, x106001, x163000, x163001 => if x40 = true then ((impl_ParseCommittee.f k x39).bind fun bt186 => (if bt186.2.2 = true then ((laws_mCommittee.f k bt186.1 bt186.2.1 x106000 x106001).bind fun t192 => (if t192 = true then (if x44 = true then ((impl_CommitteeText.f k x163000 x163001).bind fun bt193 => (if bt193.2 = true then (some (bt193.1.toList == x7.toList)) else (none))) else (some true)) else (none))) else (none))) else (if x44 = true then ((impl_CommitteeText.f k x163000 x163001).bind fun bt195 => (if bt195.2 = true then (some (bt195.1.toList == x7.toList)) else (none))) else (some true))
def laws_FnCommitteesChangeOfAll.l0 : Nat → Int → ByteArray → List Int → List Int → Int → Int → Int → List Int → Int → List Int → Int → List Int → Int → List Int → Int → List Int → Int → List Int → Option (Bool)
 | 0, _, _, _, _, _, _, _, _, _, _, _, _, _, _, _, _, _, _ => none
 | k + 1, x3, x7, x22, x91, x92, x93, x102000, x102001, x103000, x103001, x104000, x104001, x105000, x105001, x106000, x106001, x112000, x112001 => if x93 < x92 then (if 0 ≤ x93 then (if x93 < (x91.length : Int) then (if 0 ≤ (rd x91 x93) then (if (rd x91 x93) < (x22.length : Int) then (if x93 < (x112001.length : Int) then (if (rd x91 x93) < (x102001.length : Int) then (if (rd x112001 x93) = (rd x102001 (rd x91 x93)) then (laws_FnCommitteesChangeOfAll.l0 k x3 x7 (x22.set ((rd x91 x93) : Int).toNat x93) x91 x92 (wrap64 (x93 + 1)) x102000 x102001 x103000 x103001 x104000 x104001 x105000 x105001 x106000 x106001 x112000 x112001) else (none)) else (none)) else (none)) else (none)) else (none)) else (none)) else (none)) else ((impl_RenameCommittee.f k x112000 x112001 x22).bind fun bt126 => ((impl_CountWinning.f k x102000 x102001).bind fun bt132 => ((impl_CountWinning.f k x112000 x112001).bind fun bt134 => (if bt126.2.2 = true then ((laws_mCommittee.f k bt126.1 bt126.2.1 x102000 x102001).bind fun t136 => (if t136 = true then (if bt132.2 = true then (if bt134.2 = true then (if bt132.1 = bt134.1 then (laws_FnCommitteesChangeOfAll.j2 k x3 x7 x103000 x103001 x104000 x104001 x105000 x105001 x106000 x106001) else (none)) else (none)) else (none)) else (none))) else (none)))))
end
def laws_FnCommitteesChangeOfAll.f (k : Nat) (a0_0 : Int) (l0_1 : List Int) (l1 : List Int) (a2_0 : Int) (l2_1 : List Int) (a3 : Int) (a4_0 : Int) (l4_1 : List Int) (a5_0 : Int) (l5_1 : List Int) (a6_0 : Int) (l6_1 : List Int) (a7 : ByteArray) : Option (Bool) := if (l1.length : Int) > 10000 then (laws_FnCommitteesChangeOfAll.j0 k l1 a3 a7 true a0_0 l0_1 a2_0 l2_1 a4_0 l4_1 a5_0 l5_1 a6_0 l6_1) else (laws_FnCommitteesChangeOfAll.j0 k l1 a3 a7 (decide ((a7.size : Int) > 1048576)) a0_0 l0_1 a2_0 l2_1 a4_0 l4_1 a5_0 l5_1 a6_0 l6_1)
def laws_FnCommitteesChangeOfAll.T14 : Bool × List (List Nat × List Nat) := (true, [([], []), ([0], [0]), ([], []), ([1, 2], [1, 2]), ([3], [3]), ([], []), ([5], [5]), ([], []), ([6, 7], [6, 7]), ([8], [8]), ([4, 9], [4, 9])])
def laws_FnCommitteesChangeOfAll.B14 : List Nat := [0, 1, 0, 7, 15, 0, 32, 0, 224, 480, 1023]
theorem laws_FnCommitteesChangeOfAll.tab14 : rtab .any (opsOf Tryz.f3 14) = laws_FnCommitteesChangeOfAll.T14 := by kernel_rfl
theorem laws_FnCommitteesChangeOfAll.bits14 : waitsOk laws_FnCommitteesChangeOfAll.T14.2 laws_FnCommitteesChangeOfAll.B14 = true := by kernel_rfl
def laws_FnCommitteesChangeOfAll.T32 : Bool × List (List Nat × List Nat) := (true, [([], []), ([0], [0]), ([1], [1]), ([2, 1], [1, 2]), ([3, 1, 1], [1, 3]), ([1], [1]), ([5, 1], [1, 5]), ([1], [1]), ([6, 7, 1], [1, 6, 7]), ([8, 1], [1, 8]), ([4, 9, 1], [1, 4, 9]), ([1], [1]), ([11, 1], [1, 11]), ([12, 4, 1], [1, 12]), ([10, 13, 1], [1, 10, 13]), ([14, 13, 1], [1, 14]), ([15], [15]), ([16, 15], [15, 16]), ([17, 15], [15, 17]), ([15], [15]), ([19, 15], [15, 19]), ([20, 15], [15, 20]), ([21, 15], [15, 21]), ([18, 22, 15], [15, 18, 22]), ([15, 23, 1], [1, 15, 23]), ([24, 15, 1], [1, 24]), ([25], [25]), ([26, 25], [25, 26]), ([25], [25]), ([28, 25], [25, 28]), ([27, 29, 25], [25, 27, 29]), ([25, 30, 1], [1, 25, 30]), ([1, 31], [1, 31])])
def laws_FnCommitteesChangeOfAll.B32 : List Nat := [0, 1, 3, 7, 15, 3, 35, 3, 227, 483, 1023, 3, 2051, 6175, 16383, 32767, 65535, 131071, 262143, 65535, 589823, 1638399, 3735551, 8388607, 16777215, 33554431, 67108863, 134217727, 67108863, 335544319, 1073741823, 2147483647, 4294967295]
theorem laws_FnCommitteesChangeOfAll.tab32 : rtab .any (opsOf Tryz.f3 32) = laws_FnCommitteesChangeOfAll.T32 := by kernel_rfl
theorem laws_FnCommitteesChangeOfAll.bits32 : waitsOk laws_FnCommitteesChangeOfAll.T32.2 laws_FnCommitteesChangeOfAll.B32 = true := by kernel_rfl
theorem laws_FnCommitteesChangeOfAll.calls (k : Nat) (a0_0 : Int) (A0_1 : Option Addr) (c0_1 : Nat) (l0_1 : List Int) (A1 : Option Addr) (c1 : Nat) (l1 : List Int) (a2_0 : Int) (A2_1 : Option Addr) (c2_1 : Nat) (l2_1 : List Int) (a3 : Int) (a4_0 : Int) (A4_1 : Option Addr) (c4_1 : Nat) (l4_1 : List Int) (a5_0 : Int) (A5_1 : Option Addr) (c5_1 : Nat) (l5_1 : List Int) (a6_0 : Int) (A6_1 : Option Addr) (c6_1 : Nat) (l6_1 : List Int) (a7 : ByteArray) (r : Bool) (w : World) (hr0_1 : Kd.C (Kd.int .i64) w A0_1 l0_1.length l0_1) (hc0_1 : l0_1.length ≤ c0_1) (hr1 : Kd.C (Kd.int .i64) w A1 l1.length l1) (hc1 : l1.length ≤ c1) (hr2_1 : Kd.C (Kd.int .i64) w A2_1 l2_1.length l2_1) (hc2_1 : l2_1.length ≤ c2_1) (hr4_1 : Kd.C (Kd.int .i64) w A4_1 l4_1.length l4_1) (hc4_1 : l4_1.length ≤ c4_1) (hr5_1 : Kd.C (Kd.int .i64) w A5_1 l5_1.length l5_1) (hc5_1 : l5_1.length ≤ c5_1) (hr6_1 : Kd.C (Kd.int .i64) w A6_1 l6_1.length l6_1) (hc6_1 : l6_1.length ≤ c6_1) (h : laws_FnCommitteesChangeOfAll.f k a0_0 l0_1 l1 a2_0 l2_1 a3 a4_0 l4_1 a5_0 l5_1 a6_0 l6_1 a7 = some r) (hZ : Go.Proofs.YtaambkdiokbdgacGreatDoorV.Wz w) :
  Calls Tryz.prog 3 #[.agg #[.int .i64 a0_0, .slice A0_1 l0_1.length c0_1], .slice A1 l1.length c1, .agg #[.int .i64 a2_0, .slice A2_1 l2_1.length c2_1], .int .i64 a3, .agg #[.int .i64 a4_0, .slice A4_1 l4_1.length c4_1], .agg #[.int .i64 a5_0, .slice A5_1 l5_1.length c5_1], .agg #[.int .i64 a6_0, .slice A6_1 l6_1.length c6_1], .string a7] w fun e w' => e = .returned (.bool r) ∧ Below w.heap.size w w' := by
 have hu24 := Tryz.underlying24
 have HR0_1 := Aside0.mk hr0_1
 have HC0_1 := Aside0.mk hc0_1
 clear hr0_1 hc0_1
 have HR1 := Aside0.mk hr1
 have HC1 := Aside0.mk hc1
 clear hr1 hc1
 have HR2_1 := Aside0.mk hr2_1
 have HC2_1 := Aside0.mk hc2_1
 clear hr2_1 hc2_1
 have HR4_1 := Aside0.mk hr4_1
 have HC4_1 := Aside0.mk hc4_1
 clear hr4_1 hc4_1
 have HR5_1 := Aside0.mk hr5_1
 have HC5_1 := Aside0.mk hc5_1
 clear hr5_1 hc5_1
 have HR6_1 := Aside0.mk hr6_1
 have HC6_1 := Aside0.mk hc6_1
 clear hr6_1 hc6_1
 have HB := Aside0.mk (Below.refl w.heap.size w)
 have HZ := Aside0.mk hZ
 clear hZ
 have H := h
 unfold laws_FnCommitteesChangeOfAll.f at H
 clear h
 have HC9 := Aside0.mk H
 clear H
 go_enter Tryz.func3, Tryz.ntmps3
 go_upto_region 1 with (first | ((with_reducible refine gate_dst (N := 8) rfl ?_); (try (refine gate_guard (by rfl) ?_; dsimp only)); refine xE (N := 8) (cs := #[.int .i64 a0_0, .slice A0_1 l0_1.length c0_1]) (t := 24) ?_; intro gb101 hg w10 BK101 hb; have GE101 := gS hg HB; replace HB := sB HB hb; clear hb hg) | ((with_reducible refine gate_dst (N := 10) rfl ?_); (try (refine gate_guard (by rfl) ?_; dsimp only)); refine xE (N := 10) (cs := #[.int .i64 a2_0, .slice A2_1 l2_1.length c2_1]) (t := 24) ?_; intro gb102 hg w11 BK102 hb; have GE102 := gS hg HB; have NB101_102 := nL hg (blk_lt BK101.out); have NB102_101 := nG hg (blk_lt BK101.out); replace BK101 := bB BK101 hb; replace HB := sB HB hb; clear hb hg) | ((with_reducible refine gate_dst (N := 12) rfl ?_); (try (refine gate_guard (by rfl) ?_; dsimp only)); refine xE (N := 12) (cs := #[.int .i64 a4_0, .slice A4_1 l4_1.length c4_1]) (t := 24) ?_; intro gb103 hg w12 BK103 hb; have GE103 := gS hg HB; have NB101_103 := nL hg (blk_lt BK101.out); have NB103_101 := nG hg (blk_lt BK101.out); have NB102_103 := nL hg (blk_lt BK102.out); have NB103_102 := nG hg (blk_lt BK102.out); replace BK101 := bB BK101 hb; replace BK102 := bB BK102 hb; replace HB := sB HB hb; clear hb hg) | ((with_reducible refine gate_dst (N := 13) rfl ?_); (try (refine gate_guard (by rfl) ?_; dsimp only)); refine xE (N := 13) (cs := #[.int .i64 a5_0, .slice A5_1 l5_1.length c5_1]) (t := 24) ?_; intro gb104 hg w13 BK104 hb; have GE104 := gS hg HB; have NB101_104 := nL hg (blk_lt BK101.out); have NB104_101 := nG hg (blk_lt BK101.out); have NB102_104 := nL hg (blk_lt BK102.out); have NB104_102 := nG hg (blk_lt BK102.out); have NB103_104 := nL hg (blk_lt BK103.out); have NB104_103 := nG hg (blk_lt BK103.out); replace BK101 := bB BK101 hb; replace BK102 := bB BK102 hb; replace BK103 := bB BK103 hb; replace HB := sB HB hb; clear hb hg) | ((with_reducible refine gate_dst (N := 14) rfl ?_); (try (refine gate_guard (by rfl) ?_; dsimp only)); refine xE (N := 14) (cs := #[.int .i64 a6_0, .slice A6_1 l6_1.length c6_1]) (t := 24) ?_; intro gb105 hg w14 BK105 hb; have GE105 := gS hg HB; have NB101_105 := nL hg (blk_lt BK101.out); have NB105_101 := nG hg (blk_lt BK101.out); have NB102_105 := nL hg (blk_lt BK102.out); have NB105_102 := nG hg (blk_lt BK102.out); have NB103_105 := nL hg (blk_lt BK103.out); have NB105_103 := nG hg (blk_lt BK103.out); have NB104_105 := nL hg (blk_lt BK104.out); have NB105_104 := nG hg (blk_lt BK104.out); replace BK101 := bB BK101 hb; replace BK102 := bB BK102 hb; replace BK103 := bB BK103 hb; replace BK104 := bB BK104 hb; replace HB := sB HB hb; clear hb hg) | go_values | go_skip | go_guarded | go_step | go_upon | go_back | ((with_reducible (show Go.Oper.upon _ _ _ _ _ _)); go_simp) | (go_ite <;> go_prune <;> try go_simp))
 (try simp only [Act.put, sA, sZ, sS])
 refine cutT_ [F,F,F,F,F,F,F,F,F,F,F,F,F,F,F,F,F,F,F,F,F,F,F,F,F,F,F,F,F,F,F,F,F,F,F,F,F,F,F,F,F,F,F,F,F,F,F,F,F,F,F,F,F,F,F,F,F,T,T,T,T,T,T,T,T] (fun T_ wc_ => (fun v64 wc => ∃ (kq : Nat) (x64_8 : Bool), v64 = .bool x64_8 ∧ Aside0 (laws_FnCommitteesChangeOfAll.j0 kq l1 a3 a7 x64_8 a0_0 l0_1 a2_0 l2_1 a4_0 l4_1 a5_0 l5_1 a6_0 l6_1 = some r) ∧ Aside0 (kq ≤ k) ∧ Aside0 (wc.heap[gb101]? = some (.cells #[.int .i64 a0_0, (.slice A0_1 l0_1.length c0_1)] 24 (0, 0))) ∧ Aside0 (wc.heap[gb102]? = some (.cells #[.int .i64 a2_0, (.slice A2_1 l2_1.length c2_1)] 24 (0, 0))) ∧ Aside0 (wc.heap[gb103]? = some (.cells #[.int .i64 a4_0, (.slice A4_1 l4_1.length c4_1)] 24 (0, 0))) ∧ Aside0 (wc.heap[gb104]? = some (.cells #[.int .i64 a5_0, (.slice A5_1 l5_1.length c5_1)] 24 (0, 0))) ∧ Aside0 (wc.heap[gb105]? = some (.cells #[.int .i64 a6_0, (.slice A6_1 l6_1.length c6_1)] 24 (0, 0))) ∧ Aside0 (Below w.heap.size w wc)) (T_ 64) wc_) ?restj0 ?firstj0
 case firstj0 => as_aux_lemma =>
  intro J_ K_ hJ_j0 hM_
  have H := HC9.out
  clear HC9
  by_cases c15 : (l1.length : Int) > 10000
  ·rw [if_pos c15] at H
   have c15b0 : decide (10000 < (l1.length : Int)) = true := decide_eq_true c15
   have c15b1 : decide (10000 < l1.length) = true := decide_eq_true (by omega)
   clear c15
   (first | rw [c15b0] | (simp only [i64_w, i32_w]; rw [c15b0]) | skip)
   as_aux_lemma =>
    have H' := Aside0.mk H
    clear H
    go_upto_region 9999 with (first | go_values | go_skip | go_guarded | go_step | go_upon | go_back | ((with_reducible (show Go.Oper.upon _ _ _ _ _ _)); go_simp) | (go_ite <;> go_prune <;> try go_simp))
    refine meetT_ hJ_j0 (by kernel_rfl) ?rel
    case rel => exact ⟨_, (true), gR, H', ⟨by first | omega | exact Nat.le_refl _⟩, ⟨by exact BK101.out⟩, ⟨by exact BK102.out⟩, ⟨by exact BK103.out⟩, ⟨by exact BK104.out⟩, ⟨by exact BK105.out⟩, ⟨wB⟩⟩
  rw [if_neg c15] at H
  have c15b0 : decide (10000 < (l1.length : Int)) = false := decide_eq_false c15
  have c15b1 : decide (10000 < l1.length) = false := decide_eq_false (by omega)
  clear c15
  (first | rw [c15b0] | (simp only [i64_w, i32_w]; rw [c15b0]) | skip)
  as_aux_lemma =>
   have H' := Aside0.mk H
   clear H
   go_upto_region 9999 with (first | go_values | go_skip | go_guarded | go_step | go_upon | go_back | ((with_reducible (show Go.Oper.upon _ _ _ _ _ _)); go_simp) | (go_ite <;> go_prune <;> try go_simp))
   refine meetT_ hJ_j0 (by kernel_rfl) ?rel
   case rel => exact ⟨_, (decide ((a7.size : Int) > 1048576)), gR, H', ⟨by first | omega | exact Nat.le_refl _⟩, ⟨by exact BK101.out⟩, ⟨by exact BK102.out⟩, ⟨by exact BK103.out⟩, ⟨by exact BK104.out⟩, ⟨by exact BK105.out⟩, ⟨wB⟩⟩
 case restj0 => as_aux_lemma =>
  intro T_ wc hcut
  simp only [putT, putM, T, F, Nat.reduceAdd]
  (try dsimp only at hcut)
  generalize T_ 64 = u64 at hcut ⊢
  clear HC9
  (try clear c1); (try clear c2); (try clear p2); (try clear c3); (try clear c4); (try clear c5); (try clear c6); (try clear c15); (try clear c15b0); (try clear c15b1)
  obtain ⟨kq, x64_8, rfl, HA, HJ8, BK101, BK102, BK103, BK104, BK105, HB⟩ := hcut
  cases kq with
  | zero => exact absurd HA.out (by simp [laws_FnCommitteesChangeOfAll.j0])
  | succ kj8 =>
   have H := HA.out
   clear HA
   simp only [laws_FnCommitteesChangeOfAll.j0] at H
   by_cases c16 : x64_8 = true
   ·subst c16
    replace H := iT H
    as_aux_lemma =>
     obtain rfl := Option.some.inj H
     go_upto_region 9999 with (first | go_values | go_skip | go_guarded | go_step | go_upon | go_back | ((with_reducible (show Go.Oper.upon _ _ _ _ _ _)); go_simp) | (go_ite <;> go_prune <;> try go_simp))
     go_ret
     exact ⟨fR, wB⟩
   replace c16 := Bool.eq_false_iff.mpr c16
   subst c16
   replace H := iF H
   replace H := oB H
   obtain ⟨⟨t106, t107, t110⟩, A170, H⟩ := H
   (try dsimp only at H)
   have A17 := Aside0.mk A170
   clear A170
   replace H := oB H
   obtain ⟨⟨t112, t113, t116⟩, A180, H⟩ := H
   (try dsimp only at H)
   have A18 := Aside0.mk A180
   clear A180
   replace H := ite_no H
   obtain ⟨c19, H⟩ := H
   replace c19 := of_nbne c19
   subst t110
   replace H := oA H
   obtain ⟨t118, A20, H⟩ := H
   (try dsimp only at H)
   replace H := ite_yes H
   obtain ⟨c21, H⟩ := H
   subst c21
   have HC22 := Aside0.mk H
   clear H
   have hnb23 := NB101_102.out
   have hnc23 := NB102_101.out
   have hnb24 := NB101_103.out
   have hnc24 := NB103_101.out
   have hnb25 := NB101_104.out
   have hnc25 := NB104_101.out
   have hnb26 := NB101_105.out
   have hnc26 := NB105_101.out
   obtain ⟨hcz27_0, hcz27_1, hfz27_0, hfz27_1⟩ := zZ BK101
   go_upto_region 4 with (first | ((with_reducible refine gate_callee (f := 5) rfl ?_); refine gL 68 Tryz.func5 #[.agg #[.int .i64 a0_0, .slice A0_1 l0_1.length c0_1], .slice A1 l1.length c1] ?_; (with_reducible refine (impl_RenameCommittee.calls kj8 a0_0 _ _ l0_1 _ _ l1 t106 t107 t116 _ (Kd.C_below HR0_1.out HB.out) HC0_1.out (Kd.C_below HR1.out HB.out) HC1.out A17.out).mono ?_); rintro e w28 ⟨v108, rfl, ho0, hb⟩; refine ⟨_, rfl, ?_⟩; have HO109 := Aside0.mk (Kd.R_lower ho0 (below_size HB.out)); replace BK101 := bB BK101 hb; replace BK102 := bB BK102 hb; replace BK103 := bB BK103 hb; replace BK104 := bB BK104 hb; replace BK105 := bB BK105 hb; replace HB := sB HB hb; (try clear hb); (try clear ho0)) | ((with_reducible refine gate_dst (N := 17) rfl ?_); (try (refine gate_guard (by rfl) ?_; dsimp only)); refine xE (N := 17) (cs := #[.int .i64 0, .slice none 0 0]) (t := 24) ?_; intro gb111 hg w29 BK111 hb; have GE111 := gS hg HB; have NB101_111 := nL hg (blk_lt BK101.out); have NB111_101 := nG hg (blk_lt BK101.out); have NB102_111 := nL hg (blk_lt BK102.out); have NB111_102 := nG hg (blk_lt BK102.out); have NB103_111 := nL hg (blk_lt BK103.out); have NB111_103 := nG hg (blk_lt BK103.out); have NB104_111 := nL hg (blk_lt BK104.out); have NB111_104 := nG hg (blk_lt BK104.out); have NB105_111 := nL hg (blk_lt BK105.out); have NB111_105 := nG hg (blk_lt BK105.out); replace HO109 := rB HO109 hb; replace BK101 := bB BK101 hb; replace BK102 := bB BK102 hb; replace BK103 := bB BK103 hb; replace BK104 := bB BK104 hb; replace BK105 := bB BK105 hb; replace HB := sB HB hb; clear hb hg; have hnb30 := NB111_101.out; have hnc30 := NB101_111.out; have hnb31 := NB111_102.out; have hnc31 := NB102_111.out; have hnb32 := NB111_103.out; have hnc32 := NB103_111.out; have hnb33 := NB111_104.out; have hnc33 := NB104_111.out; have hnb34 := NB111_105.out; have hnc34 := NB105_111.out; (try clear hcz27_0 hcz27_1 hfz27_0 hfz27_1); obtain ⟨hcz35_0, hcz35_1, hfz35_0, hfz35_1⟩ := zZ BK111; obtain ⟨Ao36, co36, eo36⟩ := Kd.R_slice HO109.out; subst eo36; obtain ⟨hcz37_0, hcz37_1, hfz37_0, hfz37_1⟩ := zZ BK101) | go_values | go_skip | go_guarded | go_step | go_upon | go_back | ((with_reducible (show Go.Oper.upon _ _ _ _ _ _)); go_simp) | (go_ite <;> go_prune <;> try go_simp))
   go_upto_region 5 with (first | ((with_reducible refine gate_callee (f := 6) rfl ?_); refine gL 74 Tryz.func6 #[.agg #[.int .i64 a0_0, .slice A0_1 l0_1.length c0_1], .slice A1 l1.length c1] ?_; (with_reducible refine (spec_RenameCommittee.calls kj8 a0_0 _ _ l0_1 _ _ l1 t112 t113 t116 _ (Kd.C_below HR0_1.out (by repeat (first | exact HB.out | apply ba | refine bs ?_ GE111.out))) HC0_1.out (Kd.C_below HR1.out (by repeat (first | exact HB.out | apply ba | refine bs ?_ GE111.out))) HC1.out A18.out).mono ?_); rintro e w38 ⟨v114, rfl, ho0, hb⟩; refine ⟨_, rfl, ?_⟩; have HO115 := Aside0.mk (Kd.R_lower (Kd.R_new' ho0 (Kd.R_lt (by exact (Kd.R_mono (Kd.R_far (p := ⟨gb111, 1, none⟩) (Kd.R_far (p := ⟨gb111, 0, none⟩) (Kd.R_types HO109.out BK111.out (by decide)) (fun _ hk => hk.2) (.int .i64 t106)) (fun _ hk => hk.2) (.slice Ao36 t107.length co36)) (fun _ h_ => h_.1))))) (below_size (by repeat (first | exact HB.out | apply ba | refine bs ?_ GE111.out)))); replace HO109 := Aside0.mk (Kd.R_elder' (by exact (Kd.R_mono (Kd.R_far (p := ⟨gb111, 1, none⟩) (Kd.R_far (p := ⟨gb111, 0, none⟩) (Kd.R_types HO109.out BK111.out (by decide)) (fun _ hk => hk.2) (.int .i64 t106)) (fun _ hk => hk.2) (.slice Ao36 t107.length co36)) (fun _ h_ => h_.1))) (Kd.R_base ho0) hb); replace BK101 := Aside0.mk (blk_below (g := gb101) (o := .cells #[.int .i64 a0_0, .slice A0_1 l0_1.length c0_1] 24 (0, 0)) (by refine blk_far ?_ NB101_111.out _; refine blk_far ?_ NB101_111.out _; exact BK101.out) hb); replace BK102 := Aside0.mk (blk_below (g := gb102) (o := .cells #[.int .i64 a2_0, .slice A2_1 l2_1.length c2_1] 24 (0, 0)) (by refine blk_far ?_ NB102_111.out _; refine blk_far ?_ NB102_111.out _; exact BK102.out) hb); replace BK103 := Aside0.mk (blk_below (g := gb103) (o := .cells #[.int .i64 a4_0, .slice A4_1 l4_1.length c4_1] 24 (0, 0)) (by refine blk_far ?_ NB103_111.out _; refine blk_far ?_ NB103_111.out _; exact BK103.out) hb); replace BK104 := Aside0.mk (blk_below (g := gb104) (o := .cells #[.int .i64 a5_0, .slice A5_1 l5_1.length c5_1] 24 (0, 0)) (by refine blk_far ?_ NB104_111.out _; refine blk_far ?_ NB104_111.out _; exact BK104.out) hb); replace BK105 := Aside0.mk (blk_below (g := gb105) (o := .cells #[.int .i64 a6_0, .slice A6_1 l6_1.length c6_1] 24 (0, 0)) (by refine blk_far ?_ NB105_111.out _; refine blk_far ?_ NB105_111.out _; exact BK105.out) hb); replace BK111 := Aside0.mk (blk_below (g := gb111) (o := .cells #[.int .i64 t106, .slice Ao36 t107.length co36] 24 (0, 0)) (by refine blk_put (cs := #[.int .i64 t106, .slice none 0 0]) ?_ 1 _ rfl; refine blk_put (cs := #[.int .i64 0, .slice none 0 0]) ?_ 0 _ rfl; exact BK111.out) hb); replace HB := Aside0.mk (below_step (by repeat (first | exact HB.out | apply ba | refine bs ?_ GE111.out)) hb); (try clear hb); (try clear ho0)) | ((with_reducible refine gate_dst (N := 19) rfl ?_); (try (refine gate_guard (by rfl) ?_; dsimp only)); refine xE (N := 19) (cs := #[.int .i64 0, .slice none 0 0]) (t := 24) ?_; intro gb117 hg w39 BK117 hb; have GE117 := gS hg HB; have NB101_117 := nL hg (blk_lt BK101.out); have NB117_101 := nG hg (blk_lt BK101.out); have NB102_117 := nL hg (blk_lt BK102.out); have NB117_102 := nG hg (blk_lt BK102.out); have NB103_117 := nL hg (blk_lt BK103.out); have NB117_103 := nG hg (blk_lt BK103.out); have NB104_117 := nL hg (blk_lt BK104.out); have NB117_104 := nG hg (blk_lt BK104.out); have NB105_117 := nL hg (blk_lt BK105.out); have NB117_105 := nG hg (blk_lt BK105.out); have NB111_117 := nL hg (blk_lt BK111.out); have NB117_111 := nG hg (blk_lt BK111.out); replace HO109 := rB HO109 hb; replace HO115 := rB HO115 hb; replace BK101 := bB BK101 hb; replace BK102 := bB BK102 hb; replace BK103 := bB BK103 hb; replace BK104 := bB BK104 hb; replace BK105 := bB BK105 hb; replace BK111 := bB BK111 hb; replace HB := sB HB hb; clear hb hg; have hnb40 := NB117_101.out; have hnc40 := NB101_117.out; have hnb41 := NB117_102.out; have hnc41 := NB102_117.out; have hnb42 := NB117_103.out; have hnc42 := NB103_117.out; have hnb43 := NB117_104.out; have hnc43 := NB104_117.out; have hnb44 := NB117_105.out; have hnc44 := NB105_117.out; have hnb45 := NB117_111.out; have hnc45 := NB111_117.out; (try clear hcz35_0 hcz35_1 hfz35_0 hfz35_1 hcz37_0 hcz37_1 hfz37_0 hfz37_1); obtain ⟨hcz46_0, hcz46_1, hfz46_0, hfz46_1⟩ := zZ BK117; obtain ⟨Ao47, co47, eo47⟩ := Kd.R_slice HO115.out; subst eo47; obtain ⟨hcz48_0, hcz48_1, hfz48_0, hfz48_1⟩ := zZ BK111) | go_values | go_skip | go_guarded | go_step | go_upon | go_back | ((with_reducible (show Go.Oper.upon _ _ _ _ _ _)); go_simp) | (go_ite <;> go_prune <;> try go_simp))
   go_upto_if 86 with (first | (go_at_call 7; (with_reducible refine (laws_mCommittee.calls kj8 t106 _ _ t107 t112 _ _ t113 true _ ?side1 ?side2 ?side3 ?side4 A20.out).mono ?_); (case side1 => refine (Kd.R_reads' (e := 3) (base := w.heap.size) (ok := fun k_ => (True ∧ nb (.slice Ao47 t113.length co47) k_)) (n := t107.length) (c := co36) ?_).2.2; exact (by exact (Kd.R_mono (Kd.R_far (p := ⟨gb117, 1, none⟩) (Kd.R_far (p := ⟨gb117, 0, none⟩) (Kd.R_types HO109.out BK117.out (by decide)) (fun _ hk => hk.2) (.int .i64 t112)) (fun _ hk => hk.2) (.slice Ao47 t113.length co47)) (fun _ h_ => h_.1)))); (case side2 => exact (Kd.R_reads' HO109.out).2.1); (case side3 => refine (Kd.R_reads' (e := 3) (base := w.heap.size) (ok := fun k_ => (True ∧ nb (.slice Ao36 t107.length co36) k_)) (n := t113.length) (c := co47) ?_).2.2; exact (by exact (Kd.R_mono (Kd.R_far (p := ⟨gb117, 1, none⟩) (Kd.R_far (p := ⟨gb117, 0, none⟩) (Kd.R_types HO115.out BK117.out (by decide)) (fun _ hk => hk.2) (.int .i64 t112)) (fun _ hk => hk.2) (.slice Ao47 t113.length co47)) (fun _ h_ => h_.1)))); (case side4 => exact (Kd.R_reads' HO115.out).2.1); rintro e w49 ⟨rfl, hb⟩; replace HO109 := Aside0.mk (Kd.R_below (by exact (Kd.R_mono (Kd.R_far (p := ⟨gb117, 1, none⟩) (Kd.R_far (p := ⟨gb117, 0, none⟩) (Kd.R_types HO109.out BK117.out (by decide)) (fun _ hk => hk.2) (.int .i64 t112)) (fun _ hk => hk.2) (.slice Ao47 t113.length co47)) (fun _ h_ => h_.1))) hb); replace HO115 := Aside0.mk (Kd.R_below (by exact (Kd.R_mono (Kd.R_far (p := ⟨gb117, 1, none⟩) (Kd.R_far (p := ⟨gb117, 0, none⟩) (Kd.R_types HO115.out BK117.out (by decide)) (fun _ hk => hk.2) (.int .i64 t112)) (fun _ hk => hk.2) (.slice Ao47 t113.length co47)) (fun _ h_ => h_.1))) hb); replace BK101 := Aside0.mk (blk_below (g := gb101) (o := .cells #[.int .i64 a0_0, .slice A0_1 l0_1.length c0_1] 24 (0, 0)) (by refine blk_far ?_ NB101_117.out _; refine blk_far ?_ NB101_117.out _; exact BK101.out) hb); replace BK102 := Aside0.mk (blk_below (g := gb102) (o := .cells #[.int .i64 a2_0, .slice A2_1 l2_1.length c2_1] 24 (0, 0)) (by refine blk_far ?_ NB102_117.out _; refine blk_far ?_ NB102_117.out _; exact BK102.out) hb); replace BK103 := Aside0.mk (blk_below (g := gb103) (o := .cells #[.int .i64 a4_0, .slice A4_1 l4_1.length c4_1] 24 (0, 0)) (by refine blk_far ?_ NB103_117.out _; refine blk_far ?_ NB103_117.out _; exact BK103.out) hb); replace BK104 := Aside0.mk (blk_below (g := gb104) (o := .cells #[.int .i64 a5_0, .slice A5_1 l5_1.length c5_1] 24 (0, 0)) (by refine blk_far ?_ NB104_117.out _; refine blk_far ?_ NB104_117.out _; exact BK104.out) hb); replace BK105 := Aside0.mk (blk_below (g := gb105) (o := .cells #[.int .i64 a6_0, .slice A6_1 l6_1.length c6_1] 24 (0, 0)) (by refine blk_far ?_ NB105_117.out _; refine blk_far ?_ NB105_117.out _; exact BK105.out) hb); replace BK111 := Aside0.mk (blk_below (g := gb111) (o := .cells #[.int .i64 t106, .slice Ao36 t107.length co36] 24 (0, 0)) (by refine blk_far ?_ NB111_117.out _; refine blk_far ?_ NB111_117.out _; exact BK111.out) hb); replace HB := Aside0.mk (below_step (by repeat (first | exact HB.out | apply ba | refine bs ?_ GE117.out)) hb); (try clear hb)))
   (try simp only [Act.put, sA, sZ, sS])
   refine cutT_ [F,F,F,F,F,F,F,F,F,F,F,F,F,F,F,F,T,F,F,F,F,T,T,T,T,T,T,T,T,T,T,F,F,F,F,F,F,F,F,F,F,F,F,F,F,F,F,F,F,F,F,F,F,F,F,F,F,F,F,F,F,F,F,F,F,F,F,F,F,F,F,F,F,F,F,F,F,F,F,F,F,F,F,F,F,F,T,T,T,T,T,T,T,T,T,T,T,T,T,T,T,T,T,T,T,T,T,T,T,T,T,T,T,T,T,T,T,T,T,T,T,T,T,T,T,T,T,T,T,T,T,T,T,T,T,T,T,T,T,T,T,T,T,T,T,T,T,T,T,T,T] (fun T_ wc_ => (fun wc => ∃ (kq : Nat), Aside0 (laws_FnCommitteesChangeOfAll.j2 kq a3 a7 a2_0 l2_1 a4_0 l4_1 a5_0 l5_1 a6_0 l6_1 = some r) ∧ Aside0 (kq ≤ kj8) ∧ Aside0 (wc.heap[gb102]? = some (.cells #[.int .i64 a2_0, (.slice A2_1 l2_1.length c2_1)] 24 (0, 0))) ∧ Aside0 (wc.heap[gb103]? = some (.cells #[.int .i64 a4_0, (.slice A4_1 l4_1.length c4_1)] 24 (0, 0))) ∧ Aside0 (wc.heap[gb104]? = some (.cells #[.int .i64 a5_0, (.slice A5_1 l5_1.length c5_1)] 24 (0, 0))) ∧ Aside0 (wc.heap[gb105]? = some (.cells #[.int .i64 a6_0, (.slice A6_1 l6_1.length c6_1)] 24 (0, 0))) ∧ Aside0 (Below w.heap.size w wc))  wc_) ?restj2 ?firstj2
   case firstj2 => as_aux_lemma =>
    intro J_ K_ hJ_j2 hM_
    have H := HC22.out
    clear HC22
    by_cases c50 : t116 = true
    rotate_left
    ·replace c50 := Bool.eq_false_iff.mpr c50
     subst c50
     replace H := iF H
     as_aux_lemma =>
      have H' := Aside0.mk H
      clear H
      go_upto_region 9999 with (first | go_values | go_skip | go_guarded | go_step | go_upon | go_back | ((with_reducible (show Go.Oper.upon _ _ _ _ _ _)); go_simp) | (go_ite <;> go_prune <;> try go_simp))
      refine meetT_ hJ_j2 (by kernel_rfl) ?rel
      case rel => exact ⟨_, H', ⟨by have := HJ8.out; first | omega | exact Nat.le_refl _⟩, ⟨by exact BK102.out⟩, ⟨by exact BK103.out⟩, ⟨by exact BK104.out⟩, ⟨by exact BK105.out⟩, ⟨wB⟩⟩
    subst c50
    replace H := iT H
    replace H := ite_yes H
    obtain ⟨c51, H⟩ := H
    have c51b0 := eq_true c51
    have c51b1 : decide (0 ≤ (l1.length : Int)) = true := decide_eq_true c51
    clear c51
    replace H := ite_yes H
    obtain ⟨c52, H⟩ := H
    have c52b0 := eq_true c52
    have c52b1 : decide (((l1.length : Int) : Int).toNat ≤ 35184372088832) = true := decide_eq_true c52
    clear c52
    obtain ⟨y119, hy119⟩ : ∃ y_ : List Int, y_ = (List.replicate ((l1.length : Int) : Int).toNat 0) := ⟨_, rfl⟩
    replace H : (laws_FnCommitteesChangeOfAll.l0 kj8 a3 a7 y119 l1 (l1.length : Int) 0 a0_0 l0_1 a2_0 l2_1 a4_0 l4_1 a5_0 l5_1 a6_0 l6_1 t106 t107) = some r := by first | (rw [hy119]; with_reducible exact H) | (have H2_ := (Option.bind_some _ _).symm.trans H; rw [hy119]; with_reducible exact H2_) | (have H2_ := (Option.bind_some _ _).symm.trans H; with_reducible exact H2_) | with_reducible exact H | (rw [hy119]; exact H) | exact H
    have Ny119 := Aside0.mk hy119
    clear hy119
    have H' := Aside0.mk H
    clear H
    go_upto_region 9999 with (first | ((with_reducible refine gate_dst (N := 90) rfl ?_); (try (refine gate_guard (by rfl) ?_; dsimp only)); refine Kd.R_make (Kd.int .i64) _ 3 rfl (N := 90) rfl 22 _ _ rfl (l1.length : Int) rfl rfl Tryz.underlying22 (.int .i64 0) 8 info3 rfl (by decide) (by omega) 0 (ok := fun _ => True) (okp := fun _ => True) rfl (fun _ hk => hk) trivial (oD) (Nat.le_trans (Nat.mul_le_mul_right _ (oD : (l1.length : Int).toNat ≤ 35184372088832)) (by omega)) (Below.refl _ _) (Nat.le_refl _) ?_; intro v120 w53 ho54 hb hg_ hnew_; clear hg_ hnew_; (first | rw [← Ny119.out] at ho54 | (simp only [Int.reduceToNat] at ho54; rw [← Ny119.out] at ho54)); have HO121 := Aside0.mk (Kd.R_lower (Kd.R_new' (Kd.R_new' ho54 (Kd.R_lt HO109.out)) (Kd.R_lt HO115.out)) (below_size HB.out)); replace HO109 := rE HO109 (Kd.R_base ho54) hb; replace BK101 := bB BK101 hb; replace BK102 := bB BK102 hb; replace BK103 := bB BK103 hb; replace BK104 := bB BK104 hb; replace BK105 := bB BK105 hb; replace BK111 := bB BK111 hb; replace HB := sB HB hb; clear hb ho54) | go_values | go_skip | go_guarded | go_step | go_upon | go_back | ((with_reducible (show Go.Oper.upon _ _ _ _ _ _)); go_simp) | (go_ite <;> go_prune <;> try go_simp))
    refine loopT_ [F,F,F,F,F,F,F,F,F,F,F,F,F,F,F,F,T,F,F,F,F,F,F,T,T,F,F,F,F,F,F,F,F,F,F,F,F,F,F,F,F,F,F,F,F,F,F,F,F,F,F,F,F,F,F,F,F,F,F,F,F,F,F,F,F,F,F,F,F,F,F,F,F,F,F,F,F,F,F,F,F,F,F,F,F,F,F,F,F,F,F,F,F,T,T,T,T,T,T,T,T,T,T,T,T,T,T,T,T,T,T,T,T,T] kj8 (fun kq_ T_ w_ => (fun kq v93 w' => ∃ (x22_2 : List Int) (x93_2 : Int), v93 = .int .i64 x93_2 ∧ Aside0 (laws_FnCommitteesChangeOfAll.l0 kq a3 a7 x22_2 l1 (l1.length : Int) x93_2 a0_0 l0_1 a2_0 l2_1 a4_0 l4_1 a5_0 l5_1 a6_0 l6_1 t106 t107 = some r) ∧ Aside0 (kq ≤ kj8) ∧ Aside0 (Kd.R (Kd.int .i64) 3 w' w.heap.size (fun k_ => nb (.slice Ao36 t107.length co36) k_) v120 x22_2) ∧ Aside0 (Kd.R (Kd.int .i64) 3 w' w.heap.size (fun k_ => nb v120 k_) (.slice Ao36 t107.length co36) t107) ∧ Aside0 (w'.heap[gb101]? = some (.cells #[.int .i64 a0_0, (.slice A0_1 l0_1.length c0_1)] 24 (0, 0))) ∧ Aside0 (w'.heap[gb102]? = some (.cells #[.int .i64 a2_0, (.slice A2_1 l2_1.length c2_1)] 24 (0, 0))) ∧ Aside0 (w'.heap[gb103]? = some (.cells #[.int .i64 a4_0, (.slice A4_1 l4_1.length c4_1)] 24 (0, 0))) ∧ Aside0 (w'.heap[gb104]? = some (.cells #[.int .i64 a5_0, (.slice A5_1 l5_1.length c5_1)] 24 (0, 0))) ∧ Aside0 (w'.heap[gb105]? = some (.cells #[.int .i64 a6_0, (.slice A6_1 l6_1.length c6_1)] 24 (0, 0))) ∧ Aside0 (w'.heap[gb111]? = some (.cells #[.int .i64 t106, (.slice Ao36 t107.length co36)] 24 (0, 0))) ∧ Aside0 (Below w.heap.size w w')) kq_ (T_ 93) w_) (by kernel_rfl) ?atStart ?round
    case atStart => exact ⟨(y119), (0), gR, H', ⟨Nat.le_refl _⟩, ⟨by exact Kd.R_mono HO121.out (fun _ hk => by first | exact hk.1.2 | simp_all)⟩, ⟨by exact Kd.R_mono HO109.out (fun _ hk => by first | exact hk.2 | simp_all)⟩, ⟨by exact BK101.out⟩, ⟨by exact BK102.out⟩, ⟨by exact BK103.out⟩, ⟨by exact BK104.out⟩, ⟨by exact BK105.out⟩, ⟨by exact BK111.out⟩, ⟨wB⟩⟩
    case round => as_aux_lemma =>
     intro gk T_ wr hrel J_ K_ hJ_l0 hM_
     simp only [putT, putM, T, F, Nat.reduceAdd]
     (try dsimp only at hrel)
     generalize T_ 93 = u93 at hrel ⊢
     clear H'
     (try clear c1); (try clear c2); (try clear p2); (try clear c3); (try clear c4); (try clear c5); (try clear c6); (try clear c15); (try clear c15b0); (try clear c15b1); (try clear c16); (try clear c19); (try clear c21); (try clear c23); (try clear c24); (try clear c25); (try clear c26); (try clear c30); (try clear c31); (try clear c32); (try clear c33); (try clear c34); (try clear c40); (try clear c41); (try clear c42); (try clear c43); (try clear c44); (try clear c45); (try clear c50); (try clear c51); (try clear c51b0); (try clear c51b1); (try clear c52); (try clear c52b0); (try clear c52b1); (try clear hcz46_0); (try clear hcz46_1); (try clear hcz48_0); (try clear hcz48_1); (try clear hfz46_0); (try clear hfz46_1); (try clear hfz48_0); (try clear hfz48_1); (try clear p2)
     obtain ⟨x22_2, x93_2, rfl, HA, HK2, HO_22, HO_112001, BK101, BK102, BK103, BK104, BK105, BK111, HB⟩ := hrel
     cases gk with
     | zero => exact absurd HA.out (by simp [laws_FnCommitteesChangeOfAll.l0])
     | succ k2 =>
      have H := HA.out
      clear HA
      simp only [laws_FnCommitteesChangeOfAll.l0] at H
      by_cases c55 : x93_2 < (l1.length : Int)
      ·rw [if_pos c55] at H
       have c55b0 := decide_eq_true c55
       clear c55
       (first | rw [c55b0] | (simp only [i64_w, i32_w]; rw [c55b0]) | skip)
       replace H := ite_yes H
       obtain ⟨c56, H⟩ := H
       have c56b0 : decide (0 ≤ x93_2) = true := decide_eq_true c56
       clear c56
       replace H := ite_yes H
       obtain ⟨c57, H⟩ := H
       have c57b0 : decide (x93_2 < (l1.length : Int)) = true := decide_eq_true c57
       clear c57
       replace H := ite_yes H
       obtain ⟨c58, H⟩ := H
       have c58b0 : decide (0 ≤ (rd l1 x93_2)) = true := decide_eq_true c58
       clear c58
       replace H := ite_yes H
       obtain ⟨c59, H⟩ := H
       have c59b0 : decide ((rd l1 x93_2) < (x22_2.length : Int)) = true := decide_eq_true c59
       clear c59
       obtain ⟨y123, hy123⟩ : ∃ y_ : List Int, y_ = (x22_2.set ((rd l1 x93_2) : Int).toNat x93_2) := ⟨_, rfl⟩
       replace H : (if x93_2 < (t107.length : Int) then (if (rd l1 x93_2) < (l0_1.length : Int) then (if (rd t107 x93_2) = (rd l0_1 (rd l1 x93_2)) then (laws_FnCommitteesChangeOfAll.l0 k2 a3 a7 y123 l1 (l1.length : Int) (wrap64 (x93_2 + 1)) a0_0 l0_1 a2_0 l2_1 a4_0 l4_1 a5_0 l5_1 a6_0 l6_1 t106 t107) else (none)) else (none)) else (none)) = some r := by first | (rw [hy123]; with_reducible exact H) | (have H2_ := (Option.bind_some _ _).symm.trans H; rw [hy123]; with_reducible exact H2_) | (have H2_ := (Option.bind_some _ _).symm.trans H; with_reducible exact H2_) | with_reducible exact H | (rw [hy123]; exact H) | exact H
       have Ny123 := Aside0.mk hy123
       clear hy123
       replace H := ite_yes H
       obtain ⟨c61, H⟩ := H
       have c61b0 : decide (x93_2 < (t107.length : Int)) = true := decide_eq_true c61
       clear c61
       replace H := ite_yes H
       obtain ⟨c62, H⟩ := H
       have c62b0 : decide ((rd l1 x93_2) < (l0_1.length : Int)) = true := decide_eq_true c62
       clear c62
       replace H := ite_yes H
       obtain ⟨c63, H⟩ := H
       have c63b0 : ((rd t107 x93_2) == (rd l0_1 (rd l1 x93_2))) = true := beq_iff_eq.mpr c63
       have c63b1 : ((rd t107 x93_2) != (rd l0_1 (rd l1 x93_2))) = false := bne_eq_false_iff_eq.mpr c63
       clear c63
       as_aux_lemma =>
        have H' := Aside0.mk H
        clear H
        have p122 : 0 ≤ (x93_2 : Int) := oD
        have q122 : x93_2 < (l1.length : Int) := oD
        obtain ⟨ad122, e122, hx122_0⟩ := Kd.at_int HR1.out x93_2 p122 q122
        cases e122
        replace hx122_0 := (HB.out.cell (World.block_lt_of_cell? w _ hx122_0)).trans hx122_0
        replace p122 := eq_true p122
        replace q122 := eq_true q122
        have p60 : 0 ≤ ((rd l1 x93_2) : Int) := oD
        have q60 : ((rd l1 x93_2) : Int) < ((x22_2.length : Int) : Int) := oD
        obtain ⟨go60, co60, eo60, gb60, gl60, cl60, HG60⟩ := Kd.R_form HO_22.out (by omega)
        (first | cases eo60 | (injection eo60 with ea_ en_ ec_; (first | subst ea_ | (injection ea_ with ea_; subst ea_)); subst ec_; clear en_))
        have GB60 := Aside0.mk gb60
        have GG60 := Aside0.mk HG60
        clear gb60 gl60 HG60
        obtain ⟨hx60_0, hf60_0⟩ := Kd.R_celln 0 HO_22.out ((rd l1 x93_2) : Int) p60 q60
        replace p60 := eq_true p60
        replace q60 := eq_true q60
        have HP64 := Kd.R_putg HO_22.out ((rd l1 x93_2) : Int) x93_2
        try go_wp2_with (first | ((with_reducible refine gate_store (t := 3) (p := 101) rfl ?_); refine sE (t := 3) (p := 101) (w1 := (wr.setCell ⟨go60, ((rd l1 x93_2) : Int).toNat, none⟩ (.int .i64 x93_2))) ?_; intro w65 hw; have hg : wr.grownBy w65 (some go60) := (by rw [hw]; exact HP64.2); have hp_ : Kd.R (Kd.int .i64) 3 w65 w.heap.size (fun k_ => nb (.slice Ao36 t107.length co36) k_) (.slice (some ⟨go60, 0, none⟩) x22_2.length co60) y123 := (by rw [hw, Ny123.out]; exact HP64.1); clear HP64; replace HO_112001 := Aside0.mk (Kd.R_after (v := (.slice (some ⟨go60, 0, none⟩) x22_2.length co60)) (v1 := (.slice (some ⟨go60, 0, none⟩) x22_2.length co60)) (ok := (fun _ => True)) (by exact Kd.R_mono HO_112001.out (fun _ hk => ⟨trivial, hk⟩)) hg (.inl rfl)); replace BK101 := Aside0.mk (blk_grown (g := gb101) (o := .cells #[.int .i64 a0_0, .slice A0_1 l0_1.length c0_1] 24 (0, 0)) BK101.out hg (Kd.R_ne HO_22.out BK101.out (by decide))); replace BK102 := Aside0.mk (blk_grown (g := gb102) (o := .cells #[.int .i64 a2_0, .slice A2_1 l2_1.length c2_1] 24 (0, 0)) BK102.out hg (Kd.R_ne HO_22.out BK102.out (by decide))); replace BK103 := Aside0.mk (blk_grown (g := gb103) (o := .cells #[.int .i64 a4_0, .slice A4_1 l4_1.length c4_1] 24 (0, 0)) BK103.out hg (Kd.R_ne HO_22.out BK103.out (by decide))); replace BK104 := Aside0.mk (blk_grown (g := gb104) (o := .cells #[.int .i64 a5_0, .slice A5_1 l5_1.length c5_1] 24 (0, 0)) BK104.out hg (Kd.R_ne HO_22.out BK104.out (by decide))); replace BK105 := Aside0.mk (blk_grown (g := gb105) (o := .cells #[.int .i64 a6_0, .slice A6_1 l6_1.length c6_1] 24 (0, 0)) BK105.out hg (Kd.R_ne HO_22.out BK105.out (by decide))); replace BK111 := Aside0.mk (blk_grown (g := gb111) (o := .cells #[.int .i64 t106, .slice Ao36 t107.length co36] 24 (0, 0)) BK111.out hg (Kd.R_ne HO_22.out BK111.out (by decide))); replace HO_22 := Aside0.mk (hp_); replace HB := Aside0.mk ((by rw [hw]; exact below_set (HB.out) GB60.out : Below w.heap.size w w65)); clear hg hw hp_))
        replace HO_22 := rD HO_22
        replace HO_112001 := rD HO_112001
        replace BK101 := bD BK101
        replace BK102 := bD BK102
        replace BK103 := bD BK103
        replace BK104 := bD BK104
        replace BK105 := bD BK105
        replace BK111 := bD BK111
        replace HB := Aside0.mk (below_drew1 HB.out)
        have p124 : 0 ≤ (x93_2 : Int) := oD
        have q124 : x93_2 < (t107.length : Int) := oD
        obtain ⟨ad124, e124, hx124_0⟩ := Kd.at_int (Kd.R_reads' HO_112001.out).2.2 x93_2 p124 q124
        cases e124
        replace p124 := eq_true p124
        replace q124 := eq_true q124
        have p125 : 0 ≤ ((rd l1 x93_2) : Int) := oD
        have q125 : (rd l1 x93_2) < (l0_1.length : Int) := oD
        obtain ⟨ad125, e125, hx125_0⟩ := Kd.at_int HR0_1.out (rd l1 x93_2) p125 q125
        have hw125_0 := hx125_0
        cases e125
        replace hx125_0 := (HB.out.cell (World.block_lt_of_cell? w _ hx125_0)).trans hx125_0
        replace p125 := eq_true p125
        replace q125 := eq_true q125
        refine start_ (n := 11) (S := fun w' => w'.cell? ⟨gb111, 0, none⟩ = some (.int .i64 t106) ∧ w'.cell? ⟨gb111, 1, none⟩ = some (.slice (some ad124) t107.length co36) ∧ w'.cell? ⟨gb101, 0, none⟩ = some (.int .i64 a0_0) ∧ w'.cell? ⟨gb101, 1, none⟩ = some (.slice (some ad125) l0_1.length c0_1) ∧ w'.cell? (ad124.add (x93_2).toNat) = some (.int .i64 (rd t107 x93_2)) ∧ w'.cell? (ad125.add ((rd l1 x93_2)).toNat) = some (.int .i64 (rd l0_1 (rd l1 x93_2)))) (ds := []) #[F,F,F,F,F,F,F,F,F,F,F] (by kernel_rfl) rfl rfl ⟨(blk_cell BK111.out 0).trans rfl, (blk_cell BK111.out 1).trans rfl, (blk_cell BK101.out 0).trans rfl, (blk_cell BK101.out 1).trans rfl, hx124_0, ((HB.out.cell (World.block_lt_of_cell? w _ hw125_0)).trans hw125_0)⟩ (fun hHeld => ?_); refine with_tabW laws_FnCommitteesChangeOfAll.tab14 laws_FnCommitteesChangeOfAll.bits14 (fun HT_ HW_ => ?_)
        generalize w65.drew = w66 at HO_22 HO_112001 BK101 BK102 BK103 BK104 BK105 BK111 HB hx124_0 hx125_0 hHeld ⊢
        refine pU 0 HT_ ?_
        refine pU 2 HT_ ?_
        refine pU 5 HT_ ?_
        refine pU 7 HT_ ?_
        refine tK 1 HT_ HW_ hHeld (hy := by rintro w' ⟨s0, s1, s2, s3, s4, s5⟩; go_simp; with_reducible rfl) ?_
        refine pU 3 HT_ ?_
        refine tK 4 HT_ HW_ hHeld (hy := by rintro w' ⟨s0, s1, s2, s3, s4, s5⟩; go_simp; with_reducible rfl) ?_
        refine tK 6 HT_ HW_ hHeld (hy := by rintro w' ⟨s0, s1, s2, s3, s4, s5⟩; go_simp; with_reducible rfl) ?_
        refine pU 8 HT_ ?_
        refine tK 9 HT_ HW_ hHeld (hy := by rintro w' ⟨s0, s1, s2, s3, s4, s5⟩; go_simp; with_reducible rfl) ?_
        refine pU 10 HT_ ?_
        refine done_ (done_of HT_.out (by kernel_rfl)) ?_
        try go_upto_region 9999 with (first | go_values | go_skip | go_guarded | go_step | go_upon | go_back | ((with_reducible (show Go.Oper.upon _ _ _ _ _ _)); go_simp) | (go_ite <;> go_prune <;> try go_simp))
        refine roundT_ k2 ?measure hJ_l0 (by kernel_rfl) ?rel
        case measure => have := HJ8.out; have := HK2.out; omega
        case rel => exact ⟨(y123), (wrap64 (x93_2 + 1)), gR, H', ⟨by have := HJ8.out; have := HK2.out; omega⟩, ⟨by exact HO_22.out⟩, ⟨by exact Kd.R_mono HO_112001.out (fun _ hk => by first | exact hk.2 | simp_all)⟩, ⟨by exact BK101.out⟩, ⟨by exact BK102.out⟩, ⟨by exact BK103.out⟩, ⟨by exact BK104.out⟩, ⟨by exact BK105.out⟩, ⟨by exact BK111.out⟩, ⟨wB⟩⟩
      rw [if_neg c55] at H
      have c55b0 : decide (x93_2 < (l1.length : Int)) = false := decide_eq_false c55
      clear c55
      (first | rw [c55b0] | (simp only [i64_w, i32_w]; rw [c55b0]) | skip)
      replace H := oB H
      obtain ⟨⟨t126, t127, t130⟩, A670, H⟩ := H
      (try dsimp only at H)
      have A67 := Aside0.mk A670
      clear A670
      replace H := oB H
      obtain ⟨⟨t132, t133⟩, A680, H⟩ := H
      (try dsimp only at H)
      have A68 := Aside0.mk A680
      clear A680
      replace H := oB H
      obtain ⟨⟨t134, t135⟩, A690, H⟩ := H
      (try dsimp only at H)
      have A69 := Aside0.mk A690
      clear A690
      replace H := ite_yes H
      obtain ⟨c70, H⟩ := H
      subst c70
      replace H := oA H
      obtain ⟨t136, A71, H⟩ := H
      (try dsimp only at H)
      replace H := ite_yes H
      obtain ⟨c72, H⟩ := H
      subst c72
      replace H := ite_yes H
      obtain ⟨c73, H⟩ := H
      subst c73
      replace H := ite_yes H
      obtain ⟨c74, H⟩ := H
      subst c74
      replace H := ite_yes H
      obtain ⟨c75, H⟩ := H
      have c75b0 : (t132 == t134) = true := beq_iff_eq.mpr c75
      have c75b1 : (t132 != t134) = false := bne_eq_false_iff_eq.mpr c75
      clear c75
      as_aux_lemma =>
       have H' := Aside0.mk H
       clear H
       have hnb76 := NB111_101.out
       have hnc76 := NB101_111.out
       have hnb77 := NB111_102.out
       have hnc77 := NB102_111.out
       have hnb78 := NB111_103.out
       have hnc78 := NB103_111.out
       have hnb79 := NB111_104.out
       have hnc79 := NB104_111.out
       have hnb80 := NB111_105.out
       have hnc80 := NB105_111.out
       obtain ⟨hcz81_0, hcz81_1, hfz81_0, hfz81_1⟩ := zZ BK111
       obtain ⟨Ao82, co82, eo82⟩ := Kd.R_slice HO_22.out
       subst eo82
       go_upto_region 18 with (first | ((with_reducible refine gate_callee (f := 5) rfl ?_); refine gL 117 Tryz.func5 #[.agg #[.int .i64 t106, .slice Ao36 t107.length co36], .slice Ao82 x22_2.length co82] ?_; (with_reducible refine (impl_RenameCommittee.calls k2 t106 _ _ t107 _ _ x22_2 t126 t127 true _ ?side1 ?side2 ?side3 ?side4 A67.out).mono ?_); (case side1 => have hx_ := (Kd.R_reads' HO_112001.out).2.2; exact cC); (case side2 => exact (Kd.R_reads' HO_112001.out).2.1); (case side3 => have hx_ := (Kd.R_reads' HO_22.out).2.2; exact cC); (case side4 => exact (Kd.R_reads' HO_22.out).2.1); rintro e w83 ⟨v128, rfl, ho0, hb⟩; refine ⟨_, rfl, ?_⟩; have HO129 := Aside0.mk (Kd.R_lower (Kd.R_new' (Kd.R_new' ho0 (Kd.R_lt HO_22.out)) (Kd.R_lt HO_112001.out)) (below_size HB.out)); replace HO_112001 := rE HO_112001 (Kd.R_base ho0) hb; replace BK101 := bB BK101 hb; replace BK102 := bB BK102 hb; replace BK103 := bB BK103 hb; replace BK104 := bB BK104 hb; replace BK105 := bB BK105 hb; replace BK111 := bB BK111 hb; replace HB := sB HB hb; (try clear hb); (try clear ho0)) | ((with_reducible refine gate_dst (N := 25) rfl ?_); (try (refine gate_guard (by rfl) ?_; dsimp only)); refine xE (N := 25) (cs := #[.int .i64 0, .slice none 0 0]) (t := 24) ?_; intro gb131 hg w84 BK131 hb; have GE131 := gS hg HB; have NB101_131 := nL hg (blk_lt BK101.out); have NB131_101 := nG hg (blk_lt BK101.out); have NB102_131 := nL hg (blk_lt BK102.out); have NB131_102 := nG hg (blk_lt BK102.out); have NB103_131 := nL hg (blk_lt BK103.out); have NB131_103 := nG hg (blk_lt BK103.out); have NB104_131 := nL hg (blk_lt BK104.out); have NB131_104 := nG hg (blk_lt BK104.out); have NB105_131 := nL hg (blk_lt BK105.out); have NB131_105 := nG hg (blk_lt BK105.out); have NB111_131 := nL hg (blk_lt BK111.out); have NB131_111 := nG hg (blk_lt BK111.out); replace HO_112001 := rB HO_112001 hb; replace HO129 := rB HO129 hb; replace BK101 := bB BK101 hb; replace BK102 := bB BK102 hb; replace BK103 := bB BK103 hb; replace BK104 := bB BK104 hb; replace BK105 := bB BK105 hb; replace BK111 := bB BK111 hb; replace HB := sB HB hb; clear hb hg; have hnb85 := NB131_101.out; have hnc85 := NB101_131.out; have hnb86 := NB131_102.out; have hnc86 := NB102_131.out; have hnb87 := NB131_103.out; have hnc87 := NB103_131.out; have hnb88 := NB131_104.out; have hnc88 := NB104_131.out; have hnb89 := NB131_105.out; have hnc89 := NB105_131.out; have hnb90 := NB131_111.out; have hnc90 := NB111_131.out; (try clear hcz81_0 hcz81_1 hfz81_0 hfz81_1); obtain ⟨hcz91_0, hcz91_1, hfz91_0, hfz91_1⟩ := zZ BK131; obtain ⟨Ao92, co92, eo92⟩ := Kd.R_slice HO129.out; subst eo92; have hnb93 := NB101_102.out; have hnc93 := NB102_101.out; have hnb94 := NB101_103.out; have hnc94 := NB103_101.out; have hnb95 := NB101_104.out; have hnc95 := NB104_101.out; have hnb96 := NB101_105.out; have hnc96 := NB105_101.out; obtain ⟨hcz97_0, hcz97_1, hfz97_0, hfz97_1⟩ := zZ BK101) | go_values | go_skip | go_guarded | go_step | go_upon | go_back | ((with_reducible (show Go.Oper.upon _ _ _ _ _ _)); go_simp) | (go_ite <;> go_prune <;> try go_simp))
       go_upto_region 19 with (first | ((with_reducible refine gate_callee (f := 8) rfl ?_); refine gL 122 Tryz.func8 #[.agg #[.int .i64 a0_0, .slice A0_1 l0_1.length c0_1]] ?_; (with_reducible refine (impl_CountWinning.calls k2 a0_0 _ _ l0_1 t132 true _ (Kd.C_below HR0_1.out (by repeat (first | exact HB.out | apply ba | refine bs ?_ GE131.out))) HC0_1.out A68.out).mono ?_); rintro e w98 ⟨rfl, hb⟩; refine ⟨_, rfl, ?_⟩; replace HO_112001 := Aside0.mk (Kd.R_below (by exact (Kd.R_mono (Kd.R_far (p := ⟨gb131, 1, none⟩) (Kd.R_far (p := ⟨gb131, 0, none⟩) (Kd.R_types HO_112001.out BK131.out (by decide)) (fun _ hk => hk.2) (.int .i64 t126)) (fun _ hk => hk.2) (.slice Ao92 t127.length co92)) (fun _ h_ => h_.1))) hb); replace HO129 := Aside0.mk (Kd.R_below (by exact (Kd.R_mono (Kd.R_far (p := ⟨gb131, 1, none⟩) (Kd.R_far (p := ⟨gb131, 0, none⟩) (Kd.R_types HO129.out BK131.out (by decide)) (fun _ hk => hk.2) (.int .i64 t126)) (fun _ hk => hk.2) (.slice Ao92 t127.length co92)) (fun _ h_ => h_.1))) hb); replace BK101 := Aside0.mk (blk_below (g := gb101) (o := .cells #[.int .i64 a0_0, .slice A0_1 l0_1.length c0_1] 24 (0, 0)) (by refine blk_far ?_ NB101_131.out _; refine blk_far ?_ NB101_131.out _; exact BK101.out) hb); replace BK102 := Aside0.mk (blk_below (g := gb102) (o := .cells #[.int .i64 a2_0, .slice A2_1 l2_1.length c2_1] 24 (0, 0)) (by refine blk_far ?_ NB102_131.out _; refine blk_far ?_ NB102_131.out _; exact BK102.out) hb); replace BK103 := Aside0.mk (blk_below (g := gb103) (o := .cells #[.int .i64 a4_0, .slice A4_1 l4_1.length c4_1] 24 (0, 0)) (by refine blk_far ?_ NB103_131.out _; refine blk_far ?_ NB103_131.out _; exact BK103.out) hb); replace BK104 := Aside0.mk (blk_below (g := gb104) (o := .cells #[.int .i64 a5_0, .slice A5_1 l5_1.length c5_1] 24 (0, 0)) (by refine blk_far ?_ NB104_131.out _; refine blk_far ?_ NB104_131.out _; exact BK104.out) hb); replace BK105 := Aside0.mk (blk_below (g := gb105) (o := .cells #[.int .i64 a6_0, .slice A6_1 l6_1.length c6_1] 24 (0, 0)) (by refine blk_far ?_ NB105_131.out _; refine blk_far ?_ NB105_131.out _; exact BK105.out) hb); replace BK111 := Aside0.mk (blk_below (g := gb111) (o := .cells #[.int .i64 t106, .slice Ao36 t107.length co36] 24 (0, 0)) (by refine blk_far ?_ NB111_131.out _; refine blk_far ?_ NB111_131.out _; exact BK111.out) hb); replace BK131 := Aside0.mk (blk_below (g := gb131) (o := .cells #[.int .i64 t126, .slice Ao92 t127.length co92] 24 (0, 0)) (by refine blk_put (cs := #[.int .i64 t126, .slice none 0 0]) ?_ 1 _ rfl; refine blk_put (cs := #[.int .i64 0, .slice none 0 0]) ?_ 0 _ rfl; exact BK131.out) hb); replace HB := Aside0.mk (below_step (by repeat (first | exact HB.out | apply ba | refine bs ?_ GE131.out)) hb); (try clear hb); (try clear hcz91_0 hcz91_1 hfz91_0 hfz91_1 hcz97_0 hcz97_1 hfz97_0 hfz97_1); obtain ⟨hcz99_0, hcz99_1, hfz99_0, hfz99_1⟩ := zZ BK111) | go_values | go_skip | go_guarded | go_step | go_upon | go_back | ((with_reducible (show Go.Oper.upon _ _ _ _ _ _)); go_simp) | (go_ite <;> go_prune <;> try go_simp))
       go_upto_region 20 with (first | ((with_reducible refine gate_callee (f := 8) rfl ?_); refine gL 127 Tryz.func8 #[.agg #[.int .i64 t106, .slice Ao36 t107.length co36]] ?_; (with_reducible refine (impl_CountWinning.calls k2 t106 _ _ t107 t134 true _ ?side1 ?side2 A69.out).mono ?_); (case side1 => have hx_ := (Kd.R_reads' HO_112001.out).2.2; exact cC); (case side2 => exact (Kd.R_reads' HO_112001.out).2.1); rintro e w100 ⟨rfl, hb⟩; refine ⟨_, rfl, ?_⟩; replace HO129 := rB HO129 hb; replace BK101 := bB BK101 hb; replace BK102 := bB BK102 hb; replace BK103 := bB BK103 hb; replace BK104 := bB BK104 hb; replace BK105 := bB BK105 hb; replace BK131 := bB BK131 hb; replace HB := sB HB hb; (try clear hb); (try clear hcz99_0 hcz99_1 hfz99_0 hfz99_1); obtain ⟨hcz101_0, hcz101_1, hfz101_0, hfz101_1⟩ := zZ BK131; obtain ⟨hcz102_0, hcz102_1, hfz102_0, hfz102_1⟩ := zZ BK101) | go_values | go_skip | go_guarded | go_step | go_upon | go_back | ((with_reducible (show Go.Oper.upon _ _ _ _ _ _)); go_simp) | (go_ite <;> go_prune <;> try go_simp))
       go_upto_region 9999 with (first | (go_at_call 7; (with_reducible refine (laws_mCommittee.calls k2 t126 _ _ t127 a0_0 _ _ l0_1 true _ ?side1 ?side2 ?side3 ?side4 A71.out).mono ?_); (case side1 => have hx_ := (Kd.R_reads' HO129.out).2.2; exact cC); (case side2 => exact (Kd.R_reads' HO129.out).2.1); (case side3 => have hx_ := (Kd.C_below HR0_1.out HB.out); exact cC); (case side4 => exact HC0_1.out); rintro e w103 ⟨rfl, hb⟩; replace BK102 := bB BK102 hb; replace BK103 := bB BK103 hb; replace BK104 := bB BK104 hb; replace BK105 := bB BK105 hb; replace HB := sB HB hb; (try clear hb)) | go_values | go_skip | go_guarded | go_step | go_upon | go_back | ((with_reducible (show Go.Oper.upon _ _ _ _ _ _)); go_simp) | (go_ite <;> go_prune <;> try go_simp))
       refine meetT_ hJ_j2 (by kernel_rfl) ?rel
       case rel => exact ⟨_, H', ⟨by have := HJ8.out; have := HK2.out; first | omega | exact Nat.le_refl _⟩, ⟨by exact BK102.out⟩, ⟨by exact BK103.out⟩, ⟨by exact BK104.out⟩, ⟨by exact BK105.out⟩, ⟨wB⟩⟩
   case restj2 => as_aux_lemma =>
    intro T_ wc hcut
    simp only [putT, putM, T, F, Nat.reduceAdd]
    (try dsimp only at hcut)
    clear HC22
    (try clear c1); (try clear p1); (try clear q1); (try clear hx1); (try clear c2); (try clear p2); (try clear c3); (try clear c4); (try clear c5); (try clear c6); (try clear p6); (try clear q6); (try clear hx6); (try clear c7); (try clear c8); (try clear c9); (try clear p12); (try clear q12); (try clear hx12); (try clear c15); (try clear c15b0); (try clear c15b1); (try clear c16); (try clear c19); (try clear c21); (try clear c23); (try clear c24); (try clear c25); (try clear c26); (try clear c30); (try clear c31); (try clear c32); (try clear c33); (try clear c34); (try clear c40); (try clear c41); (try clear c42); (try clear c43); (try clear c44); (try clear c45); (try clear c50); (try clear c51); (try clear c51b0); (try clear c51b1); (try clear c52); (try clear c52b0); (try clear c52b1); (try clear c55); (try clear c55b0); (try clear c56); (try clear c56b0); (try clear c57); (try clear c57b0); (try clear c58); (try clear c58b0); (try clear c59); (try clear c59b0); (try clear p60); (try clear q60); (try clear hx60); (try clear hf60); (try clear c61); (try clear c61b0); (try clear c62); (try clear c62b0); (try clear c63); (try clear c63b0); (try clear c63b1); (try clear p64); (try clear c70); (try clear c72); (try clear c73); (try clear c74); (try clear c75); (try clear c75b0); (try clear c75b1); (try clear c76); (try clear c77); (try clear c78); (try clear c79); (try clear c80); (try clear c85); (try clear c86); (try clear c87); (try clear c88); (try clear c89); (try clear c90); (try clear c93); (try clear c94); (try clear c95); (try clear c96); (try clear hcz101_0); (try clear hcz101_1); (try clear hcz102_0); (try clear hcz102_1); (try clear hcz46_0); (try clear hcz46_1); (try clear hcz48_0); (try clear hcz48_1); (try clear hfz101_0); (try clear hfz101_1); (try clear hfz102_0); (try clear hfz102_1); (try clear hfz46_0); (try clear hfz46_1); (try clear hfz48_0); (try clear hfz48_1); (try clear hx122_0); (try clear hx124_0); (try clear hx125_0); (try clear hx60_0); (try clear p122); (try clear p124); (try clear p125); (try clear p2); (try clear p60); (try clear q122); (try clear q124); (try clear q125); (try clear q60)
    obtain ⟨kq, HA, HJ21, BK102, BK103, BK104, BK105, HB⟩ := hcut
    cases kq with
    | zero => exact absurd HA.out (by simp [laws_FnCommitteesChangeOfAll.j2])
    | succ kj21 =>
     have H := HA.out
     clear HA
     simp only [laws_FnCommitteesChangeOfAll.j2] at H
     replace H := oB H
     obtain ⟨⟨t137, t138, t141⟩, A1040, H⟩ := H
     (try dsimp only at H)
     have A104 := Aside0.mk A1040
     clear A1040
     replace H := oB H
     obtain ⟨⟨t143, t144, t147⟩, A1050, H⟩ := H
     (try dsimp only at H)
     have A105 := Aside0.mk A1050
     clear A1050
     replace H := oB H
     obtain ⟨⟨t149, t150⟩, A1060, H⟩ := H
     (try dsimp only at H)
     have A106 := Aside0.mk A1060
     clear A1060
     replace H := oB H
     obtain ⟨⟨t151, t152⟩, A1070, H⟩ := H
     (try dsimp only at H)
     have A107 := Aside0.mk A1070
     clear A1070
     replace H := oB H
     obtain ⟨⟨t153, t154⟩, A1080, H⟩ := H
     (try dsimp only at H)
     have A108 := Aside0.mk A1080
     clear A1080
     replace H := oB H
     obtain ⟨⟨t155, t156⟩, A1090, H⟩ := H
     (try dsimp only at H)
     have A109 := Aside0.mk A1090
     clear A1090
     replace H := oB H
     obtain ⟨⟨t157, t158, t161⟩, A1100, H⟩ := H
     (try dsimp only at H)
     have A110 := Aside0.mk A1100
     clear A1100
     replace H := oB H
     obtain ⟨⟨t163, t164, t167⟩, A1110, H⟩ := H
     (try dsimp only at H)
     have A111 := Aside0.mk A1110
     clear A1110
     replace H := ite_no H
     obtain ⟨c112, H⟩ := H
     replace c112 := of_nbne c112
     subst t141
     replace H := oA H
     obtain ⟨t169, A113, H⟩ := H
     (try dsimp only at H)
     replace H := ite_yes H
     obtain ⟨c114, H⟩ := H
     subst c114
     replace H := ite_no H
     obtain ⟨c115, H⟩ := H
     replace c115 := of_nbne c115
     subst t150
     replace H := ite_no H
     obtain ⟨c116, H⟩ := H
     replace c116 := of_nbne c116
     subst t149
     replace H := ite_no H
     obtain ⟨c117, H⟩ := H
     replace c117 := of_nbne c117
     subst t154
     replace H := ite_yes H
     obtain ⟨c118, H⟩ := H
     have c118b0 : (t153.toList == t155.toList) = true := beq_iff_eq.mpr c118
     have c118b1 : (t153.toList != t155.toList) = false := bne_eq_false_iff_eq.mpr c118
     clear c118
     replace H := ite_no H
     obtain ⟨c119, H⟩ := H
     replace c119 := of_nbne c119
     subst t161
     replace H := oA H
     obtain ⟨t170, A120, H⟩ := H
     (try dsimp only at H)
     replace H := ite_yes H
     obtain ⟨c121, H⟩ := H
     subst c121
     replace H := oA H
     obtain ⟨t171, A122, H⟩ := H
     (try dsimp only at H)
     replace H := ite_no H
     obtain ⟨c123, H⟩ := H
     replace c123 := of_nbne c123
     subst t156
     have HC124 := Aside0.mk H
     clear H
     have hnb125 := NB102_103.out
     have hnc125 := NB103_102.out
     have hnb126 := NB102_104.out
     have hnc126 := NB104_102.out
     have hnb127 := NB102_105.out
     have hnc127 := NB105_102.out
     obtain ⟨hcz128_0, hcz128_1, hfz128_0, hfz128_1⟩ := zZ BK102
     go_upto_region 23 with (first | ((with_reducible refine gate_callee (f := 9) rfl ?_); refine gL 154 Tryz.func9 #[.agg #[.int .i64 a2_0, .slice A2_1 l2_1.length c2_1], .int .i64 a3] ?_; (with_reducible refine (impl_DropMember.calls kj21 a2_0 _ _ l2_1 a3 t137 t138 t147 _ (Kd.C_below HR2_1.out HB.out) HC2_1.out A104.out).mono ?_); rintro e w129 ⟨v139, rfl, ho0, hb⟩; refine ⟨_, rfl, ?_⟩; have HO140 := Aside0.mk (Kd.R_lower ho0 (below_size HB.out)); replace BK102 := bB BK102 hb; replace BK103 := bB BK103 hb; replace BK104 := bB BK104 hb; replace BK105 := bB BK105 hb; replace HB := sB HB hb; (try clear hb); (try clear ho0)) | ((with_reducible refine gate_dst (N := 31) rfl ?_); (try (refine gate_guard (by rfl) ?_; dsimp only)); refine xE (N := 31) (cs := #[.int .i64 0, .slice none 0 0]) (t := 24) ?_; intro gb142 hg w130 BK142 hb; have GE142 := gS hg HB; have NB102_142 := nL hg (blk_lt BK102.out); have NB142_102 := nG hg (blk_lt BK102.out); have NB103_142 := nL hg (blk_lt BK103.out); have NB142_103 := nG hg (blk_lt BK103.out); have NB104_142 := nL hg (blk_lt BK104.out); have NB142_104 := nG hg (blk_lt BK104.out); have NB105_142 := nL hg (blk_lt BK105.out); have NB142_105 := nG hg (blk_lt BK105.out); replace HO140 := rB HO140 hb; replace BK102 := bB BK102 hb; replace BK103 := bB BK103 hb; replace BK104 := bB BK104 hb; replace BK105 := bB BK105 hb; replace HB := sB HB hb; clear hb hg; have hnb131 := NB142_102.out; have hnc131 := NB102_142.out; have hnb132 := NB142_103.out; have hnc132 := NB103_142.out; have hnb133 := NB142_104.out; have hnc133 := NB104_142.out; have hnb134 := NB142_105.out; have hnc134 := NB105_142.out; (try clear hcz128_0 hcz128_1 hfz128_0 hfz128_1); obtain ⟨hcz135_0, hcz135_1, hfz135_0, hfz135_1⟩ := zZ BK142; obtain ⟨Ao136, co136, eo136⟩ := Kd.R_slice HO140.out; subst eo136; obtain ⟨hcz137_0, hcz137_1, hfz137_0, hfz137_1⟩ := zZ BK102) | go_values | go_skip | go_guarded | go_step | go_upon | go_back | ((with_reducible (show Go.Oper.upon _ _ _ _ _ _)); go_simp) | (go_ite <;> go_prune <;> try go_simp))
     go_upto_region 24 with (first | ((with_reducible refine gate_callee (f := 10) rfl ?_); refine gL 160 Tryz.func10 #[.agg #[.int .i64 a2_0, .slice A2_1 l2_1.length c2_1], .int .i64 a3] ?_; (with_reducible refine (spec_DropMember.calls kj21 a2_0 _ _ l2_1 a3 t143 t144 t147 _ (Kd.C_below HR2_1.out (by repeat (first | exact HB.out | apply ba | refine bs ?_ GE142.out))) HC2_1.out A105.out).mono ?_); rintro e w138 ⟨v145, rfl, ho0, hb⟩; refine ⟨_, rfl, ?_⟩; have HO146 := Aside0.mk (Kd.R_lower (Kd.R_new' ho0 (Kd.R_lt (by exact (Kd.R_mono (Kd.R_far (p := ⟨gb142, 1, none⟩) (Kd.R_far (p := ⟨gb142, 0, none⟩) (Kd.R_types HO140.out BK142.out (by decide)) (fun _ hk => hk.2) (.int .i64 t137)) (fun _ hk => hk.2) (.slice Ao136 t138.length co136)) (fun _ h_ => h_.1))))) (below_size (by repeat (first | exact HB.out | apply ba | refine bs ?_ GE142.out)))); replace HO140 := Aside0.mk (Kd.R_elder' (by exact (Kd.R_mono (Kd.R_far (p := ⟨gb142, 1, none⟩) (Kd.R_far (p := ⟨gb142, 0, none⟩) (Kd.R_types HO140.out BK142.out (by decide)) (fun _ hk => hk.2) (.int .i64 t137)) (fun _ hk => hk.2) (.slice Ao136 t138.length co136)) (fun _ h_ => h_.1))) (Kd.R_base ho0) hb); replace BK102 := Aside0.mk (blk_below (g := gb102) (o := .cells #[.int .i64 a2_0, .slice A2_1 l2_1.length c2_1] 24 (0, 0)) (by refine blk_far ?_ NB102_142.out _; refine blk_far ?_ NB102_142.out _; exact BK102.out) hb); replace BK103 := Aside0.mk (blk_below (g := gb103) (o := .cells #[.int .i64 a4_0, .slice A4_1 l4_1.length c4_1] 24 (0, 0)) (by refine blk_far ?_ NB103_142.out _; refine blk_far ?_ NB103_142.out _; exact BK103.out) hb); replace BK104 := Aside0.mk (blk_below (g := gb104) (o := .cells #[.int .i64 a5_0, .slice A5_1 l5_1.length c5_1] 24 (0, 0)) (by refine blk_far ?_ NB104_142.out _; refine blk_far ?_ NB104_142.out _; exact BK104.out) hb); replace BK105 := Aside0.mk (blk_below (g := gb105) (o := .cells #[.int .i64 a6_0, .slice A6_1 l6_1.length c6_1] 24 (0, 0)) (by refine blk_far ?_ NB105_142.out _; refine blk_far ?_ NB105_142.out _; exact BK105.out) hb); replace BK142 := Aside0.mk (blk_below (g := gb142) (o := .cells #[.int .i64 t137, .slice Ao136 t138.length co136] 24 (0, 0)) (by refine blk_put (cs := #[.int .i64 t137, .slice none 0 0]) ?_ 1 _ rfl; refine blk_put (cs := #[.int .i64 0, .slice none 0 0]) ?_ 0 _ rfl; exact BK142.out) hb); replace HB := Aside0.mk (below_step (by repeat (first | exact HB.out | apply ba | refine bs ?_ GE142.out)) hb); (try clear hb); (try clear ho0)) | ((with_reducible refine gate_dst (N := 33) rfl ?_); (try (refine gate_guard (by rfl) ?_; dsimp only)); refine xE (N := 33) (cs := #[.int .i64 0, .slice none 0 0]) (t := 24) ?_; intro gb148 hg w139 BK148 hb; have GE148 := gS hg HB; have NB102_148 := nL hg (blk_lt BK102.out); have NB148_102 := nG hg (blk_lt BK102.out); have NB103_148 := nL hg (blk_lt BK103.out); have NB148_103 := nG hg (blk_lt BK103.out); have NB104_148 := nL hg (blk_lt BK104.out); have NB148_104 := nG hg (blk_lt BK104.out); have NB105_148 := nL hg (blk_lt BK105.out); have NB148_105 := nG hg (blk_lt BK105.out); have NB142_148 := nL hg (blk_lt BK142.out); have NB148_142 := nG hg (blk_lt BK142.out); replace HO140 := rB HO140 hb; replace HO146 := rB HO146 hb; replace BK102 := bB BK102 hb; replace BK103 := bB BK103 hb; replace BK104 := bB BK104 hb; replace BK105 := bB BK105 hb; replace BK142 := bB BK142 hb; replace HB := sB HB hb; clear hb hg; have hnb140 := NB148_102.out; have hnc140 := NB102_148.out; have hnb141 := NB148_103.out; have hnc141 := NB103_148.out; have hnb142 := NB148_104.out; have hnc142 := NB104_148.out; have hnb143 := NB148_105.out; have hnc143 := NB105_148.out; have hnb144 := NB148_142.out; have hnc144 := NB142_148.out; (try clear hcz135_0 hcz135_1 hfz135_0 hfz135_1 hcz137_0 hcz137_1 hfz137_0 hfz137_1); obtain ⟨hcz145_0, hcz145_1, hfz145_0, hfz145_1⟩ := zZ BK148; obtain ⟨Ao146, co146, eo146⟩ := Kd.R_slice HO146.out; subst eo146; have hnb147 := NB103_104.out; have hnc147 := NB104_103.out; have hnb148 := NB103_105.out; have hnc148 := NB105_103.out; obtain ⟨hcz149_0, hcz149_1, hfz149_0, hfz149_1⟩ := zZ BK103; have hnb150 := NB104_105.out; have hnc150 := NB105_104.out; obtain ⟨hcz151_0, hcz151_1, hfz151_0, hfz151_1⟩ := zZ BK104) | go_values | go_skip | go_guarded | go_step | go_upon | go_back | ((with_reducible (show Go.Oper.upon _ _ _ _ _ _)); go_simp) | (go_ite <;> go_prune <;> try go_simp))
     go_upto_region 25 with (first | ((with_reducible refine gate_callee (f := 11) rfl ?_); refine gL 166 Tryz.func11 #[.agg #[.int .i64 a4_0, .slice A4_1 l4_1.length c4_1], .agg #[.int .i64 a5_0, .slice A5_1 l5_1.length c5_1]] ?_; (with_reducible refine (impl_AreSameVotes.calls kj21 a4_0 _ _ l4_1 a5_0 _ _ l5_1 t151 t152 _ (Kd.C_below HR4_1.out (by repeat (first | exact HB.out | apply ba | refine bs ?_ GE148.out))) HC4_1.out (Kd.C_below HR5_1.out (by repeat (first | exact HB.out | apply ba | refine bs ?_ GE148.out))) HC5_1.out A106.out).mono ?_); rintro e w152 ⟨rfl, hb⟩; refine ⟨_, rfl, ?_⟩; replace HO140 := Aside0.mk (Kd.R_below (by exact (Kd.R_mono (Kd.R_far (p := ⟨gb148, 1, none⟩) (Kd.R_far (p := ⟨gb148, 0, none⟩) (Kd.R_types HO140.out BK148.out (by decide)) (fun _ hk => hk.2) (.int .i64 t143)) (fun _ hk => hk.2) (.slice Ao146 t144.length co146)) (fun _ h_ => h_.1))) hb); replace HO146 := Aside0.mk (Kd.R_below (by exact (Kd.R_mono (Kd.R_far (p := ⟨gb148, 1, none⟩) (Kd.R_far (p := ⟨gb148, 0, none⟩) (Kd.R_types HO146.out BK148.out (by decide)) (fun _ hk => hk.2) (.int .i64 t143)) (fun _ hk => hk.2) (.slice Ao146 t144.length co146)) (fun _ h_ => h_.1))) hb); replace BK102 := Aside0.mk (blk_below (g := gb102) (o := .cells #[.int .i64 a2_0, .slice A2_1 l2_1.length c2_1] 24 (0, 0)) (by refine blk_far ?_ NB102_148.out _; refine blk_far ?_ NB102_148.out _; exact BK102.out) hb); replace BK103 := Aside0.mk (blk_below (g := gb103) (o := .cells #[.int .i64 a4_0, .slice A4_1 l4_1.length c4_1] 24 (0, 0)) (by refine blk_far ?_ NB103_148.out _; refine blk_far ?_ NB103_148.out _; exact BK103.out) hb); replace BK104 := Aside0.mk (blk_below (g := gb104) (o := .cells #[.int .i64 a5_0, .slice A5_1 l5_1.length c5_1] 24 (0, 0)) (by refine blk_far ?_ NB104_148.out _; refine blk_far ?_ NB104_148.out _; exact BK104.out) hb); replace BK105 := Aside0.mk (blk_below (g := gb105) (o := .cells #[.int .i64 a6_0, .slice A6_1 l6_1.length c6_1] 24 (0, 0)) (by refine blk_far ?_ NB105_148.out _; refine blk_far ?_ NB105_148.out _; exact BK105.out) hb); replace BK142 := Aside0.mk (blk_below (g := gb142) (o := .cells #[.int .i64 t137, .slice Ao136 t138.length co136] 24 (0, 0)) (by refine blk_far ?_ NB142_148.out _; refine blk_far ?_ NB142_148.out _; exact BK142.out) hb); replace BK148 := Aside0.mk (blk_below (g := gb148) (o := .cells #[.int .i64 t143, .slice Ao146 t144.length co146] 24 (0, 0)) (by refine blk_put (cs := #[.int .i64 t143, .slice none 0 0]) ?_ 1 _ rfl; refine blk_put (cs := #[.int .i64 0, .slice none 0 0]) ?_ 0 _ rfl; exact BK148.out) hb); replace HB := Aside0.mk (below_step (by repeat (first | exact HB.out | apply ba | refine bs ?_ GE148.out)) hb); (try clear hb); (try clear hcz145_0 hcz145_1 hfz145_0 hfz145_1 hcz149_0 hcz149_1 hfz149_0 hfz149_1 hcz151_0 hcz151_1 hfz151_0 hfz151_1); obtain ⟨hcz153_0, hcz153_1, hfz153_0, hfz153_1⟩ := zZ BK103; obtain ⟨hcz154_0, hcz154_1, hfz154_0, hfz154_1⟩ := zZ BK104) | go_values | go_skip | go_guarded | go_step | go_upon | go_back | ((with_reducible (show Go.Oper.upon _ _ _ _ _ _)); go_simp) | (go_ite <;> go_prune <;> try go_simp))
     go_upto_region 26 with (first | ((with_reducible refine gate_callee (f := 12) rfl ?_); refine gL 172 Tryz.func12 #[.agg #[.int .i64 a4_0, .slice A4_1 l4_1.length c4_1], .agg #[.int .i64 a5_0, .slice A5_1 l5_1.length c5_1]] ?_; (with_reducible refine (spec_AreSameVotes.calls kj21 a4_0 _ _ l4_1 a5_0 _ _ l5_1 t151 t152 _ (Kd.C_below HR4_1.out HB.out) HC4_1.out (Kd.C_below HR5_1.out HB.out) HC5_1.out A107.out).mono ?_); rintro e w155 ⟨rfl, hb⟩; refine ⟨_, rfl, ?_⟩; replace HO140 := rB HO140 hb; replace HO146 := rB HO146 hb; replace BK102 := bB BK102 hb; replace BK103 := bB BK103 hb; replace BK104 := bB BK104 hb; replace BK105 := bB BK105 hb; replace BK142 := bB BK142 hb; replace BK148 := bB BK148 hb; replace HB := sB HB hb; (try clear hb); (try clear hcz153_0 hcz153_1 hfz153_0 hfz153_1 hcz154_0 hcz154_1 hfz154_0 hfz154_1); obtain ⟨hcz156_0, hcz156_1, hfz156_0, hfz156_1⟩ := zZ BK105) | go_values | go_skip | go_guarded | go_step | go_upon | go_back | ((with_reducible (show Go.Oper.upon _ _ _ _ _ _)); go_simp) | (go_ite <;> go_prune <;> try go_simp))
     go_upto_region 27 with (first | ((with_reducible refine gate_callee (f := 13) rfl ?_); refine gL 177 Tryz.func13 #[.agg #[.int .i64 a6_0, .slice A6_1 l6_1.length c6_1]] ?_; (with_reducible refine (impl_CommitteeText.calls kj21 a6_0 _ _ l6_1 t153 t171 _ (Kd.C_below HR6_1.out HB.out) HC6_1.out A108.out (HZ.out.on HB.out)).mono ?_); rintro e w157 ⟨rfl, hb⟩; refine ⟨_, rfl, ?_⟩; replace HO140 := rB HO140 hb; replace HO146 := rB HO146 hb; replace BK102 := bB BK102 hb; replace BK103 := bB BK103 hb; replace BK104 := bB BK104 hb; replace BK105 := bB BK105 hb; replace BK142 := bB BK142 hb; replace BK148 := bB BK148 hb; replace HB := sB HB hb; (try clear hb); (try clear hcz156_0 hcz156_1 hfz156_0 hfz156_1); obtain ⟨hcz158_0, hcz158_1, hfz158_0, hfz158_1⟩ := zZ BK105) | go_values | go_skip | go_guarded | go_step | go_upon | go_back | ((with_reducible (show Go.Oper.upon _ _ _ _ _ _)); go_simp) | (go_ite <;> go_prune <;> try go_simp))
     go_upto_region 28 with (first | ((with_reducible refine gate_callee (f := 14) rfl ?_); refine gL 182 Tryz.func14 #[.agg #[.int .i64 a6_0, .slice A6_1 l6_1.length c6_1]] ?_; (with_reducible refine (spec_CommitteeText.calls kj21 a6_0 _ _ l6_1 t155 t171 _ (Kd.C_below HR6_1.out HB.out) HC6_1.out A109.out).mono ?_); rintro e w159 ⟨rfl, hb⟩; refine ⟨_, rfl, ?_⟩; replace HO140 := rB HO140 hb; replace HO146 := rB HO146 hb; replace BK102 := bB BK102 hb; replace BK103 := bB BK103 hb; replace BK104 := bB BK104 hb; replace BK105 := bB BK105 hb; replace BK142 := bB BK142 hb; replace BK148 := bB BK148 hb; replace HB := sB HB hb; (try clear hb)) | go_values | go_skip | go_guarded | go_step | go_upon | go_back | ((with_reducible (show Go.Oper.upon _ _ _ _ _ _)); go_simp) | (go_ite <;> go_prune <;> try go_simp))
     go_upto_region 29 with (first | ((with_reducible refine gate_callee (f := 15) rfl ?_); refine gL 187 Tryz.func15 #[.string a7] ?_; (with_reducible refine (impl_ParseCommittee.calls kj21 a7 t157 t158 t167 _ A110.out (HZ.out.on HB.out)).mono ?_); rintro e w160 ⟨v159, rfl, ho0, hb⟩; refine ⟨_, rfl, ?_⟩; have HO160 := Aside0.mk (Kd.R_lower (Kd.R_new' (Kd.R_new' ho0 (Kd.R_lt HO140.out)) (Kd.R_lt HO146.out)) (below_size HB.out)); replace HO140 := rE HO140 (Kd.R_base ho0) hb; replace HO146 := rE HO146 (Kd.R_base ho0) hb; replace BK102 := bB BK102 hb; replace BK103 := bB BK103 hb; replace BK104 := bB BK104 hb; replace BK105 := bB BK105 hb; replace BK142 := bB BK142 hb; replace BK148 := bB BK148 hb; replace HB := sB HB hb; (try clear hb); (try clear ho0)) | ((with_reducible refine gate_dst (N := 43) rfl ?_); (try (refine gate_guard (by rfl) ?_; dsimp only)); refine xE (N := 43) (cs := #[.int .i64 0, .slice none 0 0]) (t := 24) ?_; intro gb162 hg w161 BK162 hb; have GE162 := gS hg HB; have NB102_162 := nL hg (blk_lt BK102.out); have NB162_102 := nG hg (blk_lt BK102.out); have NB103_162 := nL hg (blk_lt BK103.out); have NB162_103 := nG hg (blk_lt BK103.out); have NB104_162 := nL hg (blk_lt BK104.out); have NB162_104 := nG hg (blk_lt BK104.out); have NB105_162 := nL hg (blk_lt BK105.out); have NB162_105 := nG hg (blk_lt BK105.out); have NB142_162 := nL hg (blk_lt BK142.out); have NB162_142 := nG hg (blk_lt BK142.out); have NB148_162 := nL hg (blk_lt BK148.out); have NB162_148 := nG hg (blk_lt BK148.out); replace HO140 := rB HO140 hb; replace HO146 := rB HO146 hb; replace HO160 := rB HO160 hb; replace BK102 := bB BK102 hb; replace BK103 := bB BK103 hb; replace BK104 := bB BK104 hb; replace BK105 := bB BK105 hb; replace BK142 := bB BK142 hb; replace BK148 := bB BK148 hb; replace HB := sB HB hb; clear hb hg; have hnb162 := NB162_102.out; have hnc162 := NB102_162.out; have hnb163 := NB162_103.out; have hnc163 := NB103_162.out; have hnb164 := NB162_104.out; have hnc164 := NB104_162.out; have hnb165 := NB162_105.out; have hnc165 := NB105_162.out; have hnb166 := NB162_142.out; have hnc166 := NB142_162.out; have hnb167 := NB162_148.out; have hnc167 := NB148_162.out; (try clear hcz158_0 hcz158_1 hfz158_0 hfz158_1); obtain ⟨hcz168_0, hcz168_1, hfz168_0, hfz168_1⟩ := zZ BK162; obtain ⟨Ao169, co169, eo169⟩ := Kd.R_slice HO160.out; subst eo169) | go_values | go_skip | go_guarded | go_step | go_upon | go_back | ((with_reducible (show Go.Oper.upon _ _ _ _ _ _)); go_simp) | (go_ite <;> go_prune <;> try go_simp))
     go_upto_region 30 with (first | ((with_reducible refine gate_callee (f := 16) rfl ?_); refine gL 192 Tryz.func16 #[.string a7] ?_; (with_reducible refine (spec_ParseCommittee.calls kj21 a7 t163 t164 t167 _ A111.out).mono ?_); rintro e w170 ⟨v165, rfl, ho0, hb⟩; refine ⟨_, rfl, ?_⟩; have HO166 := Aside0.mk (Kd.R_lower (Kd.R_new' (Kd.R_new' (Kd.R_new' ho0 (Kd.R_lt (by exact (Kd.R_mono (Kd.R_far (p := ⟨gb162, 1, none⟩) (Kd.R_far (p := ⟨gb162, 0, none⟩) (Kd.R_types HO140.out BK162.out (by decide)) (fun _ hk => hk.2) (.int .i64 t157)) (fun _ hk => hk.2) (.slice Ao169 t158.length co169)) (fun _ h_ => h_.1))))) (Kd.R_lt (by exact (Kd.R_mono (Kd.R_far (p := ⟨gb162, 1, none⟩) (Kd.R_far (p := ⟨gb162, 0, none⟩) (Kd.R_types HO146.out BK162.out (by decide)) (fun _ hk => hk.2) (.int .i64 t157)) (fun _ hk => hk.2) (.slice Ao169 t158.length co169)) (fun _ h_ => h_.1))))) (Kd.R_lt (by exact (Kd.R_mono (Kd.R_far (p := ⟨gb162, 1, none⟩) (Kd.R_far (p := ⟨gb162, 0, none⟩) (Kd.R_types HO160.out BK162.out (by decide)) (fun _ hk => hk.2) (.int .i64 t157)) (fun _ hk => hk.2) (.slice Ao169 t158.length co169)) (fun _ h_ => h_.1))))) (below_size (by repeat (first | exact HB.out | apply ba | refine bs ?_ GE162.out)))); replace HO140 := Aside0.mk (Kd.R_elder' (by exact (Kd.R_mono (Kd.R_far (p := ⟨gb162, 1, none⟩) (Kd.R_far (p := ⟨gb162, 0, none⟩) (Kd.R_types HO140.out BK162.out (by decide)) (fun _ hk => hk.2) (.int .i64 t157)) (fun _ hk => hk.2) (.slice Ao169 t158.length co169)) (fun _ h_ => h_.1))) (Kd.R_base ho0) hb); replace HO146 := Aside0.mk (Kd.R_elder' (by exact (Kd.R_mono (Kd.R_far (p := ⟨gb162, 1, none⟩) (Kd.R_far (p := ⟨gb162, 0, none⟩) (Kd.R_types HO146.out BK162.out (by decide)) (fun _ hk => hk.2) (.int .i64 t157)) (fun _ hk => hk.2) (.slice Ao169 t158.length co169)) (fun _ h_ => h_.1))) (Kd.R_base ho0) hb); replace HO160 := Aside0.mk (Kd.R_elder' (by exact (Kd.R_mono (Kd.R_far (p := ⟨gb162, 1, none⟩) (Kd.R_far (p := ⟨gb162, 0, none⟩) (Kd.R_types HO160.out BK162.out (by decide)) (fun _ hk => hk.2) (.int .i64 t157)) (fun _ hk => hk.2) (.slice Ao169 t158.length co169)) (fun _ h_ => h_.1))) (Kd.R_base ho0) hb); replace BK102 := Aside0.mk (blk_below (g := gb102) (o := .cells #[.int .i64 a2_0, .slice A2_1 l2_1.length c2_1] 24 (0, 0)) (by refine blk_far ?_ NB102_162.out _; refine blk_far ?_ NB102_162.out _; exact BK102.out) hb); replace BK103 := Aside0.mk (blk_below (g := gb103) (o := .cells #[.int .i64 a4_0, .slice A4_1 l4_1.length c4_1] 24 (0, 0)) (by refine blk_far ?_ NB103_162.out _; refine blk_far ?_ NB103_162.out _; exact BK103.out) hb); replace BK104 := Aside0.mk (blk_below (g := gb104) (o := .cells #[.int .i64 a5_0, .slice A5_1 l5_1.length c5_1] 24 (0, 0)) (by refine blk_far ?_ NB104_162.out _; refine blk_far ?_ NB104_162.out _; exact BK104.out) hb); replace BK105 := Aside0.mk (blk_below (g := gb105) (o := .cells #[.int .i64 a6_0, .slice A6_1 l6_1.length c6_1] 24 (0, 0)) (by refine blk_far ?_ NB105_162.out _; refine blk_far ?_ NB105_162.out _; exact BK105.out) hb); replace BK142 := Aside0.mk (blk_below (g := gb142) (o := .cells #[.int .i64 t137, .slice Ao136 t138.length co136] 24 (0, 0)) (by refine blk_far ?_ NB142_162.out _; refine blk_far ?_ NB142_162.out _; exact BK142.out) hb); replace BK148 := Aside0.mk (blk_below (g := gb148) (o := .cells #[.int .i64 t143, .slice Ao146 t144.length co146] 24 (0, 0)) (by refine blk_far ?_ NB148_162.out _; refine blk_far ?_ NB148_162.out _; exact BK148.out) hb); replace BK162 := Aside0.mk (blk_below (g := gb162) (o := .cells #[.int .i64 t157, .slice Ao169 t158.length co169] 24 (0, 0)) (by refine blk_put (cs := #[.int .i64 t157, .slice none 0 0]) ?_ 1 _ rfl; refine blk_put (cs := #[.int .i64 0, .slice none 0 0]) ?_ 0 _ rfl; exact BK162.out) hb); replace HB := Aside0.mk (below_step (by repeat (first | exact HB.out | apply ba | refine bs ?_ GE162.out)) hb); (try clear hb); (try clear ho0)) | ((with_reducible refine gate_dst (N := 45) rfl ?_); (try (refine gate_guard (by rfl) ?_; dsimp only)); refine xE (N := 45) (cs := #[.int .i64 0, .slice none 0 0]) (t := 24) ?_; intro gb168 hg w171 BK168 hb; have GE168 := gS hg HB; have NB102_168 := nL hg (blk_lt BK102.out); have NB168_102 := nG hg (blk_lt BK102.out); have NB103_168 := nL hg (blk_lt BK103.out); have NB168_103 := nG hg (blk_lt BK103.out); have NB104_168 := nL hg (blk_lt BK104.out); have NB168_104 := nG hg (blk_lt BK104.out); have NB105_168 := nL hg (blk_lt BK105.out); have NB168_105 := nG hg (blk_lt BK105.out); have NB142_168 := nL hg (blk_lt BK142.out); have NB168_142 := nG hg (blk_lt BK142.out); have NB148_168 := nL hg (blk_lt BK148.out); have NB168_148 := nG hg (blk_lt BK148.out); have NB162_168 := nL hg (blk_lt BK162.out); have NB168_162 := nG hg (blk_lt BK162.out); replace HO140 := rB HO140 hb; replace HO146 := rB HO146 hb; replace HO160 := rB HO160 hb; replace HO166 := rB HO166 hb; replace BK102 := bB BK102 hb; replace BK103 := bB BK103 hb; replace BK104 := bB BK104 hb; replace BK105 := bB BK105 hb; replace BK142 := bB BK142 hb; replace BK148 := bB BK148 hb; replace BK162 := bB BK162 hb; replace HB := sB HB hb; clear hb hg; have hnb172 := NB168_102.out; have hnc172 := NB102_168.out; have hnb173 := NB168_103.out; have hnc173 := NB103_168.out; have hnb174 := NB168_104.out; have hnc174 := NB104_168.out; have hnb175 := NB168_105.out; have hnc175 := NB105_168.out; have hnb176 := NB168_142.out; have hnc176 := NB142_168.out; have hnb177 := NB168_148.out; have hnc177 := NB148_168.out; have hnb178 := NB168_162.out; have hnc178 := NB162_168.out; (try clear hcz168_0 hcz168_1 hfz168_0 hfz168_1); obtain ⟨hcz179_0, hcz179_1, hfz179_0, hfz179_1⟩ := zZ BK168; obtain ⟨Ao180, co180, eo180⟩ := Kd.R_slice HO166.out; subst eo180; obtain ⟨hcz181_0, hcz181_1, hfz181_0, hfz181_1⟩ := zZ BK142; obtain ⟨hcz182_0, hcz182_1, hfz182_0, hfz182_1⟩ := zZ BK148) | go_values | go_skip | go_guarded | go_step | go_upon | go_back | ((with_reducible (show Go.Oper.upon _ _ _ _ _ _)); go_simp) | (go_ite <;> go_prune <;> try go_simp))
     go_upto_region 32 with (first | (go_at_call 7; (with_reducible refine (laws_mCommittee.calls kj21 t137 _ _ t138 t143 _ _ t144 true _ ?side1 ?side2 ?side3 ?side4 A113.out).mono ?_); (case side1 => refine (Kd.R_reads' (e := 3) (base := w.heap.size) (ok := fun k_ => (((True ∧ nb (.slice Ao146 t144.length co146) k_) ∧ nb (.slice Ao169 t158.length co169) k_) ∧ nb (.slice Ao180 t164.length co180) k_)) (n := t138.length) (c := co136) ?_).2.2; exact (by exact (Kd.R_mono (Kd.R_far (p := ⟨gb168, 1, none⟩) (Kd.R_far (p := ⟨gb168, 0, none⟩) (Kd.R_types HO140.out BK168.out (by decide)) (fun _ hk => hk.2) (.int .i64 t163)) (fun _ hk => hk.2) (.slice Ao180 t164.length co180)) (fun _ h_ => h_.1)))); (case side2 => exact (Kd.R_reads' HO140.out).2.1); (case side3 => refine (Kd.R_reads' (e := 3) (base := w.heap.size) (ok := fun k_ => (((True ∧ nb (.slice Ao136 t138.length co136) k_) ∧ nb (.slice Ao169 t158.length co169) k_) ∧ nb (.slice Ao180 t164.length co180) k_)) (n := t144.length) (c := co146) ?_).2.2; exact (by exact (Kd.R_mono (Kd.R_far (p := ⟨gb168, 1, none⟩) (Kd.R_far (p := ⟨gb168, 0, none⟩) (Kd.R_types HO146.out BK168.out (by decide)) (fun _ hk => hk.2) (.int .i64 t163)) (fun _ hk => hk.2) (.slice Ao180 t164.length co180)) (fun _ h_ => h_.1)))); (case side4 => exact (Kd.R_reads' HO146.out).2.1); rintro e w183 ⟨rfl, hb⟩; replace HO140 := Aside0.mk (Kd.R_below (by exact (Kd.R_mono (Kd.R_far (p := ⟨gb168, 1, none⟩) (Kd.R_far (p := ⟨gb168, 0, none⟩) (Kd.R_types HO140.out BK168.out (by decide)) (fun _ hk => hk.2) (.int .i64 t163)) (fun _ hk => hk.2) (.slice Ao180 t164.length co180)) (fun _ h_ => h_.1))) hb); replace HO146 := Aside0.mk (Kd.R_below (by exact (Kd.R_mono (Kd.R_far (p := ⟨gb168, 1, none⟩) (Kd.R_far (p := ⟨gb168, 0, none⟩) (Kd.R_types HO146.out BK168.out (by decide)) (fun _ hk => hk.2) (.int .i64 t163)) (fun _ hk => hk.2) (.slice Ao180 t164.length co180)) (fun _ h_ => h_.1))) hb); replace HO160 := Aside0.mk (Kd.R_below (by exact (Kd.R_mono (Kd.R_far (p := ⟨gb168, 1, none⟩) (Kd.R_far (p := ⟨gb168, 0, none⟩) (Kd.R_types HO160.out BK168.out (by decide)) (fun _ hk => hk.2) (.int .i64 t163)) (fun _ hk => hk.2) (.slice Ao180 t164.length co180)) (fun _ h_ => h_.1))) hb); replace HO166 := Aside0.mk (Kd.R_below (by exact (Kd.R_mono (Kd.R_far (p := ⟨gb168, 1, none⟩) (Kd.R_far (p := ⟨gb168, 0, none⟩) (Kd.R_types HO166.out BK168.out (by decide)) (fun _ hk => hk.2) (.int .i64 t163)) (fun _ hk => hk.2) (.slice Ao180 t164.length co180)) (fun _ h_ => h_.1))) hb); replace BK102 := Aside0.mk (blk_below (g := gb102) (o := .cells #[.int .i64 a2_0, .slice A2_1 l2_1.length c2_1] 24 (0, 0)) (by refine blk_far ?_ NB102_168.out _; refine blk_far ?_ NB102_168.out _; exact BK102.out) hb); replace BK103 := Aside0.mk (blk_below (g := gb103) (o := .cells #[.int .i64 a4_0, .slice A4_1 l4_1.length c4_1] 24 (0, 0)) (by refine blk_far ?_ NB103_168.out _; refine blk_far ?_ NB103_168.out _; exact BK103.out) hb); replace BK104 := Aside0.mk (blk_below (g := gb104) (o := .cells #[.int .i64 a5_0, .slice A5_1 l5_1.length c5_1] 24 (0, 0)) (by refine blk_far ?_ NB104_168.out _; refine blk_far ?_ NB104_168.out _; exact BK104.out) hb); replace BK105 := Aside0.mk (blk_below (g := gb105) (o := .cells #[.int .i64 a6_0, .slice A6_1 l6_1.length c6_1] 24 (0, 0)) (by refine blk_far ?_ NB105_168.out _; refine blk_far ?_ NB105_168.out _; exact BK105.out) hb); replace BK142 := Aside0.mk (blk_below (g := gb142) (o := .cells #[.int .i64 t137, .slice Ao136 t138.length co136] 24 (0, 0)) (by refine blk_far ?_ NB142_168.out _; refine blk_far ?_ NB142_168.out _; exact BK142.out) hb); replace BK148 := Aside0.mk (blk_below (g := gb148) (o := .cells #[.int .i64 t143, .slice Ao146 t144.length co146] 24 (0, 0)) (by refine blk_far ?_ NB148_168.out _; refine blk_far ?_ NB148_168.out _; exact BK148.out) hb); replace BK162 := Aside0.mk (blk_below (g := gb162) (o := .cells #[.int .i64 t157, .slice Ao169 t158.length co169] 24 (0, 0)) (by refine blk_far ?_ NB162_168.out _; refine blk_far ?_ NB162_168.out _; exact BK162.out) hb); replace BK168 := Aside0.mk (blk_below (g := gb168) (o := .cells #[.int .i64 t163, .slice Ao180 t164.length co180] 24 (0, 0)) (by refine blk_put (cs := #[.int .i64 t163, .slice none 0 0]) ?_ 1 _ rfl; refine blk_put (cs := #[.int .i64 0, .slice none 0 0]) ?_ 0 _ rfl; exact BK168.out) hb); replace HB := Aside0.mk (below_step (by repeat (first | exact HB.out | apply ba | refine bs ?_ GE168.out)) hb); (try clear hb); obtain ⟨hcz184_0, hcz184_1, hfz184_0, hfz184_1⟩ := zZ BK162; obtain ⟨hcz185_0, hcz185_1, hfz185_0, hfz185_1⟩ := zZ BK168) | (go_at_call 7; (with_reducible refine (laws_mCommittee.calls kj21 t157 _ _ t158 t163 _ _ t164 true _ ?side1 ?side2 ?side3 ?side4 A120.out).mono ?_); (case side1 => have hx_ := (Kd.R_reads' HO160.out).2.2; exact cC); (case side2 => exact (Kd.R_reads' HO160.out).2.1); (case side3 => have hx_ := (Kd.R_reads' HO166.out).2.2; exact cC); (case side4 => exact (Kd.R_reads' HO166.out).2.1); rintro e w186 ⟨rfl, hb⟩; replace HO140 := rB HO140 hb; replace HO146 := rB HO146 hb; replace HO160 := rB HO160 hb; replace HO166 := rB HO166 hb; replace BK102 := bB BK102 hb; replace BK103 := bB BK103 hb; replace BK104 := bB BK104 hb; replace BK105 := bB BK105 hb; replace BK142 := bB BK142 hb; replace BK148 := bB BK148 hb; replace BK162 := bB BK162 hb; replace BK168 := bB BK168 hb; replace HB := sB HB hb; (try clear hb); obtain ⟨hcz187_0, hcz187_1, hfz187_0, hfz187_1⟩ := zZ BK105) | (go_at_call 17; (with_reducible refine (impl_IsCommittee.calls kj21 a6_0 _ _ l6_1 t171 _ (Kd.C_below HR6_1.out HB.out) HC6_1.out A122.out).mono ?_); rintro e w188 ⟨rfl, hb⟩; replace HO140 := rB HO140 hb; replace HO146 := rB HO146 hb; replace HO160 := rB HO160 hb; replace HO166 := rB HO166 hb; replace BK102 := bB BK102 hb; replace BK103 := bB BK103 hb; replace BK104 := bB BK104 hb; replace BK105 := bB BK105 hb; replace BK142 := bB BK142 hb; replace BK148 := bB BK148 hb; replace BK162 := bB BK162 hb; replace BK168 := bB BK168 hb; replace HB := sB HB hb; (try clear hb)) | go_values | go_skip | go_guarded | go_step | go_upon | go_back | ((with_reducible (show Go.Oper.upon _ _ _ _ _ _)); go_simp) | (go_ite <;> go_prune <;> try go_simp))
     (try simp only [Act.put, sA, sZ, sS])
     refine cutT_ [F,F,F,F,F,F,F,F,F,F,F,F,F,F,F,F,F,F,F,F,F,F,F,F,F,F,F,F,F,F,F,F,F,F,F,F,F,F,F,F,F,F,F,F,F,F,F,F,F,F,F,F,F,F,F,F,F,F,F,F,F,F,F,F,F,F,F,F,F,F,F,F,F,F,F,F,F,F,F,F,F,F,F,F,F,F,F,F,F,F,F,F,F,F,F,F,F,F,F,F,F,F,F,F,F,F,F,F,F,F,F,F,F,F,F,F,F,F,F,F,F,F,F,F,F,F,F,F,F,F,F,F,F,F,F,F,F,F,F,F,F,F,F,F,F,F,F,F,F,F,F,F,F,F,F,F,F,F,F,F,F,F,F,F,F,F,F,F,F,F,F,F,F,F,F,F,F,F,F,F,F,F,F,F,F,F,F,F,F,F,F,F,F,F,F,F,F,F,F,F,F,F,F,F,F,F,F,F,F,F,F,F,F,F,F,F,F,F,F,F,F,F,F,F,F,F,F,F,F,F,F,F,F,F,F,F,F,F,F,F,F,T,T,T,T,T,T,T,T,T,T,T,T,T,T,T,T,T,T,T,T,T,T,T,T,T,T,T,T,T,T,T,T,T] (fun T_ wc_ => (fun v273 wc => ∃ (kq : Nat) (x273_123 : Bool), v273 = .bool x273_123 ∧ Aside0 (laws_FnCommitteesChangeOfAll.j3 kq a7 t151 t152 t153 t171 t167 x273_123 a4_0 l4_1 a5_0 l5_1 a6_0 l6_1 t157 t158 = some r) ∧ Aside0 (kq ≤ kj21) ∧ Aside0 (Kd.R (Kd.int .i64) 3 wc w.heap.size (fun _ => True) (.slice Ao169 t158.length co169) t158) ∧ Aside0 (wc.heap[gb103]? = some (.cells #[.int .i64 a4_0, (.slice A4_1 l4_1.length c4_1)] 24 (0, 0))) ∧ Aside0 (wc.heap[gb104]? = some (.cells #[.int .i64 a5_0, (.slice A5_1 l5_1.length c5_1)] 24 (0, 0))) ∧ Aside0 (wc.heap[gb105]? = some (.cells #[.int .i64 a6_0, (.slice A6_1 l6_1.length c6_1)] 24 (0, 0))) ∧ Aside0 (wc.heap[gb162]? = some (.cells #[.int .i64 t157, (.slice Ao169 t158.length co169)] 24 (0, 0))) ∧ Aside0 (Below w.heap.size w wc)) (T_ 273) wc_) ?restj3 ?firstj3
     case firstj3 => as_aux_lemma =>
      intro J_ K_ hJ_j3 hM_
      have H := HC124.out
      clear HC124
      by_cases c189 : t147 = true
      rotate_left
      ·replace c189 := Bool.eq_false_iff.mpr c189
       subst c189
       replace H := iF H
       as_aux_lemma =>
        have H' := Aside0.mk H
        clear H
        try go_upto_region 9999 with (first | go_values | go_skip | go_guarded | go_step | go_upon | go_back | ((with_reducible (show Go.Oper.upon _ _ _ _ _ _)); go_simp) | (go_ite <;> go_prune <;> try go_simp))
        replace HO140 := rD HO140
        replace HO146 := rD HO146
        replace HO160 := rD HO160
        replace HO166 := rD HO166
        replace BK102 := bD BK102
        replace BK103 := bD BK103
        replace BK104 := bD BK104
        replace BK105 := bD BK105
        replace BK142 := bD BK142
        replace BK148 := bD BK148
        replace BK162 := bD BK162
        replace BK168 := bD BK168
        replace HB := Aside0.mk (below_drew1 HB.out)
        refine start_ (n := 33) (S := fun w' => True) (ds := []) #[F,F,F,F,F,F,F,F,F,F,F,F,F,F,F,F,F,F,F,F,F,F,F,F,F,F,F,F,F,F,F,F,F] (by kernel_rfl) rfl rfl trivial (fun hHeld => ?_); refine with_tabW laws_FnCommitteesChangeOfAll.tab32 laws_FnCommitteesChangeOfAll.bits32 (fun HT_ HW_ => ?_)
        generalize w188.drew = w197 at HO140 HO146 HO160 HO166 BK102 BK103 BK104 BK105 BK142 BK148 BK162 BK168 HB hHeld ⊢
        refine pU 0 HT_ ?_
        refine pU 1 HT_ ?_
        refine pV 2 HT_ ?_
        refine pV 3 HT_ ?_
        refine pV 4 HT_ ?_
        refine pV 5 HT_ ?_
        refine pV 6 HT_ ?_
        refine pV 7 HT_ ?_
        refine pV 8 HT_ ?_
        refine pV 9 HT_ ?_
        refine pV 10 HT_ ?_
        refine pV 11 HT_ ?_
        refine pV 12 HT_ ?_
        refine pV 13 HT_ ?_
        refine pV 14 HT_ ?_
        refine pV 15 HT_ ?_
        refine pV 16 HT_ ?_
        refine pV 17 HT_ ?_
        refine pV 18 HT_ ?_
        refine pV 19 HT_ ?_
        refine pV 20 HT_ ?_
        refine pV 21 HT_ ?_
        refine pV 22 HT_ ?_
        refine pV 23 HT_ ?_
        refine pV 24 HT_ ?_
        refine pV 25 HT_ ?_
        refine pV 26 HT_ ?_
        refine pV 27 HT_ ?_
        refine pV 28 HT_ ?_
        refine pV 29 HT_ ?_
        refine pV 30 HT_ ?_
        refine pV 31 HT_ ?_
        refine pU 32 HT_ ?_
        refine done_ (done_of HT_.out (by kernel_rfl)) ?_
        try go_upto_region 9999 with (first | go_values | go_skip | go_guarded | go_step | go_upon | go_back | ((with_reducible (show Go.Oper.upon _ _ _ _ _ _)); go_simp) | (go_ite <;> go_prune <;> try go_simp))
        refine meetT_ hJ_j3 (by kernel_rfl) ?rel
        case rel => exact ⟨_, (false), gR, H', ⟨by have := HJ8.out; have := HJ21.out; first | omega | exact Nat.le_refl _⟩, ⟨by (with_reducible repeat (first | apply qA | apply qN | apply qD)); exact Kd.R_mono HO160.out (fun _ hk => trivial)⟩, ⟨bQ BK103⟩, ⟨bQ BK104⟩, ⟨bQ BK105⟩, ⟨bQ BK162⟩, ⟨wB⟩⟩
      subst c189
      replace H := iT H
      replace H := oA H
      obtain ⟨t172, A190, H⟩ := H
      (try dsimp only at H)
      replace H := ite_yes H
      obtain ⟨c191, H⟩ := H
      have c191b0 : decide (0 ≤ a3) = true := decide_eq_true c191
      clear c191
      (first | rw [c191b0] | (simp only [i64_w, i32_w]; rw [c191b0]) | skip)
      replace H := ite_yes H
      obtain ⟨c192, H⟩ := H
      have c192b0 : decide (a3 < (l2_1.length : Int)) = true := decide_eq_true c192
      clear c192
      replace H := oA H
      obtain ⟨t174, A193, H⟩ := H
      (try dsimp only at H)
      replace H := ite_yes H
      obtain ⟨c194, H⟩ := H
      have c194b0 : ((wrap64 (t172 + (rd l2_1 a3))) == t174) = true := beq_iff_eq.mpr c194
      have c194b1 : ((wrap64 (t172 + (rd l2_1 a3))) != t174) = false := bne_eq_false_iff_eq.mpr c194
      clear c194
      replace H := ite_yes H
      obtain ⟨c195, H⟩ := H
      have c195b0 : ((t138.length : Int) == (wrap64 ((l2_1.length : Int) - 1))) = true := beq_iff_eq.mpr c195
      have c195b1 : ((t138.length : Int) != (wrap64 ((l2_1.length : Int) - 1))) = false := bne_eq_false_iff_eq.mpr c195
      clear c195
      as_aux_lemma =>
       have H' := Aside0.mk H
       clear H
       try go_upto_region 9999 with (first | go_values | go_skip | go_guarded | go_step | go_upon | go_back | ((with_reducible (show Go.Oper.upon _ _ _ _ _ _)); go_simp) | (go_ite <;> go_prune <;> try go_simp))
       replace HO140 := rD HO140
       replace HO146 := rD HO146
       replace HO160 := rD HO160
       replace HO166 := rD HO166
       replace BK102 := bD BK102
       replace BK103 := bD BK103
       replace BK104 := bD BK104
       replace BK105 := bD BK105
       replace BK142 := bD BK142
       replace BK148 := bD BK148
       replace BK162 := bD BK162
       replace BK168 := bD BK168
       replace HB := Aside0.mk (below_drew1 HB.out)
       have p173 : 0 ≤ (a3 : Int) := oD
       have q173 : a3 < (l2_1.length : Int) := oD
       obtain ⟨ad173, e173, hx173_0⟩ := Kd.at_int HR2_1.out a3 p173 q173
       have hw173_0 := hx173_0
       cases e173
       replace hx173_0 := (HB.out.cell (World.block_lt_of_cell? w _ hx173_0)).trans hx173_0
       replace p173 := eq_true p173
       replace q173 := eq_true q173
       refine start_ (n := 33) (S := fun w' => w'.cell? ⟨gb142, 0, none⟩ = some (.int .i64 t137) ∧ w'.cell? ⟨gb142, 1, none⟩ = some (.slice Ao136 t138.length co136) ∧ w'.cell? ⟨gb102, 0, none⟩ = some (.int .i64 a2_0) ∧ w'.cell? ⟨gb102, 1, none⟩ = some (.slice (some ad173) l2_1.length c2_1) ∧ w'.cell? (ad173.add (a3).toNat) = some (.int .i64 (rd l2_1 a3))) (ds := []) #[F,F,F,F,F,F,F,F,F,F,F,F,F,F,F,F,F,F,F,F,F,F,F,F,F,F,F,F,F,F,F,F,F] (by kernel_rfl) rfl rfl ⟨(blk_cell BK142.out 0).trans rfl, (blk_cell BK142.out 1).trans rfl, (blk_cell BK102.out 0).trans rfl, (blk_cell BK102.out 1).trans rfl, ((HB.out.cell (World.block_lt_of_cell? w _ hw173_0)).trans hw173_0)⟩ (fun hHeld => ?_); refine with_tabW laws_FnCommitteesChangeOfAll.tab32 laws_FnCommitteesChangeOfAll.bits32 (fun HT_ HW_ => ?_)
       generalize w188.drew = w196 at HO140 HO146 HO160 HO166 BK102 BK103 BK104 BK105 BK142 BK148 BK162 BK168 HB hx173_0 hHeld ⊢
       refine pU 0 HT_ ?_
       refine pU 1 HT_ ?_
       refine pU 2 HT_ ?_
       refine pU 5 HT_ ?_
       refine pU 7 HT_ ?_
       refine pU 11 HT_ ?_
       refine tK 3 HT_ HW_ hHeld (hy := by rintro w' ⟨s0, s1, s2, s3, s4⟩; go_simp; with_reducible rfl) ?_
       refine tK 6 HT_ HW_ hHeld (hy := by rintro w' ⟨s0, s1, s2, s3, s4⟩; go_simp; with_reducible rfl) ?_
       refine pU 8 HT_ ?_
       refine tK 9 HT_ HW_ hHeld (hy := by rintro w' ⟨s0, s1, s2, s3, s4⟩; go_simp; with_reducible rfl) ?_
       refine tK 12 HT_ HW_ hHeld (hy := by rintro w' ⟨s0, s1, s2, s3, s4⟩; go_simp; with_reducible rfl) ?_
       refine oN 4 HT_ (fun K hK => ?_)
       refine gE Tryz.func18 #[.slice Ao136 t138.length co136] ?_
       with_reducible refine (laws_mSum.calls kj21 _ _ t138 t172 _ ?side1 ?side2 A190.out).mono ?_
       (case side1 => have hx_ := (Kd.R_reads' HO140.out).2.2; exact cC)
       (case side2 => exact (Kd.R_reads' HO140.out).2.1)
       rintro e w' ⟨rfl, ⟨nd, rfl⟩⟩
       refine ⟨_, rfl, ?_⟩
       refine hK.out _ _ ⟨(blk_cell BK142.out 0).trans rfl, (blk_cell BK142.out 1).trans rfl, (blk_cell BK102.out 0).trans rfl, (blk_cell BK102.out 1).trans rfl, ((HB.out.cell (World.block_lt_of_cell? w _ hw173_0)).trans hw173_0)⟩ (fun hHeld => ?_)
       clear hK K
       refine nM ?_
       refine pU 10 HT_ ?_
       refine oN 13 HT_ (fun K hK => ?_)
       refine gE Tryz.func18 #[.slice (some ad173) l2_1.length c2_1] ?_
       with_reducible refine (laws_mSum.calls kj21 _ _ l2_1 t174 _ ?side1 ?side2 A193.out).mono ?_
       (case side1 =>  repeat (first | exact (Kd.C_below HR2_1.out (by repeat (first | exact HB.out | apply ba | apply bd | apply be | refine bs ?_ GE102.out | refine bs ?_ GE103.out | refine bs ?_ GE104.out | refine bs ?_ GE105.out | refine bs ?_ GE142.out | refine bs ?_ GE148.out | refine bs ?_ GE162.out | refine bs ?_ GE168.out))) | (with_reducible refine Kd.C_alloc ?_ _) | (with_reducible refine Kd.C_drewN ?_ _) | (with_reducible refine Kd.C_drew ?_)))
       (case side2 => exact HC2_1.out)
       rintro e w' ⟨rfl, ⟨nd, rfl⟩⟩
       refine ⟨_, rfl, ?_⟩
       refine hK.out _ _ ⟨(blk_cell BK142.out 0).trans rfl, (blk_cell BK142.out 1).trans rfl, (blk_cell BK102.out 0).trans rfl, (blk_cell BK102.out 1).trans rfl, ((HB.out.cell (World.block_lt_of_cell? w _ hw173_0)).trans hw173_0)⟩ (fun hHeld => ?_)
       clear hK K
       refine nM ?_
       refine pU 14 HT_ ?_
       refine pU 15 HT_ ?_
       refine pU 16 HT_ ?_
       refine pU 19 HT_ ?_
       refine tK 17 HT_ HW_ hHeld (hy := by rintro w' ⟨s0, s1, s2, s3, s4⟩; go_simp; with_reducible rfl) ?_
       refine pU 18 HT_ ?_
       refine tK 20 HT_ HW_ hHeld (hy := by rintro w' ⟨s0, s1, s2, s3, s4⟩; go_simp; with_reducible rfl) ?_
       refine pU 21 HT_ ?_
       refine pU 22 HT_ ?_
       refine pU 23 HT_ ?_
       refine pU 24 HT_ ?_
       refine pU 25 HT_ ?_
       refine pU 26 HT_ ?_
       refine pU 28 HT_ ?_
       refine tK 27 HT_ HW_ hHeld (hy := by rintro w' ⟨s0, s1, s2, s3, s4⟩; go_simp; with_reducible rfl) ?_
       refine tK 29 HT_ HW_ hHeld (hy := by rintro w' ⟨s0, s1, s2, s3, s4⟩; go_simp; with_reducible rfl) ?_
       refine pU 30 HT_ ?_
       refine pU 31 HT_ ?_
       refine pU 32 HT_ ?_
       refine done_ (done_of HT_.out (by kernel_rfl)) ?_
       try go_upto_region 9999 with (first | go_values | go_skip | go_guarded | go_step | go_upon | go_back | ((with_reducible (show Go.Oper.upon _ _ _ _ _ _)); go_simp) | (go_ite <;> go_prune <;> try go_simp))
       refine meetT_ hJ_j3 (by kernel_rfl) ?rel
       case rel => exact ⟨_, ((t137 != a2_0)), gR, H', ⟨by have := HJ8.out; have := HJ21.out; first | omega | exact Nat.le_refl _⟩, ⟨by (with_reducible repeat (first | apply qA | apply qN | apply qD)); exact Kd.R_mono HO160.out (fun _ hk => trivial)⟩, ⟨bQ BK103⟩, ⟨bQ BK104⟩, ⟨bQ BK105⟩, ⟨bQ BK162⟩, ⟨wB⟩⟩
     case restj3 => as_aux_lemma =>
      intro T_ wc hcut
      simp only [putT, putM, T, F, Nat.reduceAdd]
      (try dsimp only at hcut)
      generalize T_ 273 = u273 at hcut ⊢
      clear HC124
      (try clear c1); (try clear p1); (try clear q1); (try clear hx1); (try clear c2); (try clear p2); (try clear c4); (try clear c5); (try clear c6); (try clear p6); (try clear c9); (try clear c10); (try clear c11); (try clear c12); (try clear c13); (try clear c14); (try clear c15); (try clear c16); (try clear c17); (try clear p17); (try clear q17); (try clear hx17); (try clear c18); (try clear c19); (try clear p64); (try clear c123); (try clear c125); (try clear c126); (try clear c127); (try clear c131); (try clear c132); (try clear c133); (try clear c134); (try clear c140); (try clear c141); (try clear c142); (try clear c143); (try clear c144); (try clear c147); (try clear c148); (try clear c150); (try clear c162); (try clear c163); (try clear c164); (try clear c165); (try clear c166); (try clear c167); (try clear c172); (try clear c173); (try clear p173); (try clear q173); (try clear hx173); (try clear c174); (try clear c175); (try clear c176); (try clear c177); (try clear c178); (try clear c189); (try clear c191); (try clear c191b0); (try clear c192); (try clear c192b0); (try clear c194); (try clear c194b0); (try clear c194b1); (try clear c195); (try clear c195b0); (try clear c195b1); (try clear hcz179_0); (try clear hcz179_1); (try clear hcz181_0); (try clear hcz181_1); (try clear hcz182_0); (try clear hcz182_1); (try clear hcz184_0); (try clear hcz184_1); (try clear hcz185_0); (try clear hcz185_1); (try clear hcz187_0); (try clear hcz187_1); (try clear hfz179_0); (try clear hfz179_1); (try clear hfz181_0); (try clear hfz181_1); (try clear hfz182_0); (try clear hfz182_1); (try clear hfz184_0); (try clear hfz184_1); (try clear hfz185_0); (try clear hfz185_1); (try clear hfz187_0); (try clear hfz187_1); (try clear hx173_0); (try clear p173); (try clear q173)
      obtain ⟨kq, x273_123, rfl, HA, HJ123, HO_163001, BK103, BK104, BK105, BK162, HB⟩ := hcut
      cases kq with
      | zero => exact absurd HA.out (by simp [laws_FnCommitteesChangeOfAll.j3])
      | succ kj123 =>
       have H := HA.out
       clear HA
       simp only [laws_FnCommitteesChangeOfAll.j3] at H
       replace H := ite_no H
       obtain ⟨c198, H⟩ := H
       replace c198 := Bool.eq_false_iff.mpr c198
       subst c198
       have HC199 := Aside0.mk H
       clear H
       go_upto_if 274 with (fail)
       refine cutT_ [F,F,F,F,F,F,F,F,F,F,F,F,F,F,F,F,T,F,F,F,F,F,F,F,F,F,F,F,F,F,F,F,F,F,F,F,F,F,F,F,F,F,F,F,F,F,F,T,T,T,T,T,T,F,F,F,F,F,F,F,F,F,F,F,F,F,F,F,F,F,F,F,F,F,F,F,F,F,F,F,F,F,F,F,F,F,F,F,F,F,F,F,F,F,F,F,F,F,F,F,F,F,F,F,F,F,F,F,F,F,F,F,F,F,F,F,F,F,F,F,F,F,F,F,F,F,F,F,F,F,F,F,F,F,F,F,F,F,F,F,F,F,F,F,F,F,F,F,F,F,F,F,F,F,F,F,F,F,F,F,F,F,F,F,F,F,F,F,F,F,F,F,F,F,F,F,F,F,F,F,F,F,F,F,F,F,F,F,F,F,F,F,F,F,F,F,F,F,F,F,F,F,F,F,F,F,F,F,F,F,F,F,F,F,F,F,F,F,F,F,F,F,F,F,F,F,F,F,F,F,F,F,F,F,F,F,F,F,F,F,F,F,F,F,F,F,F,F,F,F,F,F,F,F,F,F,F,F,F,F,F,F,F,F,F,F,F,F,F,F,F,F,F,F,T,T,T,T,T,T,T,T,T,T,T,T,T,T,T,T,T,T,T,T,T,T,T,T,T,T,T,T,T,T,T,T,T,T,T,T,T,T,T,T,T,T,T,T,T,T,T,T] (fun T_ wc_ => (fun wc => ∃ (kq : Nat), Aside0 (laws_FnCommitteesChangeOfAll.j4 kq a7 t153 t171 t167 a6_0 l6_1 t157 t158 = some r) ∧ Aside0 (kq ≤ kj123) ∧ Aside0 (Kd.R (Kd.int .i64) 3 wc w.heap.size (fun _ => True) (.slice Ao169 t158.length co169) t158) ∧ Aside0 (wc.heap[gb105]? = some (.cells #[.int .i64 a6_0, (.slice A6_1 l6_1.length c6_1)] 24 (0, 0))) ∧ Aside0 (wc.heap[gb162]? = some (.cells #[.int .i64 t157, (.slice Ao169 t158.length co169)] 24 (0, 0))) ∧ Aside0 (Below w.heap.size w wc))  wc_) ?restj4 ?firstj4
       case firstj4 => as_aux_lemma =>
        intro J_ K_ hJ_j4 hM_
        have H := HC199.out
        clear HC199
        by_cases c200 : t152 = true
        rotate_left
        ·replace c200 := Bool.eq_false_iff.mpr c200
         subst c200
         replace H := iF H
         as_aux_lemma =>
          have H' := Aside0.mk H
          clear H
          go_upto_region 9999 with (first | go_values | go_skip | go_guarded | go_step | go_upon | go_back | ((with_reducible (show Go.Oper.upon _ _ _ _ _ _)); go_simp) | (go_ite <;> go_prune <;> try go_simp))
          refine meetT_ hJ_j4 (by kernel_rfl) ?rel
          case rel => exact ⟨_, H', ⟨by have := HJ8.out; have := HJ21.out; have := HJ123.out; first | omega | exact Nat.le_refl _⟩, ⟨rQ HO_163001⟩, ⟨bQ BK105⟩, ⟨bQ BK162⟩, ⟨wB⟩⟩
        subst c200
        replace H := iT H
        replace H := oB H
        obtain ⟨⟨t175, t178⟩, A2010, H⟩ := H
        (try dsimp only at H)
        have A201 := Aside0.mk A2010
        clear A2010
        replace H := oB H
        obtain ⟨⟨t179, t182⟩, A2020, H⟩ := H
        (try dsimp only at H)
        have A202 := Aside0.mk A2020
        clear A2020
        replace H := oB H
        obtain ⟨⟨t183, t184⟩, A2030, H⟩ := H
        (try dsimp only at H)
        have A203 := Aside0.mk A2030
        clear A2030
        replace H := ite_yes H
        obtain ⟨c204, H⟩ := H
        subst c204
        replace H := ite_yes H
        obtain ⟨c205, H⟩ := H
        subst c205
        by_cases c206 : (l4_1.length : Int) = (l5_1.length : Int)
        rotate_left
        ·rw [if_neg c206] at H
         have c206b0 : ((l4_1.length : Int) == (l5_1.length : Int)) = false := beq_eq_false_iff_ne.mpr c206
         have c206b1 : ((l4_1.length : Int) != (l5_1.length : Int)) = true := bne_iff_ne.mpr c206
         have c206b2 : (l4_1.length == l5_1.length) = false := by first | simpa using c206 | (simp at c206 ⊢; omega)
         (first | rw [c206b0] | (simp only [i64_w, i32_w]; rw [c206b0]) | skip)
         replace H := ite_no H
         obtain ⟨c227, H⟩ := H
         replace c227 := of_nbne c227
         subst t151
         replace H := ite_yes H
         obtain ⟨c228, H⟩ := H
         subst c228
         replace H := ite_no H
         obtain ⟨c229, H⟩ := H
         replace c229 := of_nbne c229
         subst t183
         as_aux_lemma =>
          have H' := Aside0.mk H
          clear H
          have hnb230 := NB103_104.out
          have hnc230 := NB104_103.out
          have hnb231 := NB103_105.out
          have hnc231 := NB105_103.out
          have hnb232 := NB103_162.out
          have hnc232 := NB162_103.out
          (try clear hcz223_0 hcz223_1 hfz223_0 hfz223_1 hcz224_0 hcz224_1 hfz224_0 hfz224_1)
          obtain ⟨hcz233_0, hcz233_1, hfz233_0, hfz233_1⟩ := zZ BK103
          go_upto_region 36 with (first | ((with_reducible refine gate_callee (f := 19) rfl ?_); refine gL 277 Tryz.func19 #[.agg #[.int .i64 a4_0, .slice A4_1 l4_1.length c4_1]] ?_; (with_reducible refine (impl_LeastWinning.calls kj123 a4_0 _ _ l4_1 t175 true _ ?side1 ?side2 A201.out).mono ?_); (case side1 => have hx_ := (Kd.C_below HR4_1.out HB.out); exact cC); (case side2 => exact HC4_1.out); rintro e w234 ⟨v176, rfl, ho0, hb⟩; refine ⟨_, rfl, ?_⟩; replace HO_163001 := rP HO_163001 hb; replace BK103 := bP BK103 hb; replace BK104 := bP BK104 hb; replace BK105 := bP BK105 hb; replace BK162 := bP BK162 hb; replace HB := sQ hb; (try clear hb); (try clear ho0); have hnb235 := NB104_105.out; have hnc235 := NB105_104.out; have hnb236 := NB104_162.out; have hnc236 := NB162_104.out; (try clear hcz233_0 hcz233_1 hfz233_0 hfz233_1); obtain ⟨hcz237_0, hcz237_1, hfz237_0, hfz237_1⟩ := zZ BK104) | go_values | go_skip | go_guarded | go_step | go_upon | go_back | ((with_reducible (show Go.Oper.upon _ _ _ _ _ _)); go_simp) | (go_ite <;> go_prune <;> try go_simp))
          go_upto_region 37 with (first | ((with_reducible refine gate_callee (f := 19) rfl ?_); refine gL 282 Tryz.func19 #[.agg #[.int .i64 a5_0, .slice A5_1 l5_1.length c5_1]] ?_; (with_reducible refine (impl_LeastWinning.calls kj123 a5_0 _ _ l5_1 t179 true _ ?side1 ?side2 A202.out).mono ?_); (case side1 => have hx_ := (Kd.C_below HR5_1.out HB.out); exact cC); (case side2 => exact HC5_1.out); rintro e w238 ⟨v180, rfl, ho0, hb⟩; refine ⟨_, rfl, ?_⟩; replace HO_163001 := rP HO_163001 hb; replace BK103 := bP BK103 hb; replace BK104 := bP BK104 hb; replace BK105 := bP BK105 hb; replace BK162 := bP BK162 hb; replace HB := sQ hb; (try clear hb); (try clear ho0); (try clear hcz237_0 hcz237_1 hfz237_0 hfz237_1); obtain ⟨hcz239_0, hcz239_1, hfz239_0, hfz239_1⟩ := zZ BK104; obtain ⟨hcz240_0, hcz240_1, hfz240_0, hfz240_1⟩ := zZ BK103) | go_values | go_skip | go_guarded | go_step | go_upon | go_back | ((with_reducible (show Go.Oper.upon _ _ _ _ _ _)); go_simp) | (go_ite <;> go_prune <;> try go_simp))
          go_upto_region 9999 with (first | ((with_reducible refine gate_callee (f := 11) rfl ?_); refine gL 288 Tryz.func11 #[.agg #[.int .i64 a5_0, .slice A5_1 l5_1.length c5_1], .agg #[.int .i64 a4_0, .slice A4_1 l4_1.length c4_1]] ?_; (with_reducible refine (impl_AreSameVotes.calls kj123 a5_0 _ _ l5_1 a4_0 _ _ l4_1 false true _ ?side1 ?side2 ?side3 ?side4 A203.out).mono ?_); (case side1 => have hx_ := (Kd.C_below HR5_1.out HB.out); exact cC); (case side2 => exact HC5_1.out); (case side3 => have hx_ := (Kd.C_below HR4_1.out HB.out); exact cC); (case side4 => exact HC4_1.out); rintro e w241 ⟨rfl, hb⟩; refine ⟨_, rfl, ?_⟩; replace HO_163001 := rP HO_163001 hb; replace BK103 := bP BK103 hb; replace BK104 := bP BK104 hb; replace BK105 := bP BK105 hb; replace BK162 := bP BK162 hb; replace HB := sQ hb; (try clear hb); (try clear hcz239_0 hcz239_1 hfz239_0 hfz239_1 hcz240_0 hcz240_1 hfz240_0 hfz240_1); obtain ⟨hcz242_0, hcz242_1, hfz242_0, hfz242_1⟩ := zZ BK103; obtain ⟨hcz243_0, hcz243_1, hfz243_0, hfz243_1⟩ := zZ BK104) | go_values | go_skip | go_guarded | go_step | go_upon | go_back | ((with_reducible (show Go.Oper.upon _ _ _ _ _ _)); go_simp) | (go_ite <;> go_prune <;> try go_simp))
          refine meetT_ hJ_j4 (by kernel_rfl) ?rel
          case rel => exact ⟨_, H', ⟨by have := HJ8.out; have := HJ21.out; have := HJ123.out; first | omega | exact Nat.le_refl _⟩, ⟨rQ HO_163001⟩, ⟨bQ BK105⟩, ⟨bQ BK162⟩, ⟨wB⟩⟩
        rw [if_pos c206] at H
        have c206b0 : ((l4_1.length : Int) == (l5_1.length : Int)) = true := beq_iff_eq.mpr c206
        have c206b1 : ((l4_1.length : Int) != (l5_1.length : Int)) = false := bne_eq_false_iff_eq.mpr c206
        have c206b2 : (l4_1.length == l5_1.length) = true := by first | simpa using c206 | (simp at c206 ⊢; omega)
        clear c206
        (first | rw [c206b0] | (simp only [i64_w, i32_w]; rw [c206b0]) | skip)
        replace H := oA H
        obtain ⟨t185, A207, H⟩ := H
        (try dsimp only at H)
        replace H := ite_no H
        obtain ⟨c208, H⟩ := H
        replace c208 := of_nbne c208
        subst t151
        replace H := ite_yes H
        obtain ⟨c209, H⟩ := H
        subst c209
        replace H := ite_no H
        obtain ⟨c210, H⟩ := H
        replace c210 := of_nbne c210
        subst t183
        as_aux_lemma =>
         have H' := Aside0.mk H
         clear H
         have hnb211 := NB103_104.out
         have hnc211 := NB104_103.out
         have hnb212 := NB103_105.out
         have hnc212 := NB105_103.out
         have hnb213 := NB103_162.out
         have hnc213 := NB162_103.out
         obtain ⟨hcz214_0, hcz214_1, hfz214_0, hfz214_1⟩ := zZ BK103
         go_upto_region 36 with (first | ((with_reducible refine gate_callee (f := 19) rfl ?_); refine gL 277 Tryz.func19 #[.agg #[.int .i64 a4_0, .slice A4_1 l4_1.length c4_1]] ?_; (with_reducible refine (impl_LeastWinning.calls kj123 a4_0 _ _ l4_1 t175 true _ (Kd.C_below HR4_1.out HB.out) HC4_1.out A201.out).mono ?_); rintro e w215 ⟨v176, rfl, ho0, hb⟩; refine ⟨_, rfl, ?_⟩; have HO177 := Aside0.mk (Kd.S_lower (Kd.S_new' ho0 (Kd.R_lt HO_163001.out)) (below_size HB.out)); replace HO_163001 := rB HO_163001 hb; replace BK103 := bB BK103 hb; replace BK104 := bB BK104 hb; replace BK105 := bB BK105 hb; replace BK162 := bB BK162 hb; replace HB := sB HB hb; (try clear hb); (try clear ho0); have hnb216 := NB104_105.out; have hnc216 := NB105_104.out; have hnb217 := NB104_162.out; have hnc217 := NB162_104.out; (try clear hcz214_0 hcz214_1 hfz214_0 hfz214_1); obtain ⟨hcz218_0, hcz218_1, hfz218_0, hfz218_1⟩ := zZ BK104) | go_values | go_skip | go_guarded | go_step | go_upon | go_back | ((with_reducible (show Go.Oper.upon _ _ _ _ _ _)); go_simp) | (go_ite <;> go_prune <;> try go_simp))
         go_upto_region 37 with (first | ((with_reducible refine gate_callee (f := 19) rfl ?_); refine gL 282 Tryz.func19 #[.agg #[.int .i64 a5_0, .slice A5_1 l5_1.length c5_1]] ?_; (with_reducible refine (impl_LeastWinning.calls kj123 a5_0 _ _ l5_1 t179 true _ (Kd.C_below HR5_1.out HB.out) HC5_1.out A202.out).mono ?_); rintro e w219 ⟨v180, rfl, ho0, hb⟩; refine ⟨_, rfl, ?_⟩; have HO181 := Aside0.mk (Kd.S_lower (Kd.S_new' (Kd.S_new' ho0 (Kd.R_lt HO_163001.out)) (Kd.S_lt HO177.out)) (below_size HB.out)); replace HO_163001 := rB HO_163001 hb; replace HO177 := tE HO177 (Kd.S_base ho0) hb; replace BK103 := bB BK103 hb; replace BK104 := bB BK104 hb; replace BK105 := bB BK105 hb; replace BK162 := bB BK162 hb; replace HB := sB HB hb; (try clear hb); (try clear ho0); (try clear hcz218_0 hcz218_1 hfz218_0 hfz218_1); obtain ⟨hcz220_0, hcz220_1, hfz220_0, hfz220_1⟩ := zZ BK104; obtain ⟨hcz221_0, hcz221_1, hfz221_0, hfz221_1⟩ := zZ BK103) | go_values | go_skip | go_guarded | go_step | go_upon | go_back | ((with_reducible (show Go.Oper.upon _ _ _ _ _ _)); go_simp) | (go_ite <;> go_prune <;> try go_simp))
         go_upto_region 38 with (first | ((with_reducible refine gate_callee (f := 11) rfl ?_); refine gL 288 Tryz.func11 #[.agg #[.int .i64 a5_0, .slice A5_1 l5_1.length c5_1], .agg #[.int .i64 a4_0, .slice A4_1 l4_1.length c4_1]] ?_; (with_reducible refine (impl_AreSameVotes.calls kj123 a5_0 _ _ l5_1 a4_0 _ _ l4_1 t185 true _ (Kd.C_below HR5_1.out HB.out) HC5_1.out (Kd.C_below HR4_1.out HB.out) HC4_1.out A203.out).mono ?_); rintro e w222 ⟨rfl, hb⟩; refine ⟨_, rfl, ?_⟩; replace HO_163001 := rB HO_163001 hb; replace HO177 := tB HO177 hb; replace HO181 := tB HO181 hb; replace BK103 := bB BK103 hb; replace BK104 := bB BK104 hb; replace BK105 := bB BK105 hb; replace BK162 := bB BK162 hb; replace HB := sB HB hb; (try clear hb); (try clear hcz220_0 hcz220_1 hfz220_0 hfz220_1 hcz221_0 hcz221_1 hfz221_0 hfz221_1); obtain ⟨hcz223_0, hcz223_1, hfz223_0, hfz223_1⟩ := zZ BK103; obtain ⟨hcz224_0, hcz224_1, hfz224_0, hfz224_1⟩ := zZ BK104; obtain ⟨Ao225, co225, eo225⟩ := Kd.S_slice HO177.out; subst eo225; obtain ⟨Ao226, co226, eo226⟩ := Kd.S_slice HO181.out; subst eo226) | go_values | go_skip | go_guarded | go_step | go_upon | go_back | ((with_reducible (show Go.Oper.upon _ _ _ _ _ _)); go_simp) | (go_ite <;> go_prune <;> try go_simp))
         go_upto_region 9999 with (first | (go_at_call 20; (with_reducible refine (laws_mSets.calls kj123 _ _ t175 _ _ t179 t185 _ ?side1 ?side2 ?side3 ?side4 A207.out).mono ?_); (case side1 => have hx_ := (Kd.S_reads' HO177.out).2.2; exact cC); (case side2 => exact (Kd.S_reads' HO177.out).2.1); (case side3 => have hx_ := (Kd.S_reads' HO181.out).2.2; exact cC); (case side4 => exact (Kd.S_reads' HO181.out).2.1); rintro e w' ⟨rfl, ⟨nd, rfl⟩⟩) | go_values | go_skip | go_guarded | go_step | go_upon | go_back | ((with_reducible (show Go.Oper.upon _ _ _ _ _ _)); go_simp) | (go_ite <;> go_prune <;> try go_simp))
         refine meetT_ hJ_j4 (by kernel_rfl) ?rel
         case rel => exact ⟨_, H', ⟨by have := HJ8.out; have := HJ21.out; have := HJ123.out; first | omega | exact Nat.le_refl _⟩, ⟨rQ HO_163001⟩, ⟨bQ BK105⟩, ⟨bQ BK162⟩, ⟨wB⟩⟩
       case restj4 => as_aux_lemma =>
        intro T_ wc hcut
        simp only [putT, putM, T, F, Nat.reduceAdd]
        (try dsimp only at hcut)
        clear HC199
        (try clear c1); (try clear p1); (try clear q1); (try clear hx1); (try clear c2); (try clear p2); (try clear c4); (try clear c5); (try clear c6); (try clear p6); (try clear c9); (try clear c10); (try clear c11); (try clear c12); (try clear c13); (try clear c14); (try clear c15); (try clear c16); (try clear c17); (try clear p17); (try clear q17); (try clear hx17); (try clear c18); (try clear c19); (try clear c20); (try clear c21); (try clear c22); (try clear c23); (try clear p64); (try clear c123); (try clear c125); (try clear c126); (try clear c127); (try clear c131); (try clear c132); (try clear c133); (try clear c134); (try clear c140); (try clear c141); (try clear c142); (try clear c143); (try clear c144); (try clear c147); (try clear c148); (try clear c150); (try clear c162); (try clear c163); (try clear c164); (try clear c165); (try clear c166); (try clear c167); (try clear c172); (try clear c173); (try clear p173); (try clear q173); (try clear hx173); (try clear c174); (try clear c175); (try clear c176); (try clear c177); (try clear c178); (try clear c189); (try clear c191); (try clear c191b0); (try clear c192); (try clear c192b0); (try clear c194); (try clear c194b0); (try clear c194b1); (try clear c195); (try clear c195b0); (try clear c195b1); (try clear c198); (try clear c200); (try clear c204); (try clear c205); (try clear c206); (try clear c206b0); (try clear c206b1); (try clear c206b2); (try clear c208); (try clear c209); (try clear c210); (try clear c211); (try clear c212); (try clear c213); (try clear c216); (try clear c217); (try clear c227); (try clear c228); (try clear c229); (try clear c230); (try clear c231); (try clear c232); (try clear c235); (try clear c236); (try clear hcz179_0); (try clear hcz179_1); (try clear hcz181_0); (try clear hcz181_1); (try clear hcz182_0); (try clear hcz182_1); (try clear hcz184_0); (try clear hcz184_1); (try clear hcz185_0); (try clear hcz185_1); (try clear hcz187_0); (try clear hcz187_1); (try clear hcz242_0); (try clear hcz242_1); (try clear hcz243_0); (try clear hcz243_1); (try clear hfz179_0); (try clear hfz179_1); (try clear hfz181_0); (try clear hfz181_1); (try clear hfz182_0); (try clear hfz182_1); (try clear hfz184_0); (try clear hfz184_1); (try clear hfz185_0); (try clear hfz185_1); (try clear hfz187_0); (try clear hfz187_1); (try clear hfz242_0); (try clear hfz242_1); (try clear hfz243_0); (try clear hfz243_1); (try clear hx173_0); (try clear p1); (try clear p17); (try clear p173); (try clear p2); (try clear p6); (try clear p64); (try clear q1); (try clear q17); (try clear q173)
        obtain ⟨kq, HA, HJ198, HO_163001, BK105, BK162, HB⟩ := hcut
        cases kq with
        | zero => exact absurd HA.out (by simp [laws_FnCommitteesChangeOfAll.j4])
        | succ kj198 =>
         have H := HA.out
         clear HA
         simp only [laws_FnCommitteesChangeOfAll.j4] at H
         by_cases c244 : t171 = true
         rotate_left
         ·replace c244 := Bool.eq_false_iff.mpr c244
          subst c244
          replace H := iF H
          by_cases c272 : t167 = true
          rotate_left
          ·replace c272 := Bool.eq_false_iff.mpr c272
           subst c272
           replace H := iF H
           as_aux_lemma =>
            obtain rfl := Option.some.inj H
            go_upto_region 9999 with (first | go_values | go_skip | go_guarded | go_step | go_upon | go_back | ((with_reducible (show Go.Oper.upon _ _ _ _ _ _)); go_simp) | (go_ite <;> go_prune <;> try go_simp))
            go_ret
            exact ⟨fR, wB⟩
          subst c272
          replace H := iT H
          replace H := oB H
          obtain ⟨⟨t195, t196⟩, A2730, H⟩ := H
          (try dsimp only at H)
          have A273 := Aside0.mk A2730
          clear A2730
          replace H := ite_yes H
          obtain ⟨c274, H⟩ := H
          subst c274
          as_aux_lemma =>
           obtain rfl := Option.some.inj H
           (try clear hcz267_0 hcz267_1 hfz267_0 hfz267_1 hcz270_0 hcz270_1 hfz270_0 hfz270_1)
           obtain ⟨hcz276_0, hcz276_1, hfz276_0, hfz276_1⟩ := zZ BK162
           go_upto_region 9999 with (first | ((with_reducible refine gate_callee (f := 13) rfl ?_); refine gL 339 Tryz.func13 #[.agg #[.int .i64 t157, .slice Ao169 t158.length co169]] ?_; (with_reducible refine (impl_CommitteeText.calls kj198 t157 _ _ t158 t195 true _ ?side1 ?side2 A273.out (HZ.out.on HB.out)).mono ?_); (case side1 => have hx_ := (Kd.R_reads' HO_163001.out).2.2; exact cC); (case side2 => exact (Kd.R_reads' HO_163001.out).2.1); rintro e w277 ⟨rfl, hb⟩; refine ⟨_, rfl, ?_⟩; replace HB := sB HB hb; (try clear hb)) | go_values | go_skip | go_guarded | go_step | go_upon | go_back | ((with_reducible (show Go.Oper.upon _ _ _ _ _ _)); go_simp) | (go_ite <;> go_prune <;> try go_simp))
           go_ret
           exact ⟨fR, wB⟩
         subst c244
         replace H := iT H
         replace H := oB H
         obtain ⟨⟨t186, t187, t190⟩, A2450, H⟩ := H
         (try dsimp only at H)
         have A245 := Aside0.mk A2450
         clear A2450
         replace H := ite_yes H
         obtain ⟨c246, H⟩ := H
         subst c246
         replace H := oA H
         obtain ⟨t192, A247, H⟩ := H
         (try dsimp only at H)
         replace H := ite_yes H
         obtain ⟨c248, H⟩ := H
         subst c248
         by_cases c249 : t167 = true
         rotate_left
         ·replace c249 := Bool.eq_false_iff.mpr c249
          subst c249
          replace H := iF H
          as_aux_lemma =>
           obtain rfl := Option.some.inj H
           go_upto_region 42 with (first | ((with_reducible refine gate_callee (f := 15) rfl ?_); refine gL 325 Tryz.func15 #[.string t153] ?_; (with_reducible refine (impl_ParseCommittee.calls kj198 t153 t186 t187 true _ A245.out (HZ.out.on HB.out)).mono ?_); rintro e w263 ⟨v188, rfl, ho0, hb⟩; refine ⟨_, rfl, ?_⟩; have HO189 := Aside0.mk (Kd.R_lower (Kd.R_new' ho0 (Kd.R_lt HO_163001.out)) (below_size HB.out)); replace HO_163001 := rE HO_163001 (Kd.R_base ho0) hb; replace BK105 := bB BK105 hb; replace BK162 := bB BK162 hb; replace HB := sB HB hb; (try clear hb); (try clear ho0)) | ((with_reducible refine gate_dst (N := 53) rfl ?_); (try (refine gate_guard (by rfl) ?_; dsimp only)); refine xE (N := 53) (cs := #[.int .i64 0, .slice none 0 0]) (t := 24) ?_; intro gb191 hg w264 BK191 hb; have GE191 := gS hg HB; have NB105_191 := nL hg (blk_lt BK105.out); have NB191_105 := nG hg (blk_lt BK105.out); have NB162_191 := nL hg (blk_lt BK162.out); have NB191_162 := nG hg (blk_lt BK162.out); replace HO_163001 := rB HO_163001 hb; replace HO189 := rB HO189 hb; replace BK105 := bB BK105 hb; replace BK162 := bB BK162 hb; replace HB := sB HB hb; clear hb hg; have hnb265 := NB191_105.out; have hnc265 := NB105_191.out; have hnb266 := NB191_162.out; have hnc266 := NB162_191.out; (try clear hcz261_0 hcz261_1 hfz261_0 hfz261_1); obtain ⟨hcz267_0, hcz267_1, hfz267_0, hfz267_1⟩ := zZ BK191; obtain ⟨Ao268, co268, eo268⟩ := Kd.R_slice HO189.out; subst eo268; have hnb269 := NB105_162.out; have hnc269 := NB162_105.out; obtain ⟨hcz270_0, hcz270_1, hfz270_0, hfz270_1⟩ := zZ BK105) | go_values | go_skip | go_guarded | go_step | go_upon | go_back | ((with_reducible (show Go.Oper.upon _ _ _ _ _ _)); go_simp) | (go_ite <;> go_prune <;> try go_simp))
           go_upto_region 9999 with (first | (go_at_call 7; (with_reducible refine (laws_mCommittee.calls kj198 t186 _ _ t187 a6_0 _ _ l6_1 true _ ?side1 ?side2 ?side3 ?side4 A247.out).mono ?_); (case side1 => refine (Kd.R_reads' (e := 3) (base := w.heap.size) (ok := fun k_ => (True ∧ nb (.slice Ao169 t158.length co169) k_)) (n := t187.length) (c := co268) ?_).2.2; exact (by exact (Kd.R_mono (Kd.R_far (p := ⟨gb191, 1, none⟩) (Kd.R_far (p := ⟨gb191, 0, none⟩) (Kd.R_types HO189.out BK191.out (by decide)) (fun _ hk => hk.2) (.int .i64 t186)) (fun _ hk => hk.2) (.slice Ao268 t187.length co268)) (fun _ h_ => h_.1)))); (case side2 => exact (Kd.R_reads' HO189.out).2.1); (case side3 => exact Kd.C_below HR6_1.out (by repeat (first | exact HB.out | apply ba | refine bs ?_ GE191.out))); (case side4 => exact HC6_1.out); rintro e w271 ⟨rfl, hb⟩; replace HO_163001 := Aside0.mk (Kd.R_below (by exact (Kd.R_mono (Kd.R_far (p := ⟨gb191, 1, none⟩) (Kd.R_far (p := ⟨gb191, 0, none⟩) (Kd.R_types HO_163001.out BK191.out (by decide)) (fun _ hk => hk.2) (.int .i64 t186)) (fun _ hk => hk.2) (.slice Ao268 t187.length co268)) (fun _ h_ => h_.1))) hb); replace BK162 := Aside0.mk (blk_below (g := gb162) (o := .cells #[.int .i64 t157, .slice Ao169 t158.length co169] 24 (0, 0)) (by refine blk_far ?_ NB162_191.out _; refine blk_far ?_ NB162_191.out _; exact BK162.out) hb); replace HB := Aside0.mk (below_step (by repeat (first | exact HB.out | apply ba | refine bs ?_ GE191.out)) hb); (try clear hb)) | go_values | go_skip | go_guarded | go_step | go_upon | go_back | ((with_reducible (show Go.Oper.upon _ _ _ _ _ _)); go_simp) | (go_ite <;> go_prune <;> try go_simp))
           go_ret
           exact ⟨fR, wB⟩
         subst c249
         replace H := iT H
         replace H := oB H
         obtain ⟨⟨t193, t194⟩, A2500, H⟩ := H
         (try dsimp only at H)
         have A250 := Aside0.mk A2500
         clear A2500
         replace H := ite_yes H
         obtain ⟨c251, H⟩ := H
         subst c251
         as_aux_lemma =>
          obtain rfl := Option.some.inj H
          go_upto_region 42 with (first | ((with_reducible refine gate_callee (f := 15) rfl ?_); refine gL 325 Tryz.func15 #[.string t153] ?_; (with_reducible refine (impl_ParseCommittee.calls kj198 t153 t186 t187 true _ A245.out (HZ.out.on HB.out)).mono ?_); rintro e w252 ⟨v188, rfl, ho0, hb⟩; refine ⟨_, rfl, ?_⟩; have HO189 := Aside0.mk (Kd.R_lower (Kd.R_new' ho0 (Kd.R_lt HO_163001.out)) (below_size HB.out)); replace HO_163001 := rE HO_163001 (Kd.R_base ho0) hb; replace BK105 := bB BK105 hb; replace BK162 := bB BK162 hb; replace HB := sB HB hb; (try clear hb); (try clear ho0)) | ((with_reducible refine gate_dst (N := 53) rfl ?_); (try (refine gate_guard (by rfl) ?_; dsimp only)); refine xE (N := 53) (cs := #[.int .i64 0, .slice none 0 0]) (t := 24) ?_; intro gb191 hg w253 BK191 hb; have GE191 := gS hg HB; have NB105_191 := nL hg (blk_lt BK105.out); have NB191_105 := nG hg (blk_lt BK105.out); have NB162_191 := nL hg (blk_lt BK162.out); have NB191_162 := nG hg (blk_lt BK162.out); replace HO_163001 := rB HO_163001 hb; replace HO189 := rB HO189 hb; replace BK105 := bB BK105 hb; replace BK162 := bB BK162 hb; replace HB := sB HB hb; clear hb hg; have hnb254 := NB191_105.out; have hnc254 := NB105_191.out; have hnb255 := NB191_162.out; have hnc255 := NB162_191.out; obtain ⟨hcz256_0, hcz256_1, hfz256_0, hfz256_1⟩ := zZ BK191; obtain ⟨Ao257, co257, eo257⟩ := Kd.R_slice HO189.out; subst eo257; have hnb258 := NB105_162.out; have hnc258 := NB162_105.out; obtain ⟨hcz259_0, hcz259_1, hfz259_0, hfz259_1⟩ := zZ BK105) | go_values | go_skip | go_guarded | go_step | go_upon | go_back | ((with_reducible (show Go.Oper.upon _ _ _ _ _ _)); go_simp) | (go_ite <;> go_prune <;> try go_simp))
          go_upto_region 45 with (first | (go_at_call 7; (with_reducible refine (laws_mCommittee.calls kj198 t186 _ _ t187 a6_0 _ _ l6_1 true _ ?side1 ?side2 ?side3 ?side4 A247.out).mono ?_); (case side1 => refine (Kd.R_reads' (e := 3) (base := w.heap.size) (ok := fun k_ => (True ∧ nb (.slice Ao169 t158.length co169) k_)) (n := t187.length) (c := co257) ?_).2.2; exact (by exact (Kd.R_mono (Kd.R_far (p := ⟨gb191, 1, none⟩) (Kd.R_far (p := ⟨gb191, 0, none⟩) (Kd.R_types HO189.out BK191.out (by decide)) (fun _ hk => hk.2) (.int .i64 t186)) (fun _ hk => hk.2) (.slice Ao257 t187.length co257)) (fun _ h_ => h_.1)))); (case side2 => exact (Kd.R_reads' HO189.out).2.1); (case side3 => exact Kd.C_below HR6_1.out (by repeat (first | exact HB.out | apply ba | refine bs ?_ GE191.out))); (case side4 => exact HC6_1.out); rintro e w260 ⟨rfl, hb⟩; replace HO_163001 := Aside0.mk (Kd.R_below (by exact (Kd.R_mono (Kd.R_far (p := ⟨gb191, 1, none⟩) (Kd.R_far (p := ⟨gb191, 0, none⟩) (Kd.R_types HO_163001.out BK191.out (by decide)) (fun _ hk => hk.2) (.int .i64 t186)) (fun _ hk => hk.2) (.slice Ao257 t187.length co257)) (fun _ h_ => h_.1))) hb); replace HO189 := Aside0.mk (Kd.R_below (by exact (Kd.R_mono (Kd.R_far (p := ⟨gb191, 1, none⟩) (Kd.R_far (p := ⟨gb191, 0, none⟩) (Kd.R_types HO189.out BK191.out (by decide)) (fun _ hk => hk.2) (.int .i64 t186)) (fun _ hk => hk.2) (.slice Ao257 t187.length co257)) (fun _ h_ => h_.1))) hb); replace BK105 := Aside0.mk (blk_below (g := gb105) (o := .cells #[.int .i64 a6_0, .slice A6_1 l6_1.length c6_1] 24 (0, 0)) (by refine blk_far ?_ NB105_191.out _; refine blk_far ?_ NB105_191.out _; exact BK105.out) hb); replace BK162 := Aside0.mk (blk_below (g := gb162) (o := .cells #[.int .i64 t157, .slice Ao169 t158.length co169] 24 (0, 0)) (by refine blk_far ?_ NB162_191.out _; refine blk_far ?_ NB162_191.out _; exact BK162.out) hb); replace BK191 := Aside0.mk (blk_below (g := gb191) (o := .cells #[.int .i64 t186, .slice Ao257 t187.length co257] 24 (0, 0)) (by refine blk_put (cs := #[.int .i64 t186, .slice none 0 0]) ?_ 1 _ rfl; refine blk_put (cs := #[.int .i64 0, .slice none 0 0]) ?_ 0 _ rfl; exact BK191.out) hb); replace HB := Aside0.mk (below_step (by repeat (first | exact HB.out | apply ba | refine bs ?_ GE191.out)) hb); (try clear hb); obtain ⟨hcz261_0, hcz261_1, hfz261_0, hfz261_1⟩ := zZ BK162) | go_values | go_skip | go_guarded | go_step | go_upon | go_back | ((with_reducible (show Go.Oper.upon _ _ _ _ _ _)); go_simp) | (go_ite <;> go_prune <;> try go_simp))
          go_upto_region 9999 with (first | ((with_reducible refine gate_callee (f := 13) rfl ?_); refine gL 339 Tryz.func13 #[.agg #[.int .i64 t157, .slice Ao169 t158.length co169]] ?_; (with_reducible refine (impl_CommitteeText.calls kj198 t157 _ _ t158 t193 true _ ?side1 ?side2 A250.out (HZ.out.on HB.out)).mono ?_); (case side1 => have hx_ := (Kd.R_reads' HO_163001.out).2.2; exact cC); (case side2 => exact (Kd.R_reads' HO_163001.out).2.1); rintro e w262 ⟨rfl, hb⟩; refine ⟨_, rfl, ?_⟩; replace HO_163001 := rB HO_163001 hb; replace HO189 := rB HO189 hb; replace BK105 := bB BK105 hb; replace BK162 := bB BK162 hb; replace BK191 := bB BK191 hb; replace HB := sB HB hb; (try clear hb)) | go_values | go_skip | go_guarded | go_step | go_upon | go_back | ((with_reducible (show Go.Oper.upon _ _ _ _ _ _)); go_simp) | (go_ite <;> go_prune <;> try go_simp))
          go_ret
          exact ⟨fR, wB⟩
end Go.Proofs.YtaambkdiokbdgacGreatDoor.Q
namespace Go.Proofs.YtaambkdiokbdgacGreatDoor.Q
open Go.RowKit Go.Proofs.YtaambkdiokbdgacGreatDoorW.PrintWords Go.Proofs.YtaambkdiokbdgacGreatDoorW.PrintLast Go.Proofs.YtaambkdiokbdgacGreatDoorW.PrintMore Go.Proofs.YtaambkdiokbdgacGreatDoorM
set_option linter.unusedVariables false
set_option linter.unusedSimpArgs false
theorem impl_votesOf.at_l (n N : Nat) (hN : N ≤ 1000000) (P : Int → Option Bool) (p : Nat → Bool) (hP : ∀ m, m < N → P (m : Int) = some (p m)) : ∀ (d m k : Nat) (acc : List Bool), m + d = N → d < k → acc.length = N → acc.take m = ((List.range N).map p).take m → impl_votesOf.l0 k P (N : Int) (m : Int) (n : Int) acc = some ((n : Int), (List.range N).map p) := by
  intro d
  induction d with
  | zero =>
    intro m k acc h hk hlen ht
    obtain ⟨k, rfl⟩ : ∃ j, k = j + 1 := ⟨k - 1, by omega⟩
    simp only [impl_votesOf.l0]
    rw [List.take_of_length_le (by omega), List.take_of_length_le (by simp; omega)] at ht
    rw [if_neg (by omega), ht]
  | succ d ih =>
    intro m k acc h hk hlen ht
    obtain ⟨k, rfl⟩ : ∃ j, k = j + 1 := ⟨k - 1, by omega⟩
    have hm : m < N := by omega
    simp only [impl_votesOf.l0]
    rw [if_pos (by omega), hP m hm, Option.bind_some, if_pos (by omega), if_pos (by omega), w64i (n := N) (by omega) (by omega) (by omega), Int.toNat_natCast]
    refine ih (m + 1) k (acc.set m (p m)) (by omega) (by omega) (by simpa using hlen) ?_
    rw [List.take_succ_eq_append_getElem (by simp; omega), List.take_succ_eq_append_getElem (by simp; omega), List.take_set_of_le (by omega), ht]
    simp
theorem impl_votesOf.ev (n : Nat) (hn : n ≤ 19) (g : Nat → Int → Option Bool) (p : Nat → Bool) (hg : ∀ m : Nat, m < 2 ^ n → Ev (fun k => g k (m : Int)) (p m)) : Ev (fun k => impl_votesOf.f k (n : Int) (g k)) ((n : Int), (List.range (2 ^ n)).map p) := by
  have hp : 2 ^ n ≤ 2 ^ 19 := Nat.pow_le_pow_right (by omega) hn
  have h0 : 0 < 2 ^ n := Nat.two_pow_pos n
  generalize hN : 2 ^ n = N at *
  obtain ⟨K, hK⟩ := ev_all N (fun k m => g k (m : Int)) p hg
  refine ⟨max K (N + 1), fun k hk => ?_⟩
  simp only [impl_votesOf.f]
  rw [if_pos (by omega), shl_one n (by omega), hN, if_pos (by omega), Int.toNat_natCast, if_pos (by omega), Option.bind_some, List.length_replicate]
  exact impl_votesOf.at_l n N (by omega) (g k) p (fun m hm => hK k (by omega) m hm) N 0 k _ (by omega) (by omega) (by simp) (by simp)
theorem impl_has.v (m i : Nat) (hm : m < 2 ^ 62) (hi : i ≤ 62) : impl_has.f (m : Int) (i : Int) = some (decide (m / 2 ^ i % 2 = 1)) := by
  unfold impl_has.f
  have hlt : m / 2 ^ i < 2 ^ 62 := Nat.lt_of_le_of_lt (Nat.div_le_self _ _) hm
  rw [if_pos (by omega), shr_nat m i (by omega), Go.Proofs.YtaambkdiokbdgacGreatDoorM.and_one _ hlt]
  congr 1
  by_cases h : m / 2 ^ i % 2 = 1
  · simp [h]
  · have : m / 2 ^ i % 2 = 0 := by omega
    simp [this]
theorem impl_Committee_weight.ev_l (q : Int) (ws : List Int) (m : Nat) (hm : m < 2 ^ 62) (hl : ws.length ≤ 60) (hw : ∀ x ∈ ws, 0 ≤ x ∧ x ≤ 1000000000) : ∀ (d i : Nat) (s : Int), i + d = ws.length → 0 ≤ s → s + wsum (ws.drop i) (m / 2 ^ i) ≤ 1000000000000 → Ev (fun k => impl_Committee_weight.l0 k (m : Int) s ws (ws.length : Int) (i : Int)) (s + wsum (ws.drop i) (m / 2 ^ i)) := by
  intro d
  induction d with
  | zero =>
    intro i s h _ _
    refine ev_step ?_
    simp only [impl_Committee_weight.l0]
    rw [ev_neg (by omega), ev_now, List.drop_of_length_le (by omega)]
    simp [wsum]
  | succ d ih =>
    intro i s h h0 h1
    refine ev_step ?_
    simp only [impl_Committee_weight.l0]
    have hi : i < ws.length := by omega
    have hx := hw ws[i] (List.getElem_mem hi)
    have hd : wsum (ws.drop i) (m / 2 ^ i) = (if m / 2 ^ i % 2 = 1 then ws[i] else 0) + wsum (ws.drop (i + 1)) (m / 2 ^ (i + 1)) := by
      rw [wsum_drop ws i _ hi, Nat.div_div_eq_div_mul, ← Nat.pow_succ]
    have hb := wsum_bounds (ws.drop (i + 1)) (fun x hx => (hw x (List.mem_of_mem_drop hx)).1) (m / 2 ^ (i + 1))
    rw [ev_pos (by omega), ev_pos (by omega), ev_pos (by omega), ev_bind (ev_of (impl_has.v m i hm (by omega))), w64i (n := ws.length) (by omega) (by omega) (by omega), rd_lt ws i hi, hd]
    rw [hd] at h1
    by_cases hbit : m / 2 ^ i % 2 = 1
    · rw [if_pos hbit] at h1 ⊢
      rw [ev_pos (by simpa using hbit), w64 (by omega) (by omega), ← Int.add_assoc]
      exact ih (i + 1) (s + ws[i]) (by omega) (by omega) (by omega)
    · rw [if_neg hbit] at h1 ⊢
      rw [ev_neg (by simpa using hbit), Int.zero_add]
      exact ih (i + 1) s (by omega) h0 (by omega)
theorem impl_Committee_weight.ev (q : Int) (ws : List Int) (m : Nat) (hm : m < 2 ^ 62) (hl : ws.length ≤ 60) (hw : ∀ x ∈ ws, 0 ≤ x ∧ x ≤ 1000000000) : Ev (fun k => impl_Committee_weight.f k q ws (m : Int)) (wsum ws m) := by
  have hb := wsum_bounds ws (fun x hx => (hw x hx).1) m
  have hs := sum_bounds ws 1000000000 hw
  have := impl_Committee_weight.ev_l q ws m hm hl hw ws.length 0 0 (by omega) (by omega) (by simp; omega)
  simpa [impl_Committee_weight.f] using this
theorem impl_Committee_votes.ev (q : Int) (ws : List Int) (hl : ws.length ≤ 9) (hw : ∀ x ∈ ws, 0 ≤ x ∧ x ≤ 1000000000) : Ev (fun k => impl_Committee_votes.f k q ws) ((ws.length : Int), winsL q ws) := by
  have hp : 2 ^ ws.length ≤ 2 ^ 9 := Nat.pow_le_pow_right (by omega) hl
  refine impl_votesOf.ev ws.length (by omega) (fun k => impl_Committee_votes_1.f k q ws) (fun m => decide (q ≤ wsum ws m)) (fun m hm => ?_)
  simp only [impl_Committee_votes_1.f]
  rw [ev_bind (impl_Committee_weight.ev q ws m (by omega) (by omega) hw), ev_now]
theorem impl_sumOf.ev_l (l : List Int) (hl : l.length ≤ 9223372036854775807) : ∀ (d i : Nat) (s : Int), i + d = l.length → Ev (fun k => impl_sumOf.l0 k s l (l.length : Int) (i : Int)) (wfold (l.drop i) s) := by
  intro d
  induction d with
  | zero =>
    intro i s h
    refine ev_step ?_
    simp only [impl_sumOf.l0]
    rw [ev_neg (by omega), ev_now, List.drop_of_length_le (by omega)]
    rfl
  | succ d ih =>
    intro i s h
    refine ev_step ?_
    simp only [impl_sumOf.l0]
    have hi : i < l.length := by omega
    rw [ev_pos (by omega), ev_pos (by omega), ev_pos (by omega), w64i (n := l.length) (by omega) (by omega) hl, rd_lt l i hi, wfold_take l i hi]
    exact ih (i + 1) _ (by omega)
theorem impl_sumOf.ev (l : List Int) (hl : l.length ≤ 9223372036854775807) : Ev (fun k => impl_sumOf.f k l) (wfold l 0) := impl_sumOf.ev_l l hl l.length 0 0 (by omega)
theorem impl_within.v (a b c : Int) : impl_within.f a b c = some (decide (b ≤ a) && decide (a ≤ c)) := by
  unfold impl_within.f
  by_cases h : b ≤ a
  · rw [if_pos h]; simp [h]
  · rw [if_neg h]; simp [h]
theorem impl_IsCommittee.ev (q : Int) (l : List Int) (hl : l.length ≤ 9223372036854775807) : Ev (fun k => impl_IsCommittee.f k q l) (goodB q l) := by
  simp only [impl_IsCommittee.f]
  unfold goodB
  by_cases h1 : 1 ≤ l.length
  · rw [ev_pos (by omega)]
    by_cases h2 : l.length ≤ 9
    · rw [ev_pos (by omega), ev_bind (ev_of (show impl_areIn.f l 0 1000 = some _ from rfl))]
      cases hb : (l.all fun x => decide (0 ≤ x) && decide (x ≤ 1000)) with
      | true =>
        rw [ev_pos rfl, ev_bind (impl_sumOf.ev l hl), ev_bind (ev_of (impl_within.v _ _ _)), ev_now, wfold_w l h2 hb]
        simp [h1, h2]
      | false =>
        rw [ev_neg (by simp), ev_now]
        simp
    · rw [ev_neg (by omega), ev_now]
      simp [h2]
  · rw [ev_neg (by omega), ev_now]
    simp [h1]
def cntW (W : List Bool) : Int := (W.count true : Nat)
theorem count_drop (W : List Bool) (i : Nat) (h : i < W.length) : (W.drop i).count true = (W.drop (i + 1)).count true + if W.getD i false = true then 1 else 0 := by
  rw [List.drop_eq_getElem_cons h, List.count_cons, List.getD_eq_getElem?_getD, List.getElem?_eq_getElem h, Option.getD_some]
  cases W[i] <;> rfl
theorem impl_votes_countWins.ev_l (W : List Bool) (hW : W.length ≤ 1000000) : ∀ (d i : Nat) (s : Int), i + d = W.length → 0 ≤ s → s + d ≤ 2000000 → Ev (fun k => impl_votes_countWins.l0 k s W (W.length : Int) (i : Int)) (s + ((W.drop i).count true : Nat)) := by
  intro d
  induction d with
  | zero =>
    intro i s h h0 h1
    refine ev_step ?_
    simp only [impl_votes_countWins.l0]
    rw [ev_neg (by omega), ev_now, List.drop_of_length_le (by omega)]
    simp
  | succ d ih =>
    intro i s h h0 h1
    refine ev_step ?_
    simp only [impl_votes_countWins.l0]
    have hi : i < W.length := by omega
    rw [ev_pos (by omega), ev_pos (by omega), ev_pos (by omega), rdOf_nat, w64i (i := (i : Int)) (n := W.length) (by omega) (by omega) (by omega), count_drop W i hi]
    cases hb : W.getD i false with
    | false =>
      rw [ev_neg (by decide), if_neg (by decide)]
      exact ih (i + 1) s (by omega) h0 (by omega)
    | true =>
      have := ih (i + 1) (s + 1) (by omega) (by omega) (by omega)
      rw [ev_pos rfl, if_pos rfl, w64 (by omega) (by omega)]
      rw [show s + (((W.drop (i + 1)).count true + 1 : Nat) : Int) = s + 1 + ((W.drop (i + 1)).count true : Nat) by omega]
      exact this
theorem impl_votes_countWins.ev (n : Int) (W : List Bool) (hW : W.length ≤ 1000000) : Ev (fun k => impl_votes_countWins.f k n W) (cntW W) := by
  have := impl_votes_countWins.ev_l W hW W.length 0 0 (by omega) (by omega) (by omega)
  rw [List.drop_zero, Int.zero_add] at this
  exact this
def cwV (q : Int) (ws : List Int) : Int × Bool := if goodB q ws = true then (cntW (winsL q ws), true) else (0, false)
theorem impl_CountWinning.ev (q : Int) (ws : List Int) (hl : ws.length ≤ 9223372036854775807) : Ev (fun k => impl_CountWinning.f k q ws) (cwV q ws) := by
  simp only [impl_CountWinning.f]
  rw [ev_bind (impl_IsCommittee.ev q ws hl)]
  unfold cwV
  cases hg : goodB q ws with
  | false => rw [ev_neg (by decide), ev_now, if_neg (by decide)]
  | true =>
    have hc := (good_iff q ws).1 hg
    have hp := hc.pow
    have hwl := winsL_length q ws
    rw [ev_pos rfl, if_pos rfl, ev_bind (impl_Committee_votes.ev q ws hc.l9 hc.wb), ev_bind (impl_votes_countWins.ev _ (winsL q ws) (by omega)), ev_now]
theorem cnt_range (W : List Bool) : ∀ N, N ≤ W.length → ((W.take N).count true) = ((List.range N).filter fun m => W.getD m false).length := by
  intro N
  induction N with
  | zero => intro _; simp
  | succ N ih =>
    intro h
    have hN : N < W.length := by omega
    rw [List.range_succ, List.filter_append, List.length_append, ← ih (by omega), List.take_succ_eq_append_getElem hN, List.count_append, List.filter_cons, List.getD_eq_getElem?_getD, List.getElem?_eq_getElem hN, Option.getD_some]
    cases W[N] <;> rfl
theorem cntW_range (W : List Bool) : cntW W = (((List.range W.length).filter fun m => W.getD m false).length : Nat) := by
  unfold cntW
  rw [← cnt_range W W.length (Nat.le_refl _), List.take_length]
def ifGood (q : Int) (l : List Int) : Int × List Int × Bool := if goodB q l = true then (q, l, true) else (0, [], false)
theorem impl_ifCommittee.ev (q : Int) (l : List Int) (hl : l.length ≤ 9223372036854775807) : Ev (fun k => impl_ifCommittee.f k q l) (ifGood q l) := by
  simp only [impl_ifCommittee.f]
  rw [ev_bind (impl_IsCommittee.ev q l hl)]
  unfold ifGood
  cases goodB q l with
  | true => rw [ev_pos rfl, ev_now, if_pos rfl]
  | false => rw [ev_neg (by simp), ev_now, if_neg (by simp)]
def bitB (m i : Nat) : Bool := decide (m / 2 ^ i % 2 = 1)
def setN (m : Nat) : List Int := ((List.range 62).filter (bitB m)).map fun (i : Nat) => (i : Int)
def setTo (m i : Nat) : List Int := ((List.range i).filter (bitB m)).map fun (i : Nat) => (i : Int)
theorem bitB_high {m i j : Nat} (h : m / 2 ^ i = 0) (hij : i ≤ j) : bitB m j = false := by
  unfold bitB
  have : m < 2 ^ i := by
    rcases Nat.lt_or_ge m (2 ^ i) with h1 | h1
    · exact h1
    · have := Nat.div_pos h1 (Nat.two_pow_pos i)
      omega
  have h2 : 2 ^ i ≤ 2 ^ j := Nat.pow_le_pow_right (by omega) hij
  rw [Nat.div_eq_of_lt (by omega)]
  rfl
theorem setTo_done {m i : Nat} (h : m / 2 ^ i = 0) (hi : i ≤ 62) : setTo m i = setN m := by
  unfold setTo setN
  rw [show List.range 62 = List.range i ++ (List.range (62 - i)).map (i + ·) by rw [← List.range_add]; congr 1; omega, List.filter_append]
  have : ((List.range (62 - i)).map (i + ·)).filter (bitB m) = [] := by
    rw [List.filter_eq_nil_iff]
    intro j hj
    obtain ⟨a, _, rfl⟩ := List.mem_map.1 hj
    rw [bitB_high h (by omega)]
    decide
  rw [this, List.append_nil]
theorem setTo_succ (m i : Nat) : setTo m (i + 1) = if bitB m i = true then setTo m i ++ [(i : Int)] else setTo m i := by
  unfold setTo
  rw [List.range_succ, List.filter_append, List.map_append]
  by_cases h : bitB m i = true
  · rw [if_pos h]
    simp [h]
  · rw [if_neg h]
    simp [h]
theorem setTo_len (m i : Nat) : (setTo m i).length ≤ i := by
  unfold setTo
  rw [List.length_map]
  have := List.length_filter_le (bitB m) (List.range i)
  rw [List.length_range] at this
  exact this
theorem setN_to {m n : Nat} (h : m < 2 ^ n) (hn : n ≤ 62) : setN m = setTo m n := (setTo_done (Nat.div_eq_of_lt h) hn).symm
theorem setTo_in {m n : Nat} : ∀ x ∈ setTo m n, 0 ≤ x ∧ x < (n : Int) ∧ bitB m x.toNat = true := by
  intro x hx
  obtain ⟨i, hi, rfl⟩ := List.mem_map.1 hx
  rw [List.mem_filter, List.mem_range] at hi
  exact ⟨by omega, by omega, by rw [Int.toNat_natCast]; exact hi.2⟩
def leastB (W : List Bool) (n m : Nat) : Bool := W.getD m false && (List.range n).all fun i => !(bitB m i) || !(W.getD (m - 2 ^ i) false)
def takeL (P : Nat → Bool) (i : Nat) : List (List Int) := ((List.range i).filter P).map setN
theorem takeL_succ (P : Nat → Bool) (i : Nat) : takeL P (i + 1) = if P i = true then takeL P i ++ [setN i] else takeL P i := by
  unfold takeL
  rw [List.range_succ, List.filter_append, List.map_append]
  by_cases h : P i = true
  · rw [if_pos h]
    simp [h]
  · rw [if_neg h]
    simp [h]
theorem takeL_len (P : Nat → Bool) (i : Nat) : (takeL P i).length ≤ i := by
  unfold takeL
  rw [List.length_map]
  have := List.length_filter_le P (List.range i)
  rw [List.length_range] at this
  exact this
theorem takeL_mem {P : Nat → Bool} {i : Nat} : ∀ x ∈ takeL P i, ∃ m, m < i ∧ P m = true ∧ x = setN m := by
  intro x hx
  obtain ⟨m, hm, rfl⟩ := List.mem_map.1 hx
  rw [List.mem_filter, List.mem_range] at hm
  exact ⟨m, hm.1, hm.2, rfl⟩
end Go.Proofs.YtaambkdiokbdgacGreatDoor.Q
