/- Printed functions, their contracts and plain facts on them: QSpecL1CurCommittee; QSpecDrawIsCommittee; QSpecDrawLeastWinning; QImplVotesOf; QImplCommitteeVotes; QImplVotesIsLeast; QCmpIsNaNInt; QCmpCompareInt; QSlicesCom. Conditions: as each theorem states. -/
import Derived.Test.YtamfpkefnhcngaaGreatGLeastSetsWinx1
set_option maxHeartbeats 8000000
set_option maxRecDepth 100000
namespace Go.Proofs.YtamfpkefnhcngaaGreat.Q
open Go.RowKit Go.Proofs.YtamfpkefnhcngaaGreatX Go.Proofs.YtamfpkefnhcngaaGreatY Go.Proofs.YtamfpkefnhcngaaGreatW.PrintWords Go.Proofs.YtamfpkefnhcngaaGreatW.PrintLast Go.Proofs.YtamfpkefnhcngaaGreatW.PrintMore
attribute [local go_sem] max2_int min2_int max_two min_two max_three min_three max_four min_four   -- for this text's walks alone
set_option linter.unusedVariables false
set_option linter.unusedSimpArgs false
def spec_l1Cur_committee.l0 : Nat → List Int → Int → Int → Int → List Int → Option (Int × List Int × Int × Int)
 | 0, _, _, _, _, _ => none
 | k + 1, x1000, x1001, x1002, x109000, x109001 => (spec_l1Cur_pick.f x1000 x1001 x1002 2).bind fun bt127 => (if (x109001.length : Int) < (wrap64 (9 + bt127.1)) then (if x109001.length < 17592186044416 then (spec_l1Cur_committee.l0 k x1000 bt127.2.1 bt127.2.2 x109000 (x109001 ++ [1])) else (none)) else (some (x109000, x109001, bt127.2.1, bt127.2.2)))
def spec_l1Cur_committee.f (k : Nat) (s0_0 : List Int) (s0_1 : Int) (s0_2 : Int) (a1 : Int) : Option (Int × List Int × Int × Int) := (spec_l1Cur_sureCommittee.f k s0_0 s0_1 s0_2 a1).bind fun bt102 => ((spec_l1Cur_pick.f s0_0 bt102.2.2.1 bt102.2.2.2 16).bind fun bt109 => (if bt109.1 = 0 then ((spec_voSum.f k bt102.2.1).bind fun t112 => ((spec_voSum.f k bt102.2.1).bind fun t113 => ((spec_l1Cur_among.f s0_0 bt109.2.1 bt109.2.2 (([(-1), 0, 1, t112, wrap64 (t113 + 1), 4611686018427387904] : List Int))).bind fun bt117 => (some (bt117.1, bt102.2.1, bt117.2.1, bt117.2.2))))) else (if bt109.1 = 1 then ((spec_l1Cur_among.f s0_0 bt109.2.1 bt109.2.2 (([(-1), 0, 1000, 1001, 4611686018427387904] : List Int))).bind fun bt123 => (if 0 < (bt102.2.1.length : Int) then (some (bt102.1, (bt102.2.1.set (0 : Int).toNat bt123.1), bt123.2.1, bt123.2.2)) else (none))) else (if bt109.1 = 2 then (spec_l1Cur_committee.l0 k s0_0 bt109.2.1 bt109.2.2 bt102.1 bt102.2.1) else (if bt109.1 = 3 then (some (1, ([] : List Int), bt109.2.1, bt109.2.2)) else (some (bt102.1, bt102.2.1, bt109.2.1, bt109.2.2)))))))
def spec_l1Cur_committee.T4 : Bool × List (List Nat × List Nat) := (true, [([], []), ([], []), ([1], [1]), ([2], [2]), ([], []), ([4], [4]), ([5, 3], [5]), ([6], [6]), ([3, 7], [3, 7]), ([0, 8, 6], [0, 8]), ([0, 1, 2, 3, 4, 5, 6, 7, 8, 9], []), ([10, 9, 9, 0, 1, 2, 3, 4, 5, 6, 7, 8, 9], [9, 10])])
def spec_l1Cur_committee.B4 : List Nat := [0, 0, 2, 6, 0, 16, 62, 126, 254, 511, 1023, 2047]
theorem spec_l1Cur_committee.tab4 : rtab .any (opsOf Tryz.f133 4) = spec_l1Cur_committee.T4 := by kernel_rfl
theorem spec_l1Cur_committee.bits4 : waitsOk spec_l1Cur_committee.T4.2 spec_l1Cur_committee.B4 = true := by kernel_rfl
theorem spec_l1Cur_committee.calls (k : Nat) (g : Nat) (s0_0 : List Int) (s0_1 : Int) (s0_2 : Int) (a1 : Int) (r1 : Int) (r2 : List Int) (r3 : Int) (r4 : Int) (w0 w : World) (hI : IsS82 w0 w g s0_0 s0_1 s0_2) (hB : Below w0.heap.size w0 w) (h : spec_l1Cur_committee.f k s0_0 s0_1 s0_2 a1 = some (r1, r2, r3, r4)) :
  Calls Tryz.prog 133 #[.pointer (some ⟨g, 0, none⟩), .int .i64 a1] w fun e w' => ∃ v1_ : Value, e = .returned (.agg #[.int .i64 r1, v1_]) ∧ Kd.R (Kd.int .i64) 3 w' w.heap.size (fun _ => True) v1_ r2 ∧ IsS82 w0 w' g s0_0 r3 r4 ∧ Below w0.heap.size w0 w' ∧ KeepBut w w' g none := by
 have hu26 := Tryz.underlying26
 have HI0 := Aside0.mk hI
 have HK := Aside0.mk (KeepBut.refl w g none)
 have HL := Aside0.mk hB.size
 clear hI
 have HW0 := Aside0.mk hB.size
 have HB := Aside0.mk hB
 clear hB
 have H : ((spec_l1Cur_sureCommittee.f k s0_0 s0_1 s0_2 a1).bind fun bt102 => ((spec_l1Cur_pick.f s0_0 bt102.2.2.1 bt102.2.2.2 16).bind fun bt109 => (if bt109.1 = 0 then ((spec_voSum.f k bt102.2.1).bind fun t112 => ((spec_voSum.f k bt102.2.1).bind fun t113 => ((spec_l1Cur_among.f s0_0 bt109.2.1 bt109.2.2 (([(-1), 0, 1, t112, wrap64 (t113 + 1), 4611686018427387904] : List Int))).bind fun bt117 => (some (bt117.1, bt102.2.1, bt117.2.1, bt117.2.2))))) else (if bt109.1 = 1 then ((spec_l1Cur_among.f s0_0 bt109.2.1 bt109.2.2 (([(-1), 0, 1000, 1001, 4611686018427387904] : List Int))).bind fun bt123 => (if 0 < (bt102.2.1.length : Int) then (some (bt102.1, (bt102.2.1.set (0 : Int).toNat bt123.1), bt123.2.1, bt123.2.2)) else (none))) else (if bt109.1 = 2 then (spec_l1Cur_committee.l0 k s0_0 bt109.2.1 bt109.2.2 bt102.1 bt102.2.1) else (if bt109.1 = 3 then (some (1, ([] : List Int), bt109.2.1, bt109.2.2)) else (some (bt102.1, bt102.2.1, bt109.2.1, bt109.2.2)))))))) = some (r1, r2, r3, r4) := h
 clear h
 replace H := oB H
 obtain ⟨⟨t102, t103, t106, t107⟩, A30, H⟩ := H
 replace H : ((spec_l1Cur_pick.f s0_0 t106 t107 16).bind fun bt109 => (if bt109.1 = 0 then ((spec_voSum.f k t103).bind fun t112 => ((spec_voSum.f k t103).bind fun t113 => ((spec_l1Cur_among.f s0_0 bt109.2.1 bt109.2.2 (([(-1), 0, 1, t112, wrap64 (t113 + 1), 4611686018427387904] : List Int))).bind fun bt117 => (some (bt117.1, t103, bt117.2.1, bt117.2.2))))) else (if bt109.1 = 1 then ((spec_l1Cur_among.f s0_0 bt109.2.1 bt109.2.2 (([(-1), 0, 1000, 1001, 4611686018427387904] : List Int))).bind fun bt123 => (if 0 < (t103.length : Int) then (some (t102, (t103.set (0 : Int).toNat bt123.1), bt123.2.1, bt123.2.2)) else (none))) else (if bt109.1 = 2 then (spec_l1Cur_committee.l0 k s0_0 bt109.2.1 bt109.2.2 t102 t103) else (if bt109.1 = 3 then (some (1, ([] : List Int), bt109.2.1, bt109.2.2)) else (some (t102, t103, bt109.2.1, bt109.2.2))))))) = some (r1, r2, r3, r4) := H
 have A3 := Aside0.mk A30
 clear A30
 replace H := oB H
 obtain ⟨⟨t109, t110, t111⟩, A40, H⟩ := H
 replace H : (if t109 = 0 then ((spec_voSum.f k t103).bind fun t112 => ((spec_voSum.f k t103).bind fun t113 => ((spec_l1Cur_among.f s0_0 t110 t111 (([(-1), 0, 1, t112, wrap64 (t113 + 1), 4611686018427387904] : List Int))).bind fun bt117 => (some (bt117.1, t103, bt117.2.1, bt117.2.2))))) else (if t109 = 1 then ((spec_l1Cur_among.f s0_0 t110 t111 (([(-1), 0, 1000, 1001, 4611686018427387904] : List Int))).bind fun bt123 => (if 0 < (t103.length : Int) then (some (t102, (t103.set (0 : Int).toNat bt123.1), bt123.2.1, bt123.2.2)) else (none))) else (if t109 = 2 then (spec_l1Cur_committee.l0 k s0_0 t110 t111 t102 t103) else (if t109 = 3 then (some (1, ([] : List Int), t110, t111)) else (some (t102, t103, t110, t111)))))) = some (r1, r2, r3, r4) := H
 have A4 := Aside0.mk A40
 clear A40
 by_cases c5 : t109 = 0
 ·rw [if_pos c5] at H
  have c5b0 : (t109 == 0) = true := beq_iff_eq.mpr c5
  have c5b1 : (t109 != 0) = false := bne_eq_false_iff_eq.mpr c5
  clear c5
  replace H := oB H
  obtain ⟨t112, A60, H⟩ := H
  replace H : ((spec_voSum.f k t103).bind fun t113 => ((spec_l1Cur_among.f s0_0 t110 t111 (([(-1), 0, 1, t112, wrap64 (t113 + 1), 4611686018427387904] : List Int))).bind fun bt117 => (some (bt117.1, t103, bt117.2.1, bt117.2.2)))) = some (r1, r2, r3, r4) := H
  have A6 := Aside0.mk A60
  clear A60
  replace H := oB H
  obtain ⟨t113, A70, H⟩ := H
  replace H : ((spec_l1Cur_among.f s0_0 t110 t111 (([(-1), 0, 1, t112, wrap64 (t113 + 1), 4611686018427387904] : List Int))).bind fun bt117 => (some (bt117.1, t103, bt117.2.1, bt117.2.2))) = some (r1, r2, r3, r4) := H
  have A7 := Aside0.mk A70
  clear A70
  obtain ⟨y114, hy114⟩ : ∃ y_ : List Int, y_ = (([(-1), 0, 1, t112, wrap64 (t113 + 1), 4611686018427387904] : List Int)) := ⟨_, rfl⟩
  replace H : ((spec_l1Cur_among.f s0_0 t110 t111 y114).bind fun bt117 => (some (bt117.1, t103, bt117.2.1, bt117.2.2))) = some (r1, r2, r3, r4) := by first | (rw [hy114]; with_reducible exact H) | (have H2_ := (Option.bind_some _ _).symm.trans H; rw [hy114]; with_reducible exact H2_) | (have H2_ := (Option.bind_some _ _).symm.trans H; with_reducible exact H2_) | with_reducible exact H | (rw [hy114]; exact H) | exact H
  have Ny114 := Aside0.mk hy114
  clear hy114
  replace H := oB H
  obtain ⟨⟨t117, t118, t119⟩, A80, H⟩ := H
  replace H : (some (t117, t103, t118, t119)) = some (r1, r2, r3, r4) := H
  have A8 := Aside0.mk A80
  clear A80
  simp only [Option.some.injEq, Prod.mk.injEq] at H
  obtain ⟨rfl, rfl, rfl, rfl⟩ := H
  go_enter Tryz.func133, Tryz.ntmps133
  try go_wp2_with (first | ((with_reducible refine gate_dst (N := 4) rfl ?_); refine box_event ?hg (N := 4) ?hd (cs := #[.int .i64 0, .slice none 0 0]) (t := 26) ?hr ?_; (case hd => rfl); (case hg => rfl); (case hr => first | (go_simp; done) | (go_simp; rfl)); intro gb101 hg w9 hbox hb; have n0_ := Aside0.mk (IsS82.below (by repeat (first | (with_reducible first | exact HI0.out | apply IsS82.alloc | apply IsS82.drewN | apply IsS82.drew | apply IsS82.set_1 | apply IsS82.set_2) | exact HI0.out)) hb); have n1_ := Aside0.mk (KeepBut.trans (by repeat (first | (with_reducible first | exact HK.out | apply KeepBut.set_ | apply keep_drewN | apply keep_drew | apply keep_alloc) | exact HK.out)) (KeepBut.of_below hb g none) (.inl rfl)); have n2_ := Aside0.mk (below_step (by repeat (first | (with_reducible first | exact HB.out | apply ba | apply bd | apply be | refine bs ?_ (IsS82.ge HI0.out)) | exact HB.out)) hb); have n3_ := Aside0.mk (hbox); have n4_ := Aside0.mk ((by rw [hg]; exact (keep_size (w := w) (g := g) (row := none) (by repeat (first | (with_reducible first | exact HK.out | apply KeepBut.set_ | apply keep_drewN | apply keep_drew | apply keep_alloc) | exact HK.out))) : w.heap.size ≤ gb101)); have n5_ := Aside0.mk ((Nat.le_trans HW0.out (by rw [hg]; exact (keep_size (w := w) (g := g) (row := none) (by repeat (first | (with_reducible first | exact HK.out | apply KeepBut.set_ | apply keep_drewN | apply keep_drew | apply keep_alloc) | exact HK.out))) : w.heap.size ≤ gb101) : w0.heap.size ≤ gb101)); have n6_ := Aside0.mk ((by rw [hg]; exact Nat.ne_of_lt (IsS82.lt (show IsS82 w0 _ g s0_0 s0_1 s0_2 from by repeat (first | (with_reducible first | exact HI0.out | apply IsS82.alloc | apply IsS82.drewN | apply IsS82.drew | apply IsS82.set_1 | apply IsS82.set_2) | exact HI0.out))) : g ≠ gb101)); have n7_ := Aside0.mk ((by rw [hg]; exact Nat.ne_of_gt (IsS82.lt (show IsS82 w0 _ g s0_0 s0_1 s0_2 from by repeat (first | (with_reducible first | exact HI0.out | apply IsS82.alloc | apply IsS82.drewN | apply IsS82.drew | apply IsS82.set_1 | apply IsS82.set_2) | exact HI0.out))) : gb101 ≠ g)); clear HI0; clear HK; clear HB; have HI0 := n0_; have HK := n1_; have HB := n2_; have BK101 := n3_; have GW101 := n4_; have GE101 := n5_; have NB0_101 := n6_; have NB101_0 := n7_; clear n0_ n1_ n2_ n3_ n4_ n5_ n6_ n7_; clear hb hbox hg) | ((with_reducible refine gate_callee (f := 201) rfl ?_); refine gL 8 Tryz.func201 #[.pointer (some ⟨g, 0, none⟩), .int .i64 a1] ?_; (with_reducible refine (spec_l1Cur_sureCommittee.calls k g s0_0 s0_1 s0_2 a1 t102 t103 t106 t107 w0 _ ?side1 ?side2 A3.out).mono ?_); (case side1 => repeat (first | (with_reducible first | exact HI0.out | apply IsS82.alloc | apply IsS82.drewN | apply IsS82.drew | apply IsS82.set_1 | apply IsS82.set_2 | refine IsS82.far ?_ NB0_101.out _) | exact HI0.out)); (case side2 => repeat (first | (with_reducible first | exact HB.out | apply ba | apply bd | apply be | refine bs ?_ (IsS82.ge HI0.out) | refine bs ?_ GE101.out) | exact HB.out)); rintro e w10 ⟨v104, rfl, ho0, hi, hb, hk⟩; refine ⟨_, rfl, ?_⟩; have n0_ := Aside0.mk (KeepBut.blk hk (g' := gb101) (o := .cells #[.int .i64 0, .slice none 0 0] 26 (0, 0)) (bQ BK101) NB101_0.out (by simp)); have n1_ := Aside0.mk (Kd.R_lower ho0 (keep_size (w := w) (g := g) (row := none) (by repeat (first | (with_reducible first | exact HK.out | apply KeepBut.set_ | apply keep_drewN | apply keep_drew | apply keep_alloc | refine keep_far ?_ GW101.out _) | exact HK.out)))); have n2_ := Aside0.mk (KeepBut.trans (by repeat (first | (with_reducible first | exact HK.out | apply KeepBut.set_ | apply keep_drewN | apply keep_drew | apply keep_alloc | refine keep_far ?_ GW101.out _) | exact HK.out)) hk (.inl rfl)); have n3_ := Aside0.mk (hb); have n4_ := Aside0.mk (hi); clear BK101; clear HK; clear HB; clear HI0; have BK101 := n0_; have HO105 := n1_; have HK := n2_; have HB := n3_; have HI0 := n4_; clear n0_ n1_ n2_ n3_ n4_; (try clear hb); (try clear hb2); (try clear hk); (try clear hi); (try clear ho0)) | ((with_reducible refine gate_dst (N := 5) rfl ?_); refine box_event ?hg (N := 5) ?hd (cs := #[.int .i64 0, .slice none 0 0]) (t := 26) ?hr ?_; (case hd => rfl); (case hg => rfl); (case hr => first | (go_simp; done) | (go_simp; rfl)); intro gb108 hg w11 hbox hb; have n0_ := rP HO105 hb; have n1_ := Aside0.mk (IsS82.below (by repeat (first | (with_reducible first | exact HI0.out | apply IsS82.alloc | apply IsS82.drewN | apply IsS82.drew | apply IsS82.set_1 | apply IsS82.set_2 | refine IsS82.far ?_ NB0_101.out _) | exact HI0.out)) hb); have n2_ := bP BK101 hb; have n3_ := Aside0.mk (KeepBut.trans (by repeat (first | (with_reducible first | exact HK.out | apply KeepBut.set_ | apply keep_drewN | apply keep_drew | apply keep_alloc | refine keep_far ?_ GW101.out _) | exact HK.out)) (KeepBut.of_below hb g none) (.inl rfl)); have n4_ := Aside0.mk (below_step (by repeat (first | (with_reducible first | exact HB.out | apply ba | apply bd | apply be | refine bs ?_ (IsS82.ge HI0.out) | refine bs ?_ GE101.out) | exact HB.out)) hb); have n5_ := Aside0.mk (hbox); have n6_ := Aside0.mk ((by rw [hg]; exact (keep_size (w := w) (g := g) (row := none) (by repeat (first | (with_reducible first | exact HK.out | apply KeepBut.set_ | apply keep_drewN | apply keep_drew | apply keep_alloc | refine keep_far ?_ GW101.out _) | exact HK.out))) : w.heap.size ≤ gb108)); have n7_ := Aside0.mk ((Nat.le_trans HW0.out (by rw [hg]; exact (keep_size (w := w) (g := g) (row := none) (by repeat (first | (with_reducible first | exact HK.out | apply KeepBut.set_ | apply keep_drewN | apply keep_drew | apply keep_alloc | refine keep_far ?_ GW101.out _) | exact HK.out))) : w.heap.size ≤ gb108) : w0.heap.size ≤ gb108)); have n8_ := Aside0.mk ((by rw [hg]; exact Nat.ne_of_lt (blk_lt (g := gb101) (o := .cells #[.int .i64 0, .slice none 0 0] 26 (0, 0)) (bQ BK101)) : gb101 ≠ gb108)); have n9_ := Aside0.mk ((by rw [hg]; exact Nat.ne_of_gt (blk_lt (g := gb101) (o := .cells #[.int .i64 0, .slice none 0 0] 26 (0, 0)) (bQ BK101)) : gb108 ≠ gb101)); have n10_ := Aside0.mk ((by rw [hg]; exact Nat.ne_of_lt (IsS82.lt (show IsS82 w0 _ g s0_0 t106 t107 from by repeat (first | (with_reducible first | exact HI0.out | apply IsS82.alloc | apply IsS82.drewN | apply IsS82.drew | apply IsS82.set_1 | apply IsS82.set_2 | refine IsS82.far ?_ NB0_101.out _) | exact HI0.out))) : g ≠ gb108)); have n11_ := Aside0.mk ((by rw [hg]; exact Nat.ne_of_gt (IsS82.lt (show IsS82 w0 _ g s0_0 t106 t107 from by repeat (first | (with_reducible first | exact HI0.out | apply IsS82.alloc | apply IsS82.drewN | apply IsS82.drew | apply IsS82.set_1 | apply IsS82.set_2 | refine IsS82.far ?_ NB0_101.out _) | exact HI0.out))) : gb108 ≠ g)); clear HO105; clear HI0; clear BK101; clear HK; clear HB; have HO105 := n0_; have HI0 := n1_; have BK101 := n2_; have HK := n3_; have HB := n4_; have BK108 := n5_; have GW108 := n6_; have GE108 := n7_; have NB101_108 := n8_; have NB108_101 := n9_; have NB0_108 := n10_; have NB108_0 := n11_; clear n0_ n1_ n2_ n3_ n4_ n5_ n6_ n7_ n8_ n9_ n10_ n11_; clear hb hbox hg; have hnb12 := NB108_101.out; have hnc12 := NB101_108.out; have hnb13 := NB108_0.out; have hnc13 := NB0_108.out; have hcz14_0 := cZ BK108 0; have hcz14_1 := cZ BK108 1; have hfz14_0 := fZ BK108 0; have hfz14_1 := fZ BK108 1; obtain ⟨Ao15, co15, eo15⟩ := Kd.R_slice HO105.out; subst eo15) | ((with_reducible refine gate_callee (f := 155) rfl ?_); refine gL 10 Tryz.func155 #[.pointer (some ⟨g, 0, none⟩), .int .i64 16] ?_; (with_reducible refine (spec_l1Cur_pick.calls g s0_0 t106 t107 16 t109 t110 t111 w0 _ ?side1 ?side2 A4.out).mono ?_); (case side1 => repeat (first | (with_reducible first | exact HI0.out | apply IsS82.alloc | apply IsS82.drewN | apply IsS82.drew | apply IsS82.set_1 | apply IsS82.set_2 | refine IsS82.far ?_ NB0_101.out _ | refine IsS82.far ?_ NB0_108.out _) | exact HI0.out)); (case side2 => repeat (first | (with_reducible first | exact HB.out | apply ba | apply bd | apply be | refine bs ?_ (IsS82.ge HI0.out) | refine bs ?_ GE101.out | refine bs ?_ GE108.out) | exact HB.out)); rintro e w16 ⟨rfl, hi, hb, hk⟩; refine ⟨_, rfl, ?_⟩; have n0_ := Aside0.mk (KeepBut.blk hk (g' := gb101) (o := .cells #[.int .i64 0, .slice none 0 0] 26 (0, 0)) (by (try refine bp ?_); refine blk_far ?_ NB101_108.out _; (try refine bp ?_); refine blk_far ?_ NB101_108.out _; (first | exact bp BK101.out | exact BK101.out)) NB101_0.out (by simp)); have n1_ := Aside0.mk (Kd.R_mono (Kd.R_keep (IsS82.apart (show IsS82 w0 _ g s0_0 t106 t107 from by repeat (first | (with_reducible first | exact HI0.out | apply IsS82.alloc | apply IsS82.drewN | apply IsS82.drew | apply IsS82.set_1 | apply IsS82.set_2 | refine IsS82.far ?_ NB0_101.out _ | refine IsS82.far ?_ NB0_108.out _) | exact HI0.out)) (by (try refine rp ?_); exact (Kd.R_mono (Kd.R_far (p := ⟨gb108, 1, none⟩) (Kd.R_far (p := ⟨gb108, 0, none⟩) (Kd.R_types HO105.out BK108.out (by decide)) (fun _ hk => hk.2) (.int .i64 t102)) (fun _ hk => hk.2) (.slice Ao15 t103.length co15)) (fun _ h_ => h_.1))) (by decide)) hk (fun _ h => h.2)) (fun _ h => h.1)); have n2_ := Aside0.mk (KeepBut.blk hk (g' := gb108) (o := .cells #[.int .i64 t102, .slice Ao15 t103.length co15] 26 (0, 0)) (by (try refine bp ?_); refine blk_put (cs := #[.int .i64 t102, .slice none 0 0]) ?_ 1 _ rfl; (try refine bp ?_); refine blk_put (cs := #[.int .i64 0, .slice none 0 0]) ?_ 0 _ rfl; (first | exact bp BK108.out | exact BK108.out)) NB108_0.out (by simp)); have n3_ := Aside0.mk (KeepBut.trans (by repeat (first | (with_reducible first | exact HK.out | apply KeepBut.set_ | apply keep_drewN | apply keep_drew | apply keep_alloc | refine keep_far ?_ GW101.out _ | refine keep_far ?_ GW108.out _) | exact HK.out)) hk (.inl rfl)); have n4_ := Aside0.mk (hb); have n5_ := Aside0.mk (hi); clear BK101; clear HO105; clear BK108; clear HK; clear HB; clear HI0; have BK101 := n0_; have HO105 := n1_; have BK108 := n2_; have HK := n3_; have HB := n4_; have HI0 := n5_; clear n0_ n1_ n2_ n3_ n4_ n5_; (try clear hb); (try clear hb2); (try clear hk); (try clear hi)))
  have n0_ := rD HO105
  have n1_ := bD BK101
  have n2_ := bD BK108
  have n3_ := Aside0.mk (IsS82.drew HI0.out)
  have n4_ := Aside0.mk (keep_drew HK.out)
  have n5_ := Aside0.mk (below_drew1 HB.out)
  clear HO105
  clear BK101
  clear BK108
  clear HI0
  clear HK
  clear HB
  have HO105 := n0_
  have BK101 := n1_
  have BK108 := n2_
  have HI0 := n3_
  have HK := n4_
  have HB := n5_
  clear n0_ n1_ n2_ n3_ n4_ n5_
  refine start_ (n := 12) (S := fun w' => w'.cell? ⟨gb108, 0, none⟩ = some (.int .i64 t102) ∧ w'.cell? ⟨gb108, 1, none⟩ = some (.slice Ao15 t103.length co15)) (ds := [11]) #[false, false, false, false, false, false, false, false, false, false, false, false] (by kernel_rfl) rfl rfl ⟨(blk_cell BK108.out 0).trans rfl, (blk_cell BK108.out 1).trans rfl⟩ (fun hHeld => ?_); refine with_tabW spec_l1Cur_committee.tab4 spec_l1Cur_committee.bits4 (fun HT_ HW_ => ?_)
  generalize w16.drew = w17 at HO105 BK101 BK108 HI0 HK HB hHeld ⊢
  refine pU 0 HT_ ?_
  refine pU 1 HT_ ?_
  refine pU 4 HT_ ?_
  refine tK 2 HT_ HW_ hHeld (hy := by rintro w' ⟨s0, s1⟩; go_simp; with_reducible rfl) ?_
  refine tK 5 HT_ HW_ hHeld (hy := by rintro w' ⟨s0, s1⟩; go_simp; with_reducible rfl) ?_
  refine oN 3 HT_ (fun K hK => ?_)
  refine gE Tryz.func128 #[.slice Ao15 t103.length co15] ?_
  with_reducible refine (spec_voSum.calls k _ _ t103 t112 _ ?side1 ?side2 A6.out).mono ?_
  (case side1 => have hx_ := (Kd.R_reads' HO105.out).2.2; exact cC)
  (case side2 => exact (Kd.R_reads' HO105.out).2.1)
  rintro e w' ⟨rfl, ⟨nd, rfl⟩⟩
  refine ⟨_, rfl, ?_⟩
  refine hK.out _ _ ⟨(blk_cell BK108.out 0).trans rfl, (blk_cell BK108.out 1).trans rfl⟩ (fun hHeld => ?_)
  clear hK K
  refine nM ?_
  refine oN 6 HT_ (fun K hK => ?_)
  refine gE Tryz.func128 #[.slice Ao15 t103.length co15] ?_
  with_reducible refine (spec_voSum.calls k _ _ t103 t113 _ ?side1 ?side2 A7.out).mono ?_
  (case side1 => have hx_ := (Kd.R_reads' HO105.out).2.2; exact cC)
  (case side2 => exact (Kd.R_reads' HO105.out).2.1)
  rintro e w' ⟨rfl, ⟨nd, rfl⟩⟩
  refine ⟨_, rfl, ?_⟩
  refine hK.out _ _ ⟨(blk_cell BK108.out 0).trans rfl, (blk_cell BK108.out 1).trans rfl⟩ (fun hHeld => ?_)
  clear hK K
  refine nM ?_
  refine pU 7 HT_ ?_
  refine oN 8 HT_ (fun K hK => ?_)
  refine Kd.R_lit_step (Kd.int .i64) _ 3 ?hg (N := 21) ?hd (xs := ([(-1), 0, 1, t112, wrap64 (t113 + 1), 4611686018427387904] : List Int)) (inner := [.int .i64 (-1), .int .i64 0, .int .i64 1, .int .i64 t112, .int .i64 (wrap64 (t113 + 1)), .int .i64 4611686018427387904]) (ok := fun _ => True) (okp := fun _ => True) ?hr ?hp (fun _ hk => hk) trivial (Below.refl _ _) (Nat.le_refl _) (by simp) ?_; (case hd => rfl); (case hg => rfl); (case hr => first | (go_simp; done) | (go_simp; rfl)); (case hp => exact (Reps.one (show Kd.M (Kd.int .i64) _ _ _ (-1) [.int .i64 (-1)] from rfl) (Reps.one (show Kd.M (Kd.int .i64) _ _ _ 0 [.int .i64 0] from rfl) (Reps.one (show Kd.M (Kd.int .i64) _ _ _ 1 [.int .i64 1] from rfl) (Reps.one (show Kd.M (Kd.int .i64) _ _ _ t112 [.int .i64 t112] from rfl) (Reps.one (show Kd.M (Kd.int .i64) _ _ _ (wrap64 (t113 + 1)) [.int .i64 (wrap64 (t113 + 1))] from rfl) (Reps.one (show Kd.M (Kd.int .i64) _ _ _ 4611686018427387904 [.int .i64 4611686018427387904] from rfl) (Reps.none _ _))))))))
  intro v115 w18 ho19 hb hg_ hnew_
  clear hg_ hnew_
  (first | rw [← Ny114.out] at ho19 | (simp only [Int.reduceToNat] at ho19; rw [← Ny114.out] at ho19))
  have n0_ := rE HO105 (Kd.R_base ho19) hb
  have n1_ := Aside0.mk (Kd.R_lower (Kd.R_new' ho19 (Kd.R_lt (rQ HO105))) (keep_size (w := w) (g := g) (row := none) (by repeat (first | (with_reducible first | exact HK.out | apply KeepBut.set_ | apply keep_drewN | apply keep_drew | apply keep_alloc | refine keep_far ?_ GW101.out _ | refine keep_far ?_ GW108.out _) | exact HK.out))))
  have n2_ := Aside0.mk (IsS82.below (by repeat (first | (with_reducible first | exact HI0.out | apply IsS82.alloc | apply IsS82.drewN | apply IsS82.drew | apply IsS82.set_1 | apply IsS82.set_2 | refine IsS82.far ?_ NB0_101.out _ | refine IsS82.far ?_ NB0_108.out _) | exact HI0.out)) hb)
  have n3_ := bP BK101 hb
  have n4_ := bP BK108 hb
  have n5_ := Aside0.mk (KeepBut.trans (by repeat (first | (with_reducible first | exact HK.out | apply KeepBut.set_ | apply keep_drewN | apply keep_drew | apply keep_alloc | refine keep_far ?_ GW101.out _ | refine keep_far ?_ GW108.out _) | exact HK.out)) (KeepBut.of_below hb g none) (.inl rfl))
  have n6_ := Aside0.mk (below_step (by repeat (first | (with_reducible first | exact HB.out | apply ba | apply bd | apply be | refine bs ?_ (IsS82.ge HI0.out) | refine bs ?_ GE101.out | refine bs ?_ GE108.out) | exact HB.out)) hb)
  clear HO105
  clear HI0
  clear BK101
  clear BK108
  clear HK
  clear HB
  have HO105 := n0_
  have HO116 := n1_
  have HI0 := n2_
  have BK101 := n3_
  have BK108 := n4_
  have HK := n5_
  have HB := n6_
  clear n0_ n1_ n2_ n3_ n4_ n5_ n6_
  clear hb ho19
  obtain ⟨Ao20, co20, eo20⟩ := Kd.R_slice HO116.out
  (first | subst eo20 | (injection eo20 with f1_ f2_ f3_; have f4_ := f1_.symm; have f5_ := f3_.symm; clear f1_ f2_ f3_; subst f4_; subst f5_))
  refine hK.out _ _ ⟨(blk_cell BK108.out 0).trans rfl, (blk_cell BK108.out 1).trans rfl⟩ (fun hHeld => ?_)
  clear hK K
  refine nM ?_
  refine oN 9 HT_ (fun K hK => ?_)
  refine gE Tryz.func202 #[.pointer (some ⟨g, 0, none⟩), .slice Ao20 y114.length co20] ?_
  with_reducible refine (spec_l1Cur_among.calls g s0_0 t110 t111 _ _ y114 t117 t118 t119 w0 _ ?side1 ?side2 ?side3 ?side4 ?side5 A8.out).mono ?_
  (case side1 => repeat (first | (with_reducible first | exact HI0.out | apply IsS82.alloc | apply IsS82.drewN | apply IsS82.drew | apply IsS82.set_1 | apply IsS82.set_2 | refine IsS82.far ?_ NB0_101.out _ | refine IsS82.far ?_ NB0_108.out _) | exact HI0.out))
  (case side2 => repeat (first | (with_reducible first | exact HB.out | apply ba | apply bd | apply be | refine bs ?_ (IsS82.ge HI0.out) | refine bs ?_ GE101.out | refine bs ?_ GE108.out) | exact HB.out))
  (case side3 => have hx_ := (Kd.R_reads' HO116.out).2.2; exact cC)
  (case side4 => exact (Kd.R_reads' HO116.out).2.1)
  (case side5 => exact far_slice (IsS82.own_ne HI0.out HO116.out (by decide)))
  rintro e w21 ⟨rfl, hi, hb, hk⟩
  refine ⟨_, rfl, ?_⟩
  have n0_ := Aside0.mk (KeepBut.blk hk (g' := gb101) (o := .cells #[.int .i64 0, .slice none 0 0] 26 (0, 0)) (bQ BK101) NB101_0.out (by simp))
  have n1_ := Aside0.mk (Kd.R_mono (Kd.R_keep (IsS82.apart (show IsS82 w0 _ g s0_0 t110 t111 from by repeat (first | (with_reducible first | exact HI0.out | apply IsS82.alloc | apply IsS82.drewN | apply IsS82.drew | apply IsS82.set_1 | apply IsS82.set_2 | refine IsS82.far ?_ NB0_101.out _ | refine IsS82.far ?_ NB0_108.out _) | exact HI0.out)) (rQ HO105) (by decide)) hk (fun _ h => h.2)) (fun _ h => h.1))
  have n2_ := Aside0.mk (KeepBut.blk hk (g' := gb108) (o := .cells #[.int .i64 t102, .slice Ao15 t103.length co15] 26 (0, 0)) (bQ BK108) NB108_0.out (by simp))
  have n3_ := Aside0.mk (Kd.R_mono (Kd.R_keep (IsS82.apart (show IsS82 w0 _ g s0_0 t110 t111 from by repeat (first | (with_reducible first | exact HI0.out | apply IsS82.alloc | apply IsS82.drewN | apply IsS82.drew | apply IsS82.set_1 | apply IsS82.set_2 | refine IsS82.far ?_ NB0_101.out _ | refine IsS82.far ?_ NB0_108.out _) | exact HI0.out)) (rQ HO116) (by decide)) hk (fun _ h => h.2)) (fun _ h => h.1))
  have n4_ := Aside0.mk (KeepBut.trans (by repeat (first | (with_reducible first | exact HK.out | apply KeepBut.set_ | apply keep_drewN | apply keep_drew | apply keep_alloc | refine keep_far ?_ GW101.out _ | refine keep_far ?_ GW108.out _) | exact HK.out)) hk (.inl rfl))
  have n5_ := Aside0.mk (hb)
  have n6_ := Aside0.mk (hi)
  clear BK101
  clear HO105
  clear BK108
  clear HO116
  clear HK
  clear HB
  clear HI0
  have BK101 := n0_
  have HO105 := n1_
  have BK108 := n2_
  have HO116 := n3_
  have HK := n4_
  have HB := n5_
  have HI0 := n6_
  clear n0_ n1_ n2_ n3_ n4_ n5_ n6_
  (try clear hb)
  (try clear hb2)
  (try clear hk)
  (try clear hi)
  refine hK.out _ _ ⟨(blk_cell BK108.out 0).trans rfl, (blk_cell BK108.out 1).trans rfl⟩ (fun hHeld => ?_)
  clear hK K
  refine nM ?_
  refine pU 10 HT_ ?_
  refine last_ (i := 11) (N := none) #[true, true, true, true, true, true, true, true, true, true, true, true] rfl rfl (one_of HT_.out (by kernel_rfl)) (by decide) (fun K hK => ?_)
  have hs22 : w21.cell? ⟨gb108, 0, none⟩ = some (.int .i64 t102) := (blk_cell BK108.out 0).trans rfl
  have hfs22 := blk_frozen BK108.out 0
  have hns22_0 := NB101_108.out
  have hms22_0 := NB108_101.out
  refine skip_ (w1 := ?_) (by rfl) rfl ?_ ?_
  rotate_left
  ·go_simp
   rfl
  refine hK.out _ _ ?_
  clear hK K
  refine done_ (done_of HT_.out (by kernel_rfl)) ?_
  have hcz23_0 := cZ BK108 0
  have hcz23_1 := cZ BK108 1
  have hfz23_0 := fZ BK108 0
  have hfz23_1 := fZ BK108 1
  have hnb24 := NB101_0.out
  have hnc24 := NB0_101.out
  have hcz25_0 := cZ BK101 0
  have hcz25_1 := cZ BK101 1
  have hfz25_0 := fZ BK101 0
  have hfz25_1 := fZ BK101 1
  try go_wp2
  refine bodyPost_ret (results_cell_row rfl _ _ gb101 26 #[.int .i64 t117, .slice Ao15 t103.length co15] (0, 0) _ rfl (by (try refine bp ?_); refine blk_put (cs := #[.int .i64 t117, .slice none 0 0]) ?_ 1 _ rfl; (try refine bp ?_); refine blk_put (cs := #[.int .i64 0, .slice none 0 0]) ?_ 0 _ rfl; (try refine bp ?_); refine blk_far ?_ NB101_108.out _; (first | exact bp BK101.out | exact BK101.out)) Tryz.underlying26 rfl (by kernel_rfl)) rfl ?_
  exact ⟨_, fR, by (try refine rp ?_); exact Kd.R_mono (Kd.R_far (p := ⟨gb101, 1, none⟩) (Kd.R_far (p := ⟨gb101, 0, none⟩) (Kd.R_far (p := ⟨gb108, 0, none⟩) (Kd.R_types (Kd.R_types HO105.out BK108.out (by decide)) BK101.out (by decide)) (fun _ hk => hk.1.2) (.int .i64 t117)) (fun _ hk => hk.2) (.int .i64 t117)) (fun _ hk => hk.2) (.slice Ao15 t103.length co15)) (fun _ hk => trivial), by repeat (first | (with_reducible first | exact HI0.out | apply IsS82.alloc | apply IsS82.drewN | apply IsS82.drew | apply IsS82.set_1 | apply IsS82.set_2 | refine IsS82.far ?_ NB0_101.out _ | refine IsS82.far ?_ NB0_108.out _) | exact HI0.out), by repeat (first | (with_reducible first | exact HB.out | apply ba | apply bd | apply be | refine bs ?_ (IsS82.ge HI0.out) | refine bs ?_ GE101.out | refine bs ?_ GE108.out) | exact HB.out), by repeat (first | (with_reducible first | exact HK.out | apply KeepBut.set_ | apply keep_drewN | apply keep_drew | apply keep_alloc | refine keep_far ?_ GW101.out _ | refine keep_far ?_ GW108.out _) | exact HK.out)⟩
 ·rw [if_neg c5] at H
  have c5b0 : (t109 == 0) = false := beq_eq_false_iff_ne.mpr c5
  have c5b1 : (t109 != 0) = true := bne_iff_ne.mpr c5
  by_cases c26 : t109 = 1
  ·rw [if_pos c26] at H
   have c26b0 : (t109 == 1) = true := beq_iff_eq.mpr c26
   have c26b1 : (t109 != 1) = false := bne_eq_false_iff_eq.mpr c26
   clear c26
   obtain ⟨y120, hy120⟩ : ∃ y_ : List Int, y_ = (([(-1), 0, 1000, 1001, 4611686018427387904] : List Int)) := ⟨_, rfl⟩
   replace H : ((spec_l1Cur_among.f s0_0 t110 t111 y120).bind fun bt123 => (if 0 < (t103.length : Int) then (some (t102, (t103.set (0 : Int).toNat bt123.1), bt123.2.1, bt123.2.2)) else (none))) = some (r1, r2, r3, r4) := by first | (rw [hy120]; with_reducible exact H) | (have H2_ := (Option.bind_some _ _).symm.trans H; rw [hy120]; with_reducible exact H2_) | (have H2_ := (Option.bind_some _ _).symm.trans H; with_reducible exact H2_) | with_reducible exact H | (rw [hy120]; exact H) | exact H
   have Ny120 := Aside0.mk hy120
   clear hy120
   replace H := oB H
   obtain ⟨⟨t123, t124, t125⟩, A270, H⟩ := H
   replace H : (if 0 < (t103.length : Int) then (some (t102, (t103.set (0 : Int).toNat t123), t124, t125)) else (none)) = some (r1, r2, r3, r4) := H
   have A27 := Aside0.mk A270
   clear A270
   by_cases c28 : 0 < (t103.length : Int)
   ·rw [if_pos c28] at H
    have c28b0 : decide (0 < (t103.length : Int)) = true := decide_eq_true c28
    have c28b1 : decide (0 < t103.length) = true := decide_eq_true (by omega)
    clear c28
    obtain ⟨y126, hy126⟩ : ∃ y_ : List Int, y_ = (t103.set (0 : Int).toNat t123) := ⟨_, rfl⟩
    replace H : (some (t102, y126, t124, t125)) = some (r1, r2, r3, r4) := by first | (rw [hy126]; with_reducible exact H) | (have H2_ := (Option.bind_some _ _).symm.trans H; rw [hy126]; with_reducible exact H2_) | (have H2_ := (Option.bind_some _ _).symm.trans H; with_reducible exact H2_) | with_reducible exact H | (rw [hy126]; exact H) | exact H
    have Ny126 := Aside0.mk hy126
    clear hy126
    simp only [Option.some.injEq, Prod.mk.injEq] at H
    obtain ⟨rfl, rfl, rfl, rfl⟩ := H
    go_enter Tryz.func133, Tryz.ntmps133
    try go_wp2_with (first | ((with_reducible refine gate_dst (N := 4) rfl ?_); refine box_event ?hg (N := 4) ?hd (cs := #[.int .i64 0, .slice none 0 0]) (t := 26) ?hr ?_; (case hd => rfl); (case hg => rfl); (case hr => first | (go_simp; done) | (go_simp; rfl)); intro gb101 hg w30 hbox hb; have n0_ := Aside0.mk (IsS82.below (by repeat (first | (with_reducible first | exact HI0.out | apply IsS82.alloc | apply IsS82.drewN | apply IsS82.drew | apply IsS82.set_1 | apply IsS82.set_2) | exact HI0.out)) hb); have n1_ := Aside0.mk (KeepBut.trans (by repeat (first | (with_reducible first | exact HK.out | apply KeepBut.set_ | apply keep_drewN | apply keep_drew | apply keep_alloc) | exact HK.out)) (KeepBut.of_below hb g none) (.inl rfl)); have n2_ := Aside0.mk (below_step (by repeat (first | (with_reducible first | exact HB.out | apply ba | apply bd | apply be | refine bs ?_ (IsS82.ge HI0.out)) | exact HB.out)) hb); have n3_ := Aside0.mk (hbox); have n4_ := Aside0.mk ((by rw [hg]; exact (keep_size (w := w) (g := g) (row := none) (by repeat (first | (with_reducible first | exact HK.out | apply KeepBut.set_ | apply keep_drewN | apply keep_drew | apply keep_alloc) | exact HK.out))) : w.heap.size ≤ gb101)); have n5_ := Aside0.mk ((Nat.le_trans HW0.out (by rw [hg]; exact (keep_size (w := w) (g := g) (row := none) (by repeat (first | (with_reducible first | exact HK.out | apply KeepBut.set_ | apply keep_drewN | apply keep_drew | apply keep_alloc) | exact HK.out))) : w.heap.size ≤ gb101) : w0.heap.size ≤ gb101)); have n6_ := Aside0.mk ((by rw [hg]; exact Nat.ne_of_lt (IsS82.lt (show IsS82 w0 _ g s0_0 s0_1 s0_2 from by repeat (first | (with_reducible first | exact HI0.out | apply IsS82.alloc | apply IsS82.drewN | apply IsS82.drew | apply IsS82.set_1 | apply IsS82.set_2) | exact HI0.out))) : g ≠ gb101)); have n7_ := Aside0.mk ((by rw [hg]; exact Nat.ne_of_gt (IsS82.lt (show IsS82 w0 _ g s0_0 s0_1 s0_2 from by repeat (first | (with_reducible first | exact HI0.out | apply IsS82.alloc | apply IsS82.drewN | apply IsS82.drew | apply IsS82.set_1 | apply IsS82.set_2) | exact HI0.out))) : gb101 ≠ g)); clear HI0; clear HK; clear HB; have HI0 := n0_; have HK := n1_; have HB := n2_; have BK101 := n3_; have GW101 := n4_; have GE101 := n5_; have NB0_101 := n6_; have NB101_0 := n7_; clear n0_ n1_ n2_ n3_ n4_ n5_ n6_ n7_; clear hb hbox hg) | ((with_reducible refine gate_callee (f := 201) rfl ?_); refine gL 8 Tryz.func201 #[.pointer (some ⟨g, 0, none⟩), .int .i64 a1] ?_; (with_reducible refine (spec_l1Cur_sureCommittee.calls k g s0_0 s0_1 s0_2 a1 t102 t103 t106 t107 w0 _ ?side1 ?side2 A3.out).mono ?_); (case side1 => repeat (first | (with_reducible first | exact HI0.out | apply IsS82.alloc | apply IsS82.drewN | apply IsS82.drew | apply IsS82.set_1 | apply IsS82.set_2 | refine IsS82.far ?_ NB0_101.out _) | exact HI0.out)); (case side2 => repeat (first | (with_reducible first | exact HB.out | apply ba | apply bd | apply be | refine bs ?_ (IsS82.ge HI0.out) | refine bs ?_ GE101.out) | exact HB.out)); rintro e w31 ⟨v104, rfl, ho0, hi, hb, hk⟩; refine ⟨_, rfl, ?_⟩; have n0_ := Aside0.mk (KeepBut.blk hk (g' := gb101) (o := .cells #[.int .i64 0, .slice none 0 0] 26 (0, 0)) (bQ BK101) NB101_0.out (by simp)); have n1_ := Aside0.mk (Kd.R_lower ho0 (keep_size (w := w) (g := g) (row := none) (by repeat (first | (with_reducible first | exact HK.out | apply KeepBut.set_ | apply keep_drewN | apply keep_drew | apply keep_alloc | refine keep_far ?_ GW101.out _) | exact HK.out)))); have n2_ := Aside0.mk (KeepBut.trans (by repeat (first | (with_reducible first | exact HK.out | apply KeepBut.set_ | apply keep_drewN | apply keep_drew | apply keep_alloc | refine keep_far ?_ GW101.out _) | exact HK.out)) hk (.inl rfl)); have n3_ := Aside0.mk (hb); have n4_ := Aside0.mk (hi); clear BK101; clear HK; clear HB; clear HI0; have BK101 := n0_; have HO105 := n1_; have HK := n2_; have HB := n3_; have HI0 := n4_; clear n0_ n1_ n2_ n3_ n4_; (try clear hb); (try clear hb2); (try clear hk); (try clear hi); (try clear ho0)) | ((with_reducible refine gate_dst (N := 5) rfl ?_); refine box_event ?hg (N := 5) ?hd (cs := #[.int .i64 0, .slice none 0 0]) (t := 26) ?hr ?_; (case hd => rfl); (case hg => rfl); (case hr => first | (go_simp; done) | (go_simp; rfl)); intro gb108 hg w32 hbox hb; have n0_ := rP HO105 hb; have n1_ := Aside0.mk (IsS82.below (by repeat (first | (with_reducible first | exact HI0.out | apply IsS82.alloc | apply IsS82.drewN | apply IsS82.drew | apply IsS82.set_1 | apply IsS82.set_2 | refine IsS82.far ?_ NB0_101.out _) | exact HI0.out)) hb); have n2_ := bP BK101 hb; have n3_ := Aside0.mk (KeepBut.trans (by repeat (first | (with_reducible first | exact HK.out | apply KeepBut.set_ | apply keep_drewN | apply keep_drew | apply keep_alloc | refine keep_far ?_ GW101.out _) | exact HK.out)) (KeepBut.of_below hb g none) (.inl rfl)); have n4_ := Aside0.mk (below_step (by repeat (first | (with_reducible first | exact HB.out | apply ba | apply bd | apply be | refine bs ?_ (IsS82.ge HI0.out) | refine bs ?_ GE101.out) | exact HB.out)) hb); have n5_ := Aside0.mk (hbox); have n6_ := Aside0.mk ((by rw [hg]; exact (keep_size (w := w) (g := g) (row := none) (by repeat (first | (with_reducible first | exact HK.out | apply KeepBut.set_ | apply keep_drewN | apply keep_drew | apply keep_alloc | refine keep_far ?_ GW101.out _) | exact HK.out))) : w.heap.size ≤ gb108)); have n7_ := Aside0.mk ((Nat.le_trans HW0.out (by rw [hg]; exact (keep_size (w := w) (g := g) (row := none) (by repeat (first | (with_reducible first | exact HK.out | apply KeepBut.set_ | apply keep_drewN | apply keep_drew | apply keep_alloc | refine keep_far ?_ GW101.out _) | exact HK.out))) : w.heap.size ≤ gb108) : w0.heap.size ≤ gb108)); have n8_ := Aside0.mk ((by rw [hg]; exact Nat.ne_of_lt (blk_lt (g := gb101) (o := .cells #[.int .i64 0, .slice none 0 0] 26 (0, 0)) (bQ BK101)) : gb101 ≠ gb108)); have n9_ := Aside0.mk ((by rw [hg]; exact Nat.ne_of_gt (blk_lt (g := gb101) (o := .cells #[.int .i64 0, .slice none 0 0] 26 (0, 0)) (bQ BK101)) : gb108 ≠ gb101)); have n10_ := Aside0.mk ((by rw [hg]; exact Nat.ne_of_lt (IsS82.lt (show IsS82 w0 _ g s0_0 t106 t107 from by repeat (first | (with_reducible first | exact HI0.out | apply IsS82.alloc | apply IsS82.drewN | apply IsS82.drew | apply IsS82.set_1 | apply IsS82.set_2 | refine IsS82.far ?_ NB0_101.out _) | exact HI0.out))) : g ≠ gb108)); have n11_ := Aside0.mk ((by rw [hg]; exact Nat.ne_of_gt (IsS82.lt (show IsS82 w0 _ g s0_0 t106 t107 from by repeat (first | (with_reducible first | exact HI0.out | apply IsS82.alloc | apply IsS82.drewN | apply IsS82.drew | apply IsS82.set_1 | apply IsS82.set_2 | refine IsS82.far ?_ NB0_101.out _) | exact HI0.out))) : gb108 ≠ g)); clear HO105; clear HI0; clear BK101; clear HK; clear HB; have HO105 := n0_; have HI0 := n1_; have BK101 := n2_; have HK := n3_; have HB := n4_; have BK108 := n5_; have GW108 := n6_; have GE108 := n7_; have NB101_108 := n8_; have NB108_101 := n9_; have NB0_108 := n10_; have NB108_0 := n11_; clear n0_ n1_ n2_ n3_ n4_ n5_ n6_ n7_ n8_ n9_ n10_ n11_; clear hb hbox hg; have hnb33 := NB108_101.out; have hnc33 := NB101_108.out; have hnb34 := NB108_0.out; have hnc34 := NB0_108.out; have hcz35_0 := cZ BK108 0; have hcz35_1 := cZ BK108 1; have hfz35_0 := fZ BK108 0; have hfz35_1 := fZ BK108 1; obtain ⟨Ao36, co36, eo36⟩ := Kd.R_slice HO105.out; subst eo36) | ((with_reducible refine gate_callee (f := 155) rfl ?_); refine gL 10 Tryz.func155 #[.pointer (some ⟨g, 0, none⟩), .int .i64 16] ?_; (with_reducible refine (spec_l1Cur_pick.calls g s0_0 t106 t107 16 t109 t110 t111 w0 _ ?side1 ?side2 A4.out).mono ?_); (case side1 => repeat (first | (with_reducible first | exact HI0.out | apply IsS82.alloc | apply IsS82.drewN | apply IsS82.drew | apply IsS82.set_1 | apply IsS82.set_2 | refine IsS82.far ?_ NB0_101.out _ | refine IsS82.far ?_ NB0_108.out _) | exact HI0.out)); (case side2 => repeat (first | (with_reducible first | exact HB.out | apply ba | apply bd | apply be | refine bs ?_ (IsS82.ge HI0.out) | refine bs ?_ GE101.out | refine bs ?_ GE108.out) | exact HB.out)); rintro e w37 ⟨rfl, hi, hb, hk⟩; refine ⟨_, rfl, ?_⟩; have n0_ := Aside0.mk (KeepBut.blk hk (g' := gb101) (o := .cells #[.int .i64 0, .slice none 0 0] 26 (0, 0)) (by (try refine bp ?_); refine blk_far ?_ NB101_108.out _; (try refine bp ?_); refine blk_far ?_ NB101_108.out _; (first | exact bp BK101.out | exact BK101.out)) NB101_0.out (by simp)); have n1_ := Aside0.mk (Kd.R_mono (Kd.R_keep (IsS82.apart (show IsS82 w0 _ g s0_0 t106 t107 from by repeat (first | (with_reducible first | exact HI0.out | apply IsS82.alloc | apply IsS82.drewN | apply IsS82.drew | apply IsS82.set_1 | apply IsS82.set_2 | refine IsS82.far ?_ NB0_101.out _ | refine IsS82.far ?_ NB0_108.out _) | exact HI0.out)) (by (try refine rp ?_); exact (Kd.R_mono (Kd.R_far (p := ⟨gb108, 1, none⟩) (Kd.R_far (p := ⟨gb108, 0, none⟩) (Kd.R_types HO105.out BK108.out (by decide)) (fun _ hk => hk.2) (.int .i64 t102)) (fun _ hk => hk.2) (.slice Ao36 t103.length co36)) (fun _ h_ => h_.1))) (by decide)) hk (fun _ h => h.2)) (fun _ h => h.1)); have n2_ := Aside0.mk (KeepBut.blk hk (g' := gb108) (o := .cells #[.int .i64 t102, .slice Ao36 t103.length co36] 26 (0, 0)) (by (try refine bp ?_); refine blk_put (cs := #[.int .i64 t102, .slice none 0 0]) ?_ 1 _ rfl; (try refine bp ?_); refine blk_put (cs := #[.int .i64 0, .slice none 0 0]) ?_ 0 _ rfl; (first | exact bp BK108.out | exact BK108.out)) NB108_0.out (by simp)); have n3_ := Aside0.mk (KeepBut.trans (by repeat (first | (with_reducible first | exact HK.out | apply KeepBut.set_ | apply keep_drewN | apply keep_drew | apply keep_alloc | refine keep_far ?_ GW101.out _ | refine keep_far ?_ GW108.out _) | exact HK.out)) hk (.inl rfl)); have n4_ := Aside0.mk (hb); have n5_ := Aside0.mk (hi); clear BK101; clear HO105; clear BK108; clear HK; clear HB; clear HI0; have BK101 := n0_; have HO105 := n1_; have BK108 := n2_; have HK := n3_; have HB := n4_; have HI0 := n5_; clear n0_ n1_ n2_ n3_ n4_ n5_; (try clear hb); (try clear hb2); (try clear hk); (try clear hi)))
    have n0_ := rD HO105
    have n1_ := bD BK101
    have n2_ := bD BK108
    have n3_ := Aside0.mk (IsS82.drew HI0.out)
    have n4_ := Aside0.mk (keep_drew HK.out)
    have n5_ := Aside0.mk (below_drew1 HB.out)
    clear HO105
    clear BK101
    clear BK108
    clear HI0
    clear HK
    clear HB
    have HO105 := n0_
    have BK101 := n1_
    have BK108 := n2_
    have HI0 := n3_
    have HK := n4_
    have HB := n5_
    clear n0_ n1_ n2_ n3_ n4_ n5_
    refine start_ (n := 7) (S := fun w' => w'.cell? ⟨gb108, 0, none⟩ = some (.int .i64 t102) ∧ w'.cell? ⟨gb108, 1, none⟩ = some (.slice Ao36 t103.length co36)) (ds := [6]) #[false, false, false, false, false, false, false] (by kernel_rfl) rfl rfl ⟨(blk_cell BK108.out 0).trans rfl, (blk_cell BK108.out 1).trans rfl⟩ (fun hHeld => ?_)
    generalize w37.drew = w38 at HO105 BK101 BK108 HI0 HK HB hHeld ⊢
    refine pure_ (i := 0) (N := some 26) (v := ?_) (a' := ?_) #[true, false, false, false, false, false, false] rfl rfl (by kernel_rfl) (fun _ _ _ h => h) (Or.inl ⟨by rfl, ?_⟩) ?_ ?_
    rotate_left
    ·intro w'
     go_simp
     with_reducible rfl
    rotate_left
    ·simp only [Act.put, sA, sZ, sS, i64_w, i32_w]
     rfl
    refine pure_ (i := 2) (N := some 28) (v := ?_) (a' := ?_) #[true, false, true, false, false, false, false] rfl rfl (by kernel_rfl) (fun _ _ _ h => h) (Or.inl ⟨by rfl, ?_⟩) ?_ ?_
    rotate_left
    ·intro w'
     go_simp
     with_reducible rfl
    rotate_left
    ·simp only [Act.put, sA, sZ, sS, i64_w, i32_w]
     rfl
    refine take_ (i := 1) (N := some 27) (v := ?_) (a' := ?_) #[true, true, true, false, false, false, false] rfl rfl (by kernel_rfl) (fun _ _ _ h => h) (Or.inl ⟨by rfl, ?_⟩) hHeld ?_ ?_
    rotate_left
    ·rintro w' ⟨s0, s1⟩
     go_simp
     with_reducible rfl
    rotate_left
    ·simp only [Act.put, sA, sZ, sS, i64_w, i32_w]
     rfl
    refine one_ (i := 3) (N := some 29) #[true, true, true, true, false, false, false] rfl rfl (by kernel_rfl) (by decide) (fun K hK => ?_)
    refine Kd.R_lit_step (Kd.int .i64) _ 3 ?hg (N := 29) ?hd (xs := ([(-1), 0, 1000, 1001, 4611686018427387904] : List Int)) (inner := [.int .i64 (-1), .int .i64 0, .int .i64 1000, .int .i64 1001, .int .i64 4611686018427387904]) (ok := fun _ => True) (okp := fun _ => True) ?hr ?hp (fun _ hk => hk) trivial (Below.refl _ _) (Nat.le_refl _) (by simp) ?_; (case hd => rfl); (case hg => rfl); (case hr => first | (go_simp; done) | (go_simp; rfl)); (case hp => exact (Reps.one (show Kd.M (Kd.int .i64) _ _ _ (-1) [.int .i64 (-1)] from rfl) (Reps.one (show Kd.M (Kd.int .i64) _ _ _ 0 [.int .i64 0] from rfl) (Reps.one (show Kd.M (Kd.int .i64) _ _ _ 1000 [.int .i64 1000] from rfl) (Reps.one (show Kd.M (Kd.int .i64) _ _ _ 1001 [.int .i64 1001] from rfl) (Reps.one (show Kd.M (Kd.int .i64) _ _ _ 4611686018427387904 [.int .i64 4611686018427387904] from rfl) (Reps.none _ _)))))))
    intro v121 w39 ho40 hb hg_ hnew_
    clear hg_ hnew_
    (first | rw [← Ny120.out] at ho40 | (simp only [Int.reduceToNat] at ho40; rw [← Ny120.out] at ho40))
    have n0_ := rE HO105 (Kd.R_base ho40) hb
    have n1_ := Aside0.mk (Kd.R_lower (Kd.R_new' ho40 (Kd.R_lt (rQ HO105))) (keep_size (w := w) (g := g) (row := none) (by repeat (first | (with_reducible first | exact HK.out | apply KeepBut.set_ | apply keep_drewN | apply keep_drew | apply keep_alloc | refine keep_far ?_ GW101.out _ | refine keep_far ?_ GW108.out _) | exact HK.out))))
    have n2_ := Aside0.mk (IsS82.below (by repeat (first | (with_reducible first | exact HI0.out | apply IsS82.alloc | apply IsS82.drewN | apply IsS82.drew | apply IsS82.set_1 | apply IsS82.set_2 | refine IsS82.far ?_ NB0_101.out _ | refine IsS82.far ?_ NB0_108.out _) | exact HI0.out)) hb)
    have n3_ := bP BK101 hb
    have n4_ := bP BK108 hb
    have n5_ := Aside0.mk (KeepBut.trans (by repeat (first | (with_reducible first | exact HK.out | apply KeepBut.set_ | apply keep_drewN | apply keep_drew | apply keep_alloc | refine keep_far ?_ GW101.out _ | refine keep_far ?_ GW108.out _) | exact HK.out)) (KeepBut.of_below hb g none) (.inl rfl))
    have n6_ := Aside0.mk (below_step (by repeat (first | (with_reducible first | exact HB.out | apply ba | apply bd | apply be | refine bs ?_ (IsS82.ge HI0.out) | refine bs ?_ GE101.out | refine bs ?_ GE108.out) | exact HB.out)) hb)
    clear HO105
    clear HI0
    clear BK101
    clear BK108
    clear HK
    clear HB
    have HO105 := n0_
    have HO122 := n1_
    have HI0 := n2_
    have BK101 := n3_
    have BK108 := n4_
    have HK := n5_
    have HB := n6_
    clear n0_ n1_ n2_ n3_ n4_ n5_ n6_
    clear hb ho40
    obtain ⟨Ao41, co41, eo41⟩ := Kd.R_slice HO122.out
    (first | subst eo41 | (injection eo41 with f1_ f2_ f3_; have f4_ := f1_.symm; have f5_ := f3_.symm; clear f1_ f2_ f3_; subst f4_; subst f5_))
    refine hK.out _ _ ⟨(blk_cell BK108.out 0).trans rfl, (blk_cell BK108.out 1).trans rfl⟩ (fun hHeld => ?_)
    clear hK K
    refine nM ?_
    refine one_ (i := 4) (N := some 30) #[true, true, true, true, true, false, false] rfl rfl (by kernel_rfl) (by decide) (fun K hK => ?_)
    refine gE Tryz.func202 #[.pointer (some ⟨g, 0, none⟩), .slice Ao41 y120.length co41] ?_
    with_reducible refine (spec_l1Cur_among.calls g s0_0 t110 t111 _ _ y120 t123 t124 t125 w0 _ ?side1 ?side2 ?side3 ?side4 ?side5 A27.out).mono ?_
    (case side1 => repeat (first | (with_reducible first | exact HI0.out | apply IsS82.alloc | apply IsS82.drewN | apply IsS82.drew | apply IsS82.set_1 | apply IsS82.set_2 | refine IsS82.far ?_ NB0_101.out _ | refine IsS82.far ?_ NB0_108.out _) | exact HI0.out))
    (case side2 => repeat (first | (with_reducible first | exact HB.out | apply ba | apply bd | apply be | refine bs ?_ (IsS82.ge HI0.out) | refine bs ?_ GE101.out | refine bs ?_ GE108.out) | exact HB.out))
    (case side3 => have hx_ := (Kd.R_reads' HO122.out).2.2; exact cC)
    (case side4 => exact (Kd.R_reads' HO122.out).2.1)
    (case side5 => exact far_slice (IsS82.own_ne HI0.out HO122.out (by decide)))
    rintro e w42 ⟨rfl, hi, hb, hk⟩
    refine ⟨_, rfl, ?_⟩
    have n0_ := Aside0.mk (KeepBut.blk hk (g' := gb101) (o := .cells #[.int .i64 0, .slice none 0 0] 26 (0, 0)) (bQ BK101) NB101_0.out (by simp))
    have n1_ := Aside0.mk (Kd.R_mono (Kd.R_keep (IsS82.apart (show IsS82 w0 _ g s0_0 t110 t111 from by repeat (first | (with_reducible first | exact HI0.out | apply IsS82.alloc | apply IsS82.drewN | apply IsS82.drew | apply IsS82.set_1 | apply IsS82.set_2 | refine IsS82.far ?_ NB0_101.out _ | refine IsS82.far ?_ NB0_108.out _) | exact HI0.out)) (rQ HO105) (by decide)) hk (fun _ h => h.2)) (fun _ h => h.1))
    have n2_ := Aside0.mk (KeepBut.blk hk (g' := gb108) (o := .cells #[.int .i64 t102, .slice Ao36 t103.length co36] 26 (0, 0)) (bQ BK108) NB108_0.out (by simp))
    have n3_ := Aside0.mk (Kd.R_mono (Kd.R_keep (IsS82.apart (show IsS82 w0 _ g s0_0 t110 t111 from by repeat (first | (with_reducible first | exact HI0.out | apply IsS82.alloc | apply IsS82.drewN | apply IsS82.drew | apply IsS82.set_1 | apply IsS82.set_2 | refine IsS82.far ?_ NB0_101.out _ | refine IsS82.far ?_ NB0_108.out _) | exact HI0.out)) (rQ HO122) (by decide)) hk (fun _ h => h.2)) (fun _ h => h.1))
    have n4_ := Aside0.mk (KeepBut.trans (by repeat (first | (with_reducible first | exact HK.out | apply KeepBut.set_ | apply keep_drewN | apply keep_drew | apply keep_alloc | refine keep_far ?_ GW101.out _ | refine keep_far ?_ GW108.out _) | exact HK.out)) hk (.inl rfl))
    have n5_ := Aside0.mk (hb)
    have n6_ := Aside0.mk (hi)
    clear BK101
    clear HO105
    clear BK108
    clear HO122
    clear HK
    clear HB
    clear HI0
    have BK101 := n0_
    have HO105 := n1_
    have BK108 := n2_
    have HO122 := n3_
    have HK := n4_
    have HB := n5_
    have HI0 := n6_
    clear n0_ n1_ n2_ n3_ n4_ n5_ n6_
    (try clear hb)
    (try clear hb2)
    (try clear hk)
    (try clear hi)
    have p29 : 0 ≤ (0 : Int) := (by omega)
    have q29 : (0 : Int) < ((t103.length : Int) : Int) := oD
    have qi29 : (0 < t103.length) = True := eq_true (by omega)
    obtain ⟨go29, co29, eo29, gb29, gl29, cl29, HG29⟩ := Kd.R_form HO105.out (by omega)
    (first | cases eo29 | (injection eo29 with ea_ en_ ec_; (first | subst ea_ | (injection ea_ with ea_; subst ea_)); subst ec_; clear en_))
    have GB29 := Aside0.mk gb29
    have GG29 := Aside0.mk HG29
    clear gb29 gl29 HG29
    obtain ⟨hx29_0, hf29_0⟩ := Kd.R_celln 0 HO105.out (0 : Int) p29 q29
    (try rw [show ((0 : Int)).toNat = 0 from rfl] at hx29_0)
    (try simp only [Nat.reduceMul, Nat.zero_mul, Nat.zero_add, Nat.reduceAdd] at hx29_0)
    (try rw [show ((0 : Int)).toNat = 0 from rfl] at hf29_0)
    (try simp only [Nat.reduceMul, Nat.zero_mul, Nat.zero_add, Nat.reduceAdd] at hf29_0)
    replace p29 := eq_true p29
    replace q29 := eq_true q29
    have HN0_go29 := Aside0.mk (show g ≠ go29 from by have h_ := IsS82.own_ne HI0.out HO105.out (by decide); intro e_; exact h_ (by rw [e_]; rfl))
    have HP43 := Kd.R_putn HO105.out (0 : Int) t123
    rw [← Ny126.out] at HP43
    have HQ43 := Aside0.mk HP43
    clear HP43
    refine hK.out _ _ ⟨(blk_cell BK108.out 0).trans rfl, (blk_cell BK108.out 1).trans rfl⟩ (fun hHeld => ?_)
    clear hK K
    refine nM ?_
    refine pure_ (i := 5) (N := some 31) (v := ?_) (a' := ?_) #[true, true, true, true, true, true, false] rfl rfl (by kernel_rfl) (fun _ _ _ h => h) (Or.inl ⟨by rfl, ?_⟩) ?_ ?_
    rotate_left
    ·intro w'
     go_simp
     with_reducible rfl
    rotate_left
    ·simp only [Act.put, sA, sZ, sS, i64_w, i32_w]
     rfl
    refine last_ (i := 6) (N := none) #[true, true, true, true, true, true, true] rfl rfl (by kernel_rfl) (by decide) (fun K hK => ?_)
    refine skip_ (w1 := ?_) (by rfl) rfl ?_ ?_
    rotate_left
    ·go_simp
     rfl
    refine hK.out _ _ ?_
    clear hK K
    refine done_ (by kernel_rfl) ?_
    have n0_ : Aside0 (Kd.R (Kd.int .i64) 3 (w42.setCell ⟨go29, 0, none⟩ (.int .i64 t123)) w.heap.size (fun k_ => nb (.slice Ao41 y120.length co41) k_) (.slice (some ⟨go29, 0, none⟩) t103.length co36) y126) := ⟨by (try refine rp ?_); exact Kd.R_mono HQ43.out (fun _ hk => hk.2)⟩
    have n1_ : Aside0 (Kd.R (Kd.int .i64) 3 (w42.setCell ⟨go29, 0, none⟩ (.int .i64 t123)) w.heap.size (fun k_ => nb (.slice (some ⟨go29, 0, none⟩) t103.length co36) k_) (.slice Ao41 y120.length co41) y120) := ⟨by (try refine rp ?_); exact Kd.R_mono (Kd.R_far (p := ⟨go29, 0, none⟩) (Kd.R_mono HO122.out (fun k_ hk => (⟨hk, fun e_ => hk.2 (by rw [e_]; rfl)⟩ : _ ∧ k_ ≠ go29))) (fun _ hk => hk.2) (.int .i64 t123)) (fun _ hk => hk.1.2)⟩
    have n2_ : Aside0 ((w42.setCell ⟨go29, 0, none⟩ (.int .i64 t123)).heap[gb101]? = some (.cells #[.int .i64 0, .slice none 0 0] 26 (0, 0))) := ⟨by (try refine bp ?_); refine blk_far ?_ (by have h_ := Kd.R_ne HO105.out BK101.out (by decide); intro e_; exact h_ (by rw [e_]; rfl)) _; (first | exact bp BK101.out | exact BK101.out)⟩
    have n3_ : Aside0 ((w42.setCell ⟨go29, 0, none⟩ (.int .i64 t123)).heap[gb108]? = some (.cells #[.int .i64 t102, .slice (some ⟨go29, 0, none⟩) t103.length co36] 26 (0, 0))) := ⟨by (try refine bp ?_); refine blk_far ?_ (by have h_ := Kd.R_ne HO105.out BK108.out (by decide); intro e_; exact h_ (by rw [e_]; rfl)) _; (first | exact bp BK108.out | exact BK108.out)⟩
    have n4_ : Aside0 (IsS82 w0 (w42.setCell ⟨go29, 0, none⟩ (.int .i64 t123)) g s0_0 t124 t125) := ⟨by repeat (first | (with_reducible first | exact HI0.out | apply IsS82.alloc | apply IsS82.drewN | apply IsS82.drew | apply IsS82.set_1 | apply IsS82.set_2 | refine IsS82.far ?_ HN0_go29.out _ | refine IsS82.far ?_ NB0_101.out _ | refine IsS82.far ?_ NB0_108.out _) | exact HI0.out)⟩
    have n5_ : Aside0 (KeepBut w (w42.setCell ⟨go29, 0, none⟩ (.int .i64 t123)) g none) := ⟨by repeat (first | (with_reducible first | exact HK.out | apply KeepBut.set_ | apply keep_drewN | apply keep_drew | apply keep_alloc | refine keep_far ?_ GB29.out _ | refine keep_far ?_ GW101.out _ | refine keep_far ?_ GW108.out _) | exact HK.out)⟩
    have n6_ : Aside0 (Below w0.heap.size w0 (w42.setCell ⟨go29, 0, none⟩ (.int .i64 t123))) := ⟨by repeat (first | (with_reducible first | exact HB.out | apply ba | apply bd | apply be | refine bs ?_ (Nat.le_trans HL.out GB29.out) | refine bs ?_ (IsS82.ge HI0.out) | refine bs ?_ GE101.out | refine bs ?_ GE108.out) | exact HB.out)⟩
    (try clear HO105)
    (try clear HO122)
    (try clear BK101)
    (try clear BK108)
    (try clear HI0)
    (try clear HK)
    (try clear HB)
    generalize (w42.setCell ⟨go29, 0, none⟩ (.int .i64 t123)) = w44 at n0_ n1_ n2_ n3_ n4_ n5_ n6_ ⊢
    have HO105 := n0_
    have HO122 := n1_
    have BK101 := n2_
    have BK108 := n3_
    have HI0 := n4_
    have HK := n5_
    have HB := n6_
    clear n0_ n1_ n2_ n3_ n4_ n5_ n6_
    have hcz45_0 := cZ BK108 0
    have hcz45_1 := cZ BK108 1
    have hfz45_0 := fZ BK108 0
    have hfz45_1 := fZ BK108 1
    have hnb46 := NB101_0.out
    have hnc46 := NB0_101.out
    have hcz47_0 := cZ BK101 0
    have hcz47_1 := cZ BK101 1
    have hfz47_0 := fZ BK101 0
    have hfz47_1 := fZ BK101 1
    try go_wp2
    refine bodyPost_ret (results_cell_row rfl _ _ gb101 26 #[.int .i64 t102, .slice (some ⟨go29, 0, none⟩) t103.length co36] (0, 0) _ rfl (by (try refine bp ?_); refine blk_put (cs := #[.int .i64 t102, .slice none 0 0]) ?_ 1 _ rfl; (try refine bp ?_); refine blk_put (cs := #[.int .i64 0, .slice none 0 0]) ?_ 0 _ rfl; (first | exact bp BK101.out | exact BK101.out)) Tryz.underlying26 rfl (by kernel_rfl)) rfl ?_
    exact ⟨_, fR, by (try refine rp ?_); exact Kd.R_mono (Kd.R_far (p := ⟨gb101, 1, none⟩) (Kd.R_far (p := ⟨gb101, 0, none⟩) (Kd.R_types HO105.out BK101.out (by decide)) (fun _ hk => hk.2) (.int .i64 t102)) (fun _ hk => hk.2) (.slice (some ⟨go29, 0, none⟩) t103.length co36)) (fun _ hk => trivial), by repeat (first | (with_reducible first | exact HI0.out | apply IsS82.alloc | apply IsS82.drewN | apply IsS82.drew | apply IsS82.set_1 | apply IsS82.set_2 | refine IsS82.far ?_ NB0_101.out _ | refine IsS82.far ?_ NB0_108.out _) | exact HI0.out), by repeat (first | (with_reducible first | exact HB.out | apply ba | apply bd | apply be | refine bs ?_ (IsS82.ge HI0.out) | refine bs ?_ GE101.out | refine bs ?_ GE108.out) | exact HB.out), by repeat (first | (with_reducible first | exact HK.out | apply KeepBut.set_ | apply keep_drewN | apply keep_drew | apply keep_alloc | refine keep_far ?_ GW101.out _ | refine keep_far ?_ GW108.out _) | exact HK.out)⟩
   ·rw [if_neg c28] at H
    exact absurd H (by simp)
  ·rw [if_neg c26] at H
   have c26b0 : (t109 == 1) = false := beq_eq_false_iff_ne.mpr c26
   have c26b1 : (t109 != 1) = true := bne_iff_ne.mpr c26
   by_cases c48 : t109 = 2
   ·rw [if_pos c48] at H
    have c48b0 : (t109 == 2) = true := beq_iff_eq.mpr c48
    have c48b1 : (t109 != 2) = false := bne_eq_false_iff_eq.mpr c48
    clear c48
    have H' := Aside0.mk H
    clear H
    go_enter Tryz.func133, Tryz.ntmps133
    go_wp2_with (first | ((with_reducible refine gate_dst (N := 4) rfl ?_); refine box_event ?hg (N := 4) ?hd (cs := #[.int .i64 0, .slice none 0 0]) (t := 26) ?hr ?_; (case hd => rfl); (case hg => rfl); (case hr => first | (go_simp; done) | (go_simp; rfl)); intro gb101 hg w49 hbox hb; have n0_ := Aside0.mk (IsS82.below (by repeat (first | (with_reducible first | exact HI0.out | apply IsS82.alloc | apply IsS82.drewN | apply IsS82.drew | apply IsS82.set_1 | apply IsS82.set_2) | exact HI0.out)) hb); have n1_ := Aside0.mk (KeepBut.trans (by repeat (first | (with_reducible first | exact HK.out | apply KeepBut.set_ | apply keep_drewN | apply keep_drew | apply keep_alloc) | exact HK.out)) (KeepBut.of_below hb g none) (.inl rfl)); have n2_ := Aside0.mk (below_step (by repeat (first | (with_reducible first | exact HB.out | apply ba | apply bd | apply be | refine bs ?_ (IsS82.ge HI0.out)) | exact HB.out)) hb); have n3_ := Aside0.mk (hbox); have n4_ := Aside0.mk ((by rw [hg]; exact (keep_size (w := w) (g := g) (row := none) (by repeat (first | (with_reducible first | exact HK.out | apply KeepBut.set_ | apply keep_drewN | apply keep_drew | apply keep_alloc) | exact HK.out))) : w.heap.size ≤ gb101)); have n5_ := Aside0.mk ((Nat.le_trans HW0.out (by rw [hg]; exact (keep_size (w := w) (g := g) (row := none) (by repeat (first | (with_reducible first | exact HK.out | apply KeepBut.set_ | apply keep_drewN | apply keep_drew | apply keep_alloc) | exact HK.out))) : w.heap.size ≤ gb101) : w0.heap.size ≤ gb101)); have n6_ := Aside0.mk ((by rw [hg]; exact Nat.ne_of_lt (IsS82.lt (show IsS82 w0 _ g s0_0 s0_1 s0_2 from by repeat (first | (with_reducible first | exact HI0.out | apply IsS82.alloc | apply IsS82.drewN | apply IsS82.drew | apply IsS82.set_1 | apply IsS82.set_2) | exact HI0.out))) : g ≠ gb101)); have n7_ := Aside0.mk ((by rw [hg]; exact Nat.ne_of_gt (IsS82.lt (show IsS82 w0 _ g s0_0 s0_1 s0_2 from by repeat (first | (with_reducible first | exact HI0.out | apply IsS82.alloc | apply IsS82.drewN | apply IsS82.drew | apply IsS82.set_1 | apply IsS82.set_2) | exact HI0.out))) : gb101 ≠ g)); clear HI0; clear HK; clear HB; have HI0 := n0_; have HK := n1_; have HB := n2_; have BK101 := n3_; have GW101 := n4_; have GE101 := n5_; have NB0_101 := n6_; have NB101_0 := n7_; clear n0_ n1_ n2_ n3_ n4_ n5_ n6_ n7_; clear hb hbox hg) | ((with_reducible refine gate_callee (f := 201) rfl ?_); refine gL 8 Tryz.func201 #[.pointer (some ⟨g, 0, none⟩), .int .i64 a1] ?_; (with_reducible refine (spec_l1Cur_sureCommittee.calls k g s0_0 s0_1 s0_2 a1 t102 t103 t106 t107 w0 _ ?side1 ?side2 A3.out).mono ?_); (case side1 => repeat (first | (with_reducible first | exact HI0.out | apply IsS82.alloc | apply IsS82.drewN | apply IsS82.drew | apply IsS82.set_1 | apply IsS82.set_2 | refine IsS82.far ?_ NB0_101.out _) | exact HI0.out)); (case side2 => repeat (first | (with_reducible first | exact HB.out | apply ba | apply bd | apply be | refine bs ?_ (IsS82.ge HI0.out) | refine bs ?_ GE101.out) | exact HB.out)); rintro e w50 ⟨v104, rfl, ho0, hi, hb, hk⟩; refine ⟨_, rfl, ?_⟩; have n0_ := Aside0.mk (KeepBut.blk hk (g' := gb101) (o := .cells #[.int .i64 0, .slice none 0 0] 26 (0, 0)) (bQ BK101) NB101_0.out (by simp)); have n1_ := Aside0.mk (Kd.R_lower ho0 (keep_size (w := w) (g := g) (row := none) (by repeat (first | (with_reducible first | exact HK.out | apply KeepBut.set_ | apply keep_drewN | apply keep_drew | apply keep_alloc | refine keep_far ?_ GW101.out _) | exact HK.out)))); have n2_ := Aside0.mk (KeepBut.trans (by repeat (first | (with_reducible first | exact HK.out | apply KeepBut.set_ | apply keep_drewN | apply keep_drew | apply keep_alloc | refine keep_far ?_ GW101.out _) | exact HK.out)) hk (.inl rfl)); have n3_ := Aside0.mk (hb); have n4_ := Aside0.mk (hi); clear BK101; clear HK; clear HB; clear HI0; have BK101 := n0_; have HO105 := n1_; have HK := n2_; have HB := n3_; have HI0 := n4_; clear n0_ n1_ n2_ n3_ n4_; (try clear hb); (try clear hb2); (try clear hk); (try clear hi); (try clear ho0)) | ((with_reducible refine gate_dst (N := 5) rfl ?_); refine box_event ?hg (N := 5) ?hd (cs := #[.int .i64 0, .slice none 0 0]) (t := 26) ?hr ?_; (case hd => rfl); (case hg => rfl); (case hr => first | (go_simp; done) | (go_simp; rfl)); intro gb108 hg w51 hbox hb; have n0_ := rP HO105 hb; have n1_ := Aside0.mk (IsS82.below (by repeat (first | (with_reducible first | exact HI0.out | apply IsS82.alloc | apply IsS82.drewN | apply IsS82.drew | apply IsS82.set_1 | apply IsS82.set_2 | refine IsS82.far ?_ NB0_101.out _) | exact HI0.out)) hb); have n2_ := bP BK101 hb; have n3_ := Aside0.mk (KeepBut.trans (by repeat (first | (with_reducible first | exact HK.out | apply KeepBut.set_ | apply keep_drewN | apply keep_drew | apply keep_alloc | refine keep_far ?_ GW101.out _) | exact HK.out)) (KeepBut.of_below hb g none) (.inl rfl)); have n4_ := Aside0.mk (below_step (by repeat (first | (with_reducible first | exact HB.out | apply ba | apply bd | apply be | refine bs ?_ (IsS82.ge HI0.out) | refine bs ?_ GE101.out) | exact HB.out)) hb); have n5_ := Aside0.mk (hbox); have n6_ := Aside0.mk ((by rw [hg]; exact (keep_size (w := w) (g := g) (row := none) (by repeat (first | (with_reducible first | exact HK.out | apply KeepBut.set_ | apply keep_drewN | apply keep_drew | apply keep_alloc | refine keep_far ?_ GW101.out _) | exact HK.out))) : w.heap.size ≤ gb108)); have n7_ := Aside0.mk ((Nat.le_trans HW0.out (by rw [hg]; exact (keep_size (w := w) (g := g) (row := none) (by repeat (first | (with_reducible first | exact HK.out | apply KeepBut.set_ | apply keep_drewN | apply keep_drew | apply keep_alloc | refine keep_far ?_ GW101.out _) | exact HK.out))) : w.heap.size ≤ gb108) : w0.heap.size ≤ gb108)); have n8_ := Aside0.mk ((by rw [hg]; exact Nat.ne_of_lt (blk_lt (g := gb101) (o := .cells #[.int .i64 0, .slice none 0 0] 26 (0, 0)) (bQ BK101)) : gb101 ≠ gb108)); have n9_ := Aside0.mk ((by rw [hg]; exact Nat.ne_of_gt (blk_lt (g := gb101) (o := .cells #[.int .i64 0, .slice none 0 0] 26 (0, 0)) (bQ BK101)) : gb108 ≠ gb101)); have n10_ := Aside0.mk ((by rw [hg]; exact Nat.ne_of_lt (IsS82.lt (show IsS82 w0 _ g s0_0 t106 t107 from by repeat (first | (with_reducible first | exact HI0.out | apply IsS82.alloc | apply IsS82.drewN | apply IsS82.drew | apply IsS82.set_1 | apply IsS82.set_2 | refine IsS82.far ?_ NB0_101.out _) | exact HI0.out))) : g ≠ gb108)); have n11_ := Aside0.mk ((by rw [hg]; exact Nat.ne_of_gt (IsS82.lt (show IsS82 w0 _ g s0_0 t106 t107 from by repeat (first | (with_reducible first | exact HI0.out | apply IsS82.alloc | apply IsS82.drewN | apply IsS82.drew | apply IsS82.set_1 | apply IsS82.set_2 | refine IsS82.far ?_ NB0_101.out _) | exact HI0.out))) : gb108 ≠ g)); clear HO105; clear HI0; clear BK101; clear HK; clear HB; have HO105 := n0_; have HI0 := n1_; have BK101 := n2_; have HK := n3_; have HB := n4_; have BK108 := n5_; have GW108 := n6_; have GE108 := n7_; have NB101_108 := n8_; have NB108_101 := n9_; have NB0_108 := n10_; have NB108_0 := n11_; clear n0_ n1_ n2_ n3_ n4_ n5_ n6_ n7_ n8_ n9_ n10_ n11_; clear hb hbox hg; have hnb52 := NB108_101.out; have hnc52 := NB101_108.out; have hnb53 := NB108_0.out; have hnc53 := NB0_108.out; have hcz54_0 := cZ BK108 0; have hcz54_1 := cZ BK108 1; have hfz54_0 := fZ BK108 0; have hfz54_1 := fZ BK108 1; obtain ⟨Ao55, co55, eo55⟩ := Kd.R_slice HO105.out; subst eo55) | ((with_reducible refine gate_callee (f := 155) rfl ?_); refine gL 10 Tryz.func155 #[.pointer (some ⟨g, 0, none⟩), .int .i64 16] ?_; (with_reducible refine (spec_l1Cur_pick.calls g s0_0 t106 t107 16 t109 t110 t111 w0 _ ?side1 ?side2 A4.out).mono ?_); (case side1 => repeat (first | (with_reducible first | exact HI0.out | apply IsS82.alloc | apply IsS82.drewN | apply IsS82.drew | apply IsS82.set_1 | apply IsS82.set_2 | refine IsS82.far ?_ NB0_101.out _ | refine IsS82.far ?_ NB0_108.out _) | exact HI0.out)); (case side2 => repeat (first | (with_reducible first | exact HB.out | apply ba | apply bd | apply be | refine bs ?_ (IsS82.ge HI0.out) | refine bs ?_ GE101.out | refine bs ?_ GE108.out) | exact HB.out)); rintro e w56 ⟨rfl, hi, hb, hk⟩; refine ⟨_, rfl, ?_⟩; have n0_ := Aside0.mk (KeepBut.blk hk (g' := gb101) (o := .cells #[.int .i64 0, .slice none 0 0] 26 (0, 0)) (by (try refine bp ?_); refine blk_far ?_ NB101_108.out _; (try refine bp ?_); refine blk_far ?_ NB101_108.out _; (first | exact bp BK101.out | exact BK101.out)) NB101_0.out (by simp)); have n1_ := Aside0.mk (Kd.R_mono (Kd.R_keep (IsS82.apart (show IsS82 w0 _ g s0_0 t106 t107 from by repeat (first | (with_reducible first | exact HI0.out | apply IsS82.alloc | apply IsS82.drewN | apply IsS82.drew | apply IsS82.set_1 | apply IsS82.set_2 | refine IsS82.far ?_ NB0_101.out _ | refine IsS82.far ?_ NB0_108.out _) | exact HI0.out)) (by (try refine rp ?_); exact (Kd.R_mono (Kd.R_far (p := ⟨gb108, 1, none⟩) (Kd.R_far (p := ⟨gb108, 0, none⟩) (Kd.R_types HO105.out BK108.out (by decide)) (fun _ hk => hk.2) (.int .i64 t102)) (fun _ hk => hk.2) (.slice Ao55 t103.length co55)) (fun _ h_ => h_.1))) (by decide)) hk (fun _ h => h.2)) (fun _ h => h.1)); have n2_ := Aside0.mk (KeepBut.blk hk (g' := gb108) (o := .cells #[.int .i64 t102, .slice Ao55 t103.length co55] 26 (0, 0)) (by (try refine bp ?_); refine blk_put (cs := #[.int .i64 t102, .slice none 0 0]) ?_ 1 _ rfl; (try refine bp ?_); refine blk_put (cs := #[.int .i64 0, .slice none 0 0]) ?_ 0 _ rfl; (first | exact bp BK108.out | exact BK108.out)) NB108_0.out (by simp)); have n3_ := Aside0.mk (KeepBut.trans (by repeat (first | (with_reducible first | exact HK.out | apply KeepBut.set_ | apply keep_drewN | apply keep_drew | apply keep_alloc | refine keep_far ?_ GW101.out _ | refine keep_far ?_ GW108.out _) | exact HK.out)) hk (.inl rfl)); have n4_ := Aside0.mk (hb); have n5_ := Aside0.mk (hi); clear BK101; clear HO105; clear BK108; clear HK; clear HB; clear HI0; have BK101 := n0_; have HO105 := n1_; have BK108 := n2_; have HK := n3_; have HB := n4_; have HI0 := n5_; clear n0_ n1_ n2_ n3_ n4_ n5_; (try clear hb); (try clear hb2); (try clear hk); (try clear hi)))
    go_loopg [] k (fun kq w' => ∃ (x1001_1 : Int) (x1002_1 : Int) (x109001_1 : List Int) (u109001 : Value), Aside0 (spec_l1Cur_committee.l0 kq s0_0 x1001_1 x1002_1 t102 x109001_1 = some (r1, r2, r3, r4)) ∧ Aside0 (kq ≤ k) ∧ Aside0 (Kd.R (Kd.int .i64) 3 w' w.heap.size (fun _ => True) u109001 x109001_1) ∧ Aside0 (w'.heap[gb101]? = some (.cells #[.int .i64 0, (.slice none 0 0)] 26 (0, 0))) ∧ Aside0 (w'.heap[gb108]? = some (.cells #[.int .i64 t102, u109001] 26 (0, 0))) ∧ Aside0 (IsS82 w0 w' g s0_0 x1001_1 x1002_1) ∧ Aside0 (KeepBut w w' g none) ∧ Aside0 (Below w0.heap.size w0 w'))
    case atStart => exact ⟨(t110), (t111), (t103), (.slice Ao55 t103.length co55), H', ⟨Nat.le_refl _⟩, ⟨rQ HO105⟩, ⟨bQ BK101⟩, ⟨bQ BK108⟩, ⟨by repeat (first | (with_reducible first | exact HI0.out | apply IsS82.alloc | apply IsS82.drewN | apply IsS82.drew | apply IsS82.set_1 | apply IsS82.set_2 | refine IsS82.far ?_ NB0_101.out _ | refine IsS82.far ?_ NB0_108.out _) | exact HI0.out)⟩, ⟨by repeat (first | (with_reducible first | exact HK.out | apply KeepBut.set_ | apply keep_drewN | apply keep_drew | apply keep_alloc | refine keep_far ?_ GW101.out _ | refine keep_far ?_ GW108.out _) | exact HK.out)⟩, ⟨by repeat (first | (with_reducible first | exact HB.out | apply ba | apply bd | apply be | refine bs ?_ (IsS82.ge HI0.out) | refine bs ?_ GE101.out | refine bs ?_ GE108.out) | exact HB.out)⟩⟩
    case round =>
     clear H'
     try clear c1
     try clear c2
     try clear p2
     try clear q2
     try clear hx2
     try clear qi2
     try clear hf2
     try clear c3
     try clear c4
     try clear c5
     try clear c5b0
     try clear c5b1
     try clear p6
     try clear c12
     try clear c13
     try clear c15
     try clear c20
     try clear c24
     try clear c26
     try clear c26b0
     try clear c26b1
     try clear c28
     try clear c28b0
     try clear c28b1
     try clear p29
     try clear q29
     try clear hx29
     try clear qi29
     try clear hf29
     try clear c33
     try clear c34
     try clear c46
     try clear c48
     try clear c48b0
     try clear c48b1
     try clear c52
     try clear c53
     try clear hcz14_0
     try clear hcz14_1
     try clear hcz23_0
     try clear hcz23_1
     try clear hcz25_0
     try clear hcz25_1
     try clear hcz35_0
     try clear hcz35_1
     try clear hcz45_0
     try clear hcz45_1
     try clear hcz47_0
     try clear hcz47_1
     try clear hcz54_0
     try clear hcz54_1
     try clear hfz14_0
     try clear hfz14_1
     try clear hfz23_0
     try clear hfz23_1
     try clear hfz25_0
     try clear hfz25_1
     try clear hfz35_0
     try clear hfz35_1
     try clear hfz45_0
     try clear hfz45_1
     try clear hfz47_0
     try clear hfz47_1
     try clear hfz54_0
     try clear hfz54_1
     try clear hx29_0
     try clear p29
     try clear q29
     obtain ⟨x1001_1, x1002_1, x109001_1, u109001, HA, HK1, HO_109001, BK101, BK108, HI0, HK, HB⟩ := hrel
     cases gk with
     | zero => exact absurd HA.out (by simp [spec_l1Cur_committee.l0])
     | succ k1 =>
      have H := HA.out
      clear HA
      simp only [spec_l1Cur_committee.l0] at H
      replace H := oB H
      obtain ⟨⟨t127, t128, t129⟩, A570, H⟩ := H
      replace H : (if (x109001_1.length : Int) < (wrap64 (9 + t127)) then (if x109001_1.length < 17592186044416 then (spec_l1Cur_committee.l0 k1 s0_0 t128 t129 t102 (x109001_1 ++ [1])) else (none)) else (some (t102, x109001_1, t128, t129))) = some (r1, r2, r3, r4) := H
      have A57 := Aside0.mk A570
      clear A570
      by_cases c58 : (x109001_1.length : Int) < (wrap64 (9 + t127))
      ·rw [if_pos c58] at H
       have c58b0 : decide ((x109001_1.length : Int) < (wrap64 (9 + t127))) = true := decide_eq_true c58
       clear c58
       by_cases c59 : x109001_1.length < 17592186044416
       ·rw [if_pos c59] at H
        have LMc59 := Aside0.mk c59
        clear c59
        obtain ⟨y130, hy130⟩ : ∃ y_ : List Int, y_ = (x109001_1 ++ [1]) := ⟨_, rfl⟩
        replace H : (spec_l1Cur_committee.l0 k1 s0_0 t128 t129 t102 y130) = some (r1, r2, r3, r4) := by first | (rw [hy130]; with_reducible exact H) | (have H2_ := (Option.bind_some _ _).symm.trans H; rw [hy130]; with_reducible exact H2_) | (have H2_ := (Option.bind_some _ _).symm.trans H; with_reducible exact H2_) | with_reducible exact H | (rw [hy130]; exact H) | exact H
        have Ny130 := Aside0.mk hy130
        clear hy130
        have H' := Aside0.mk H
        clear H
        try go_wp2
        have n0_ := rD HO_109001
        have n1_ := bD BK101
        have n2_ := bD BK108
        have n3_ := Aside0.mk (IsS82.drew HI0.out)
        have n4_ := Aside0.mk (keep_drew HK.out)
        have n5_ := Aside0.mk (below_drew1 HB.out)
        clear HO_109001
        clear BK101
        clear BK108
        clear HI0
        clear HK
        clear HB
        have HO_109001 := n0_
        have BK101 := n1_
        have BK108 := n2_
        have HI0 := n3_
        have HK := n4_
        have HB := n5_
        clear n0_ n1_ n2_ n3_ n4_ n5_
        obtain ⟨Ao61, co61, eo61⟩ := Kd.R_slice HO_109001.out
        (first | subst eo61 | (injection eo61 with f1_ f2_ f3_; have f4_ := f1_.symm; have f5_ := f3_.symm; clear f1_ f2_ f3_; subst f4_; subst f5_))
        refine start_ (n := 7) (S := fun w' => w'.cell? ⟨gb108, 0, none⟩ = some (.int .i64 t102) ∧ w'.cell? ⟨gb108, 1, none⟩ = some (.slice Ao61 x109001_1.length co61)) (ds := []) #[false, false, false, false, false, false, false] (by kernel_rfl) rfl rfl ⟨(blk_cell BK108.out 0).trans rfl, (blk_cell BK108.out 1).trans rfl⟩ (fun hHeld => ?_)
        generalize wr.drew = w60 at HO_109001 BK101 BK108 HI0 HK HB hHeld ⊢
        refine pure_ (i := 0) (N := some 34) (v := ?_) (a' := ?_) #[true, false, false, false, false, false, false] rfl rfl (by kernel_rfl) (fun _ _ _ h => h) (Or.inl ⟨by rfl, ?_⟩) ?_ ?_
        rotate_left
        ·intro w'
         go_simp
         with_reducible rfl
        rotate_left
        ·simp only [Act.put, sA, sZ, sS, i64_w, i32_w]
         rfl
        refine pure_ (i := 3) (N := some 37) (v := ?_) (a' := ?_) #[true, false, false, true, false, false, false] rfl rfl (by kernel_rfl) (fun _ _ _ h => h) (Or.inl ⟨by rfl, ?_⟩) ?_ ?_
        rotate_left
        ·intro w'
         go_simp
         with_reducible rfl
        rotate_left
        ·simp only [Act.put, sA, sZ, sS, i64_w, i32_w]
         rfl
        refine take_ (i := 1) (N := some 35) (v := ?_) (a' := ?_) #[true, true, false, true, false, false, false] rfl rfl (by kernel_rfl) (fun _ _ _ h => h) (Or.inl ⟨by rfl, ?_⟩) hHeld ?_ ?_
        rotate_left
        ·rintro w' ⟨s0, s1⟩
         go_simp
         with_reducible rfl
        rotate_left
        ·simp only [Act.put, sA, sZ, sS, i64_w, i32_w]
         rfl
        refine pure_ (i := 2) (N := some 36) (v := ?_) (a' := ?_) #[true, true, true, true, false, false, false] rfl rfl (by kernel_rfl) (fun _ _ _ h => h) (Or.inl ⟨by rfl, ?_⟩) ?_ ?_
        rotate_left
        ·intro w'
         go_simp
         with_reducible rfl
        rotate_left
        ·simp only [Act.put, sA, sZ, sS, i64_w, i32_w]
         rfl
        refine one_ (i := 4) (N := some 38) #[true, true, true, true, true, false, false] rfl rfl (by kernel_rfl) (by decide) (fun K hK => ?_)
        refine gE Tryz.func155 #[.pointer (some ⟨g, 0, none⟩), .int .i64 2] ?_
        with_reducible refine (spec_l1Cur_pick.calls g s0_0 x1001_1 x1002_1 2 t127 t128 t129 w0 _ ?side1 ?side2 A57.out).mono ?_
        (case side1 => repeat (first | (with_reducible first | exact HI0.out | apply IsS82.alloc | apply IsS82.drewN | apply IsS82.drew | apply IsS82.set_1 | apply IsS82.set_2 | refine IsS82.far ?_ NB0_101.out _ | refine IsS82.far ?_ NB0_108.out _) | exact HI0.out))
        (case side2 => repeat (first | (with_reducible first | exact HB.out | apply ba | apply bd | apply be | refine bs ?_ (IsS82.ge HI0.out) | refine bs ?_ GE101.out | refine bs ?_ GE108.out) | exact HB.out))
        rintro e w62 ⟨rfl, hi, hb, hk⟩
        refine ⟨_, rfl, ?_⟩
        have n0_ := Aside0.mk (Kd.R_mono (Kd.R_keep (IsS82.apart (show IsS82 w0 _ g s0_0 x1001_1 x1002_1 from by repeat (first | (with_reducible first | exact HI0.out | apply IsS82.alloc | apply IsS82.drewN | apply IsS82.drew | apply IsS82.set_1 | apply IsS82.set_2 | refine IsS82.far ?_ NB0_101.out _ | refine IsS82.far ?_ NB0_108.out _) | exact HI0.out)) (rQ HO_109001) (by decide)) hk (fun _ h => h.2)) (fun _ h => h.1))
        have n1_ := Aside0.mk (KeepBut.blk hk (g' := gb101) (o := .cells #[.int .i64 0, .slice none 0 0] 26 (0, 0)) (bQ BK101) NB101_0.out (by simp))
        have n2_ := Aside0.mk (KeepBut.blk hk (g' := gb108) (o := .cells #[.int .i64 t102, .slice Ao61 x109001_1.length co61] 26 (0, 0)) (bQ BK108) NB108_0.out (by simp))
        have n3_ := Aside0.mk (KeepBut.trans (by repeat (first | (with_reducible first | exact HK.out | apply KeepBut.set_ | apply keep_drewN | apply keep_drew | apply keep_alloc | refine keep_far ?_ GW101.out _ | refine keep_far ?_ GW108.out _) | exact HK.out)) hk (.inl rfl))
        have n4_ := Aside0.mk (hb)
        have n5_ := Aside0.mk (hi)
        clear HO_109001
        clear BK101
        clear BK108
        clear HK
        clear HB
        clear HI0
        have HO_109001 := n0_
        have BK101 := n1_
        have BK108 := n2_
        have HK := n3_
        have HB := n4_
        have HI0 := n5_
        clear n0_ n1_ n2_ n3_ n4_ n5_
        (try clear hb)
        (try clear hb2)
        (try clear hk)
        (try clear hi)
        refine hK.out _ _ ⟨(blk_cell BK108.out 0).trans rfl, (blk_cell BK108.out 1).trans rfl⟩ (fun hHeld => ?_)
        clear hK K
        refine nM ?_
        refine pure_ (i := 5) (N := some 39) (v := ?_) (a' := ?_) #[true, true, true, true, true, true, false] rfl rfl (by kernel_rfl) (fun _ _ _ h => h) (Or.inl ⟨by rfl, ?_⟩) ?_ ?_
        rotate_left
        ·intro w'
         go_simp
         with_reducible rfl
        rotate_left
        ·simp only [Act.put, sA, sZ, sS, i64_w, i32_w]
         rfl
        refine pure_ (i := 6) (N := some 40) (v := ?_) (a' := ?_) #[true, true, true, true, true, true, true] rfl rfl (by kernel_rfl) (fun _ _ _ h => h) (Or.inl ⟨by rfl, ?_⟩) ?_ ?_
        rotate_left
        ·intro w'
         go_simp
         with_reducible rfl
        rotate_left
        ·simp only [Act.put, sA, sZ, sS, i64_w, i32_w]
         rfl
        refine done_ (by kernel_rfl) ?_
        have hnb63 := NB108_101.out
        have hnc63 := NB101_108.out
        have hnb64 := NB108_0.out
        have hnc64 := NB0_108.out
        have hcz65_0 := cZ BK108 0
        have hcz65_1 := cZ BK108 1
        have hfz65_0 := fZ BK108 0
        have hfz65_1 := fZ BK108 1
        try go_wp2_with (first | ((with_reducible refine gate_builtin (b := .append) (xs := #[.tmp 42, .tmp 43]) rfl ?_); at_builtin; refine Kd.R_append (Kd.int .i64) w.heap.size rfl (.tmp 42) (.tmp 43) 24 3 (.int .i64 0) 8 rfl Tryz.underlying24 info3 rfl (by decide) (by omega) (.slice Ao61 x109001_1.length co61) x109001_1 1 [.int .i64 1] (fun _ => True) (fun _ => False) rfl rfl ?aP (fun _ hk => hk.elim) ?aF ?aO (Below.refl _ _) ?aS ?aL ?_; (case aP => exact rfl); (case aF => exact (fun _ _ => trivial)); (case aO => exact (rQ HO_109001)); (case aS => exact (keep_size (w := w) (g := g) (row := none) (by repeat (first | (with_reducible first | exact HK.out | apply KeepBut.set_ | apply keep_drewN | apply keep_drew | apply keep_alloc | refine keep_far ?_ GW101.out _ | refine keep_far ?_ GW108.out _) | exact HK.out)))); (case aL => have := LMc59.out; omega); intro v131 w66 ho hb hg hat; rw [← Ny130.out] at ho; have n0_ := Aside0.mk (blk_grown (g := gb101) (o := .cells #[.int .i64 0, .slice none 0 0] 26 (0, 0)) (bQ BK101) hg (Kd.R_ne HO_109001.out BK101.out (by decide))); have n1_ := Aside0.mk (blk_grown (g := gb108) (o := .cells #[.int .i64 t102, .slice Ao61 x109001_1.length co61] 26 (0, 0)) (bQ BK108) hg (Kd.R_ne HO_109001.out BK108.out (by decide))); have n2_ := Aside0.mk (IsS82.grown (by repeat (first | (with_reducible first | exact HI0.out | apply IsS82.alloc | apply IsS82.drewN | apply IsS82.drew | apply IsS82.set_1 | apply IsS82.set_2 | refine IsS82.far ?_ NB0_101.out _ | refine IsS82.far ?_ NB0_108.out _) | exact HI0.out)) hg (IsS82.own_ne HI0.out HO_109001.out (by decide))); have n3_ := Aside0.mk (below_weaken (by repeat (first | (with_reducible first | exact HB.out | apply ba | apply bd | apply be | refine bs ?_ (IsS82.ge HI0.out) | refine bs ?_ GE101.out | refine bs ?_ GE108.out) | exact HB.out)) HL.out hb); have n4_ := Aside0.mk (KeepBut.trans (by repeat (first | (with_reducible first | exact HK.out | apply KeepBut.set_ | apply keep_drewN | apply keep_drew | apply keep_alloc | refine keep_far ?_ GW101.out _ | refine keep_far ?_ GW108.out _) | exact HK.out)) (KeepBut.of_grown hg g) (Kd.R_base2 HO_109001.out)); have n5_ := Aside0.mk (ho); clear BK101; clear BK108; clear HI0; clear HB; clear HK; clear HO_109001; have BK101 := n0_; have BK108 := n1_; have HI0 := n2_; have HB := n3_; have HK := n4_; have HO132 := n5_; clear n0_ n1_ n2_ n3_ n4_ n5_; clear ho hb hg hat; obtain ⟨Ao67, co67, eo67⟩ := Kd.R_slice HO132.out; subst eo67; have hcz68_0 := cZ BK108 0; have hcz68_1 := cZ BK108 1; have hfz68_0 := fZ BK108 0; have hfz68_1 := fZ BK108 1))
        go_roundg k1
        case measure => have := HK1.out; omega
        case rel => exact ⟨(t128), (t129), (y130), (.slice Ao67 y130.length co67), H', ⟨by have := HK1.out; omega⟩, ⟨by (try refine rp ?_); exact Kd.R_mono (Kd.R_far (p := ⟨gb108, 1, none⟩) (Kd.R_types HO132.out BK108.out (by decide)) (fun _ hk => hk.2) (.slice Ao67 y130.length co67)) (fun _ hk => trivial)⟩, ⟨by (try refine bp ?_); refine blk_far ?_ NB101_108.out _; (first | exact bp BK101.out | exact BK101.out)⟩, ⟨by (try refine bp ?_); refine blk_put (cs := #[.int .i64 t102, .slice Ao61 x109001_1.length co61]) ?_ 1 _ rfl; (first | exact bp BK108.out | exact BK108.out)⟩, ⟨by repeat (first | (with_reducible first | exact HI0.out | apply IsS82.alloc | apply IsS82.drewN | apply IsS82.drew | apply IsS82.set_1 | apply IsS82.set_2 | refine IsS82.far ?_ NB0_101.out _ | refine IsS82.far ?_ NB0_108.out _) | exact HI0.out)⟩, ⟨by repeat (first | (with_reducible first | exact HK.out | apply KeepBut.set_ | apply keep_drewN | apply keep_drew | apply keep_alloc | refine keep_far ?_ GW101.out _ | refine keep_far ?_ GW108.out _) | exact HK.out)⟩, ⟨by repeat (first | (with_reducible first | exact HB.out | apply ba | apply bd | apply be | refine bs ?_ (IsS82.ge HI0.out) | refine bs ?_ GE101.out | refine bs ?_ GE108.out) | exact HB.out)⟩⟩
       ·rw [if_neg c59] at H
        exact absurd H (by simp)
      ·rw [if_neg c58] at H
       have c58b0 : decide ((x109001_1.length : Int) < (wrap64 (9 + t127))) = false := decide_eq_false c58
       clear c58
       simp only [Option.some.injEq, Prod.mk.injEq] at H
       obtain ⟨rfl, rfl, rfl, rfl⟩ := H
       try go_wp2
       have n0_ := rD HO_109001
       have n1_ := bD BK101
       have n2_ := bD BK108
       have n3_ := Aside0.mk (IsS82.drew HI0.out)
       have n4_ := Aside0.mk (keep_drew HK.out)
       have n5_ := Aside0.mk (below_drew1 HB.out)
       clear HO_109001
       clear BK101
       clear BK108
       clear HI0
       clear HK
       clear HB
       have HO_109001 := n0_
       have BK101 := n1_
       have BK108 := n2_
       have HI0 := n3_
       have HK := n4_
       have HB := n5_
       clear n0_ n1_ n2_ n3_ n4_ n5_
       obtain ⟨Ao70, co70, eo70⟩ := Kd.R_slice HO_109001.out
       (first | subst eo70 | (injection eo70 with f1_ f2_ f3_; have f4_ := f1_.symm; have f5_ := f3_.symm; clear f1_ f2_ f3_; subst f4_; subst f5_))
       refine start_ (n := 7) (S := fun w' => w'.cell? ⟨gb108, 0, none⟩ = some (.int .i64 t102) ∧ w'.cell? ⟨gb108, 1, none⟩ = some (.slice Ao70 x109001_1.length co70)) (ds := []) #[false, false, false, false, false, false, false] (by kernel_rfl) rfl rfl ⟨(blk_cell BK108.out 0).trans rfl, (blk_cell BK108.out 1).trans rfl⟩ (fun hHeld => ?_)
       generalize wr.drew = w69 at HO_109001 BK101 BK108 HI0 HK HB hHeld ⊢
       refine pure_ (i := 0) (N := some 34) (v := ?_) (a' := ?_) #[true, false, false, false, false, false, false] rfl rfl (by kernel_rfl) (fun _ _ _ h => h) (Or.inl ⟨by rfl, ?_⟩) ?_ ?_
       rotate_left
       ·intro w'
        go_simp
        with_reducible rfl
       rotate_left
       ·simp only [Act.put, sA, sZ, sS, i64_w, i32_w]
        rfl
       refine pure_ (i := 3) (N := some 37) (v := ?_) (a' := ?_) #[true, false, false, true, false, false, false] rfl rfl (by kernel_rfl) (fun _ _ _ h => h) (Or.inl ⟨by rfl, ?_⟩) ?_ ?_
       rotate_left
       ·intro w'
        go_simp
        with_reducible rfl
       rotate_left
       ·simp only [Act.put, sA, sZ, sS, i64_w, i32_w]
        rfl
       refine take_ (i := 1) (N := some 35) (v := ?_) (a' := ?_) #[true, true, false, true, false, false, false] rfl rfl (by kernel_rfl) (fun _ _ _ h => h) (Or.inl ⟨by rfl, ?_⟩) hHeld ?_ ?_
       rotate_left
       ·rintro w' ⟨s0, s1⟩
        go_simp
        with_reducible rfl
       rotate_left
       ·simp only [Act.put, sA, sZ, sS, i64_w, i32_w]
        rfl
       refine pure_ (i := 2) (N := some 36) (v := ?_) (a' := ?_) #[true, true, true, true, false, false, false] rfl rfl (by kernel_rfl) (fun _ _ _ h => h) (Or.inl ⟨by rfl, ?_⟩) ?_ ?_
       rotate_left
       ·intro w'
        go_simp
        with_reducible rfl
       rotate_left
       ·simp only [Act.put, sA, sZ, sS, i64_w, i32_w]
        rfl
       refine one_ (i := 4) (N := some 38) #[true, true, true, true, true, false, false] rfl rfl (by kernel_rfl) (by decide) (fun K hK => ?_)
       refine gE Tryz.func155 #[.pointer (some ⟨g, 0, none⟩), .int .i64 2] ?_
       with_reducible refine (spec_l1Cur_pick.calls g s0_0 x1001_1 x1002_1 2 t127 t128 t129 w0 _ ?side1 ?side2 A57.out).mono ?_
       (case side1 => repeat (first | (with_reducible first | exact HI0.out | apply IsS82.alloc | apply IsS82.drewN | apply IsS82.drew | apply IsS82.set_1 | apply IsS82.set_2 | refine IsS82.far ?_ NB0_101.out _ | refine IsS82.far ?_ NB0_108.out _) | exact HI0.out))
       (case side2 => repeat (first | (with_reducible first | exact HB.out | apply ba | apply bd | apply be | refine bs ?_ (IsS82.ge HI0.out) | refine bs ?_ GE101.out | refine bs ?_ GE108.out) | exact HB.out))
       rintro e w71 ⟨rfl, hi, hb, hk⟩
       refine ⟨_, rfl, ?_⟩
       have n0_ := Aside0.mk (Kd.R_mono (Kd.R_keep (IsS82.apart (show IsS82 w0 _ g s0_0 x1001_1 x1002_1 from by repeat (first | (with_reducible first | exact HI0.out | apply IsS82.alloc | apply IsS82.drewN | apply IsS82.drew | apply IsS82.set_1 | apply IsS82.set_2 | refine IsS82.far ?_ NB0_101.out _ | refine IsS82.far ?_ NB0_108.out _) | exact HI0.out)) (rQ HO_109001) (by decide)) hk (fun _ h => h.2)) (fun _ h => h.1))
       have n1_ := Aside0.mk (KeepBut.blk hk (g' := gb101) (o := .cells #[.int .i64 0, .slice none 0 0] 26 (0, 0)) (bQ BK101) NB101_0.out (by simp))
       have n2_ := Aside0.mk (KeepBut.blk hk (g' := gb108) (o := .cells #[.int .i64 t102, .slice Ao70 x109001_1.length co70] 26 (0, 0)) (bQ BK108) NB108_0.out (by simp))
       have n3_ := Aside0.mk (KeepBut.trans (by repeat (first | (with_reducible first | exact HK.out | apply KeepBut.set_ | apply keep_drewN | apply keep_drew | apply keep_alloc | refine keep_far ?_ GW101.out _ | refine keep_far ?_ GW108.out _) | exact HK.out)) hk (.inl rfl))
       have n4_ := Aside0.mk (hb)
       have n5_ := Aside0.mk (hi)
       clear HO_109001
       clear BK101
       clear BK108
       clear HK
       clear HB
       clear HI0
       have HO_109001 := n0_
       have BK101 := n1_
       have BK108 := n2_
       have HK := n3_
       have HB := n4_
       have HI0 := n5_
       clear n0_ n1_ n2_ n3_ n4_ n5_
       (try clear hb)
       (try clear hb2)
       (try clear hk)
       (try clear hi)
       refine hK.out _ _ ⟨(blk_cell BK108.out 0).trans rfl, (blk_cell BK108.out 1).trans rfl⟩ (fun hHeld => ?_)
       clear hK K
       refine nM ?_
       refine pure_ (i := 5) (N := some 39) (v := ?_) (a' := ?_) #[true, true, true, true, true, true, false] rfl rfl (by kernel_rfl) (fun _ _ _ h => h) (Or.inl ⟨by rfl, ?_⟩) ?_ ?_
       rotate_left
       ·intro w'
        go_simp
        with_reducible rfl
       rotate_left
       ·simp only [Act.put, sA, sZ, sS, i64_w, i32_w]
        rfl
       refine pure_ (i := 6) (N := some 40) (v := ?_) (a' := ?_) #[true, true, true, true, true, true, true] rfl rfl (by kernel_rfl) (fun _ _ _ h => h) (Or.inl ⟨by rfl, ?_⟩) ?_ ?_
       rotate_left
       ·intro w'
        go_simp
        with_reducible rfl
       rotate_left
       ·simp only [Act.put, sA, sZ, sS, i64_w, i32_w]
        rfl
       refine done_ (by kernel_rfl) ?_
       have hnb72 := NB108_101.out
       have hnc72 := NB101_108.out
       have hnb73 := NB108_0.out
       have hnc73 := NB0_108.out
       have hcz74_0 := cZ BK108 0
       have hcz74_1 := cZ BK108 1
       have hfz74_0 := fZ BK108 0
       have hfz74_1 := fZ BK108 1
       have hnb75 := NB101_0.out
       have hnc75 := NB0_101.out
       have hcz76_0 := cZ BK101 0
       have hcz76_1 := cZ BK101 1
       have hfz76_0 := fZ BK101 0
       have hfz76_1 := fZ BK101 1
       try go_wp2
       refine bodyPost_ret (results_cell_row rfl _ _ gb101 26 #[.int .i64 t102, .slice Ao70 x109001_1.length co70] (0, 0) _ rfl (by (try refine bp ?_); refine blk_put (cs := #[.int .i64 t102, .slice none 0 0]) ?_ 1 _ rfl; (try refine bp ?_); refine blk_put (cs := #[.int .i64 0, .slice none 0 0]) ?_ 0 _ rfl; (first | exact bp BK101.out | exact BK101.out)) Tryz.underlying26 rfl (by kernel_rfl)) rfl ?_
       exact ⟨_, fR, by (try refine rp ?_); exact Kd.R_mono (Kd.R_far (p := ⟨gb101, 1, none⟩) (Kd.R_far (p := ⟨gb101, 0, none⟩) (Kd.R_types HO_109001.out BK101.out (by decide)) (fun _ hk => hk.2) (.int .i64 t102)) (fun _ hk => hk.2) (.slice Ao70 x109001_1.length co70)) (fun _ hk => trivial), by repeat (first | (with_reducible first | exact HI0.out | apply IsS82.alloc | apply IsS82.drewN | apply IsS82.drew | apply IsS82.set_1 | apply IsS82.set_2 | refine IsS82.far ?_ NB0_101.out _ | refine IsS82.far ?_ NB0_108.out _) | exact HI0.out), by repeat (first | (with_reducible first | exact HB.out | apply ba | apply bd | apply be | refine bs ?_ (IsS82.ge HI0.out) | refine bs ?_ GE101.out | refine bs ?_ GE108.out) | exact HB.out), by repeat (first | (with_reducible first | exact HK.out | apply KeepBut.set_ | apply keep_drewN | apply keep_drew | apply keep_alloc | refine keep_far ?_ GW101.out _ | refine keep_far ?_ GW108.out _) | exact HK.out)⟩
   ·rw [if_neg c48] at H
    have c48b0 : (t109 == 2) = false := beq_eq_false_iff_ne.mpr c48
    have c48b1 : (t109 != 2) = true := bne_iff_ne.mpr c48
    by_cases c77 : t109 = 3
    ·rw [if_pos c77] at H
     have c77b0 : (t109 == 3) = true := beq_iff_eq.mpr c77
     have c77b1 : (t109 != 3) = false := bne_eq_false_iff_eq.mpr c77
     clear c77
     simp only [Option.some.injEq, Prod.mk.injEq] at H
     obtain ⟨rfl, rfl, rfl, rfl⟩ := H
     go_enter Tryz.func133, Tryz.ntmps133
     go_wp2_with (first | ((with_reducible refine gate_dst (N := 4) rfl ?_); refine box_event ?hg (N := 4) ?hd (cs := #[.int .i64 0, .slice none 0 0]) (t := 26) ?hr ?_; (case hd => rfl); (case hg => rfl); (case hr => first | (go_simp; done) | (go_simp; rfl)); intro gb101 hg w78 hbox hb; have n0_ := Aside0.mk (IsS82.below (by repeat (first | (with_reducible first | exact HI0.out | apply IsS82.alloc | apply IsS82.drewN | apply IsS82.drew | apply IsS82.set_1 | apply IsS82.set_2) | exact HI0.out)) hb); have n1_ := Aside0.mk (KeepBut.trans (by repeat (first | (with_reducible first | exact HK.out | apply KeepBut.set_ | apply keep_drewN | apply keep_drew | apply keep_alloc) | exact HK.out)) (KeepBut.of_below hb g none) (.inl rfl)); have n2_ := Aside0.mk (below_step (by repeat (first | (with_reducible first | exact HB.out | apply ba | apply bd | apply be | refine bs ?_ (IsS82.ge HI0.out)) | exact HB.out)) hb); have n3_ := Aside0.mk (hbox); have n4_ := Aside0.mk ((by rw [hg]; exact (keep_size (w := w) (g := g) (row := none) (by repeat (first | (with_reducible first | exact HK.out | apply KeepBut.set_ | apply keep_drewN | apply keep_drew | apply keep_alloc) | exact HK.out))) : w.heap.size ≤ gb101)); have n5_ := Aside0.mk ((Nat.le_trans HW0.out (by rw [hg]; exact (keep_size (w := w) (g := g) (row := none) (by repeat (first | (with_reducible first | exact HK.out | apply KeepBut.set_ | apply keep_drewN | apply keep_drew | apply keep_alloc) | exact HK.out))) : w.heap.size ≤ gb101) : w0.heap.size ≤ gb101)); have n6_ := Aside0.mk ((by rw [hg]; exact Nat.ne_of_lt (IsS82.lt (show IsS82 w0 _ g s0_0 s0_1 s0_2 from by repeat (first | (with_reducible first | exact HI0.out | apply IsS82.alloc | apply IsS82.drewN | apply IsS82.drew | apply IsS82.set_1 | apply IsS82.set_2) | exact HI0.out))) : g ≠ gb101)); have n7_ := Aside0.mk ((by rw [hg]; exact Nat.ne_of_gt (IsS82.lt (show IsS82 w0 _ g s0_0 s0_1 s0_2 from by repeat (first | (with_reducible first | exact HI0.out | apply IsS82.alloc | apply IsS82.drewN | apply IsS82.drew | apply IsS82.set_1 | apply IsS82.set_2) | exact HI0.out))) : gb101 ≠ g)); clear HI0; clear HK; clear HB; have HI0 := n0_; have HK := n1_; have HB := n2_; have BK101 := n3_; have GW101 := n4_; have GE101 := n5_; have NB0_101 := n6_; have NB101_0 := n7_; clear n0_ n1_ n2_ n3_ n4_ n5_ n6_ n7_; clear hb hbox hg) | ((with_reducible refine gate_callee (f := 201) rfl ?_); refine gL 8 Tryz.func201 #[.pointer (some ⟨g, 0, none⟩), .int .i64 a1] ?_; (with_reducible refine (spec_l1Cur_sureCommittee.calls k g s0_0 s0_1 s0_2 a1 t102 t103 t106 t107 w0 _ ?side1 ?side2 A3.out).mono ?_); (case side1 => repeat (first | (with_reducible first | exact HI0.out | apply IsS82.alloc | apply IsS82.drewN | apply IsS82.drew | apply IsS82.set_1 | apply IsS82.set_2 | refine IsS82.far ?_ NB0_101.out _) | exact HI0.out)); (case side2 => repeat (first | (with_reducible first | exact HB.out | apply ba | apply bd | apply be | refine bs ?_ (IsS82.ge HI0.out) | refine bs ?_ GE101.out) | exact HB.out)); rintro e w79 ⟨v104, rfl, ho0, hi, hb, hk⟩; refine ⟨_, rfl, ?_⟩; have n0_ := Aside0.mk (KeepBut.blk hk (g' := gb101) (o := .cells #[.int .i64 0, .slice none 0 0] 26 (0, 0)) (bQ BK101) NB101_0.out (by simp)); have n1_ := Aside0.mk (Kd.R_lower ho0 (keep_size (w := w) (g := g) (row := none) (by repeat (first | (with_reducible first | exact HK.out | apply KeepBut.set_ | apply keep_drewN | apply keep_drew | apply keep_alloc | refine keep_far ?_ GW101.out _) | exact HK.out)))); have n2_ := Aside0.mk (KeepBut.trans (by repeat (first | (with_reducible first | exact HK.out | apply KeepBut.set_ | apply keep_drewN | apply keep_drew | apply keep_alloc | refine keep_far ?_ GW101.out _) | exact HK.out)) hk (.inl rfl)); have n3_ := Aside0.mk (hb); have n4_ := Aside0.mk (hi); clear BK101; clear HK; clear HB; clear HI0; have BK101 := n0_; have HO105 := n1_; have HK := n2_; have HB := n3_; have HI0 := n4_; clear n0_ n1_ n2_ n3_ n4_; (try clear hb); (try clear hb2); (try clear hk); (try clear hi); (try clear ho0)) | ((with_reducible refine gate_dst (N := 5) rfl ?_); refine box_event ?hg (N := 5) ?hd (cs := #[.int .i64 0, .slice none 0 0]) (t := 26) ?hr ?_; (case hd => rfl); (case hg => rfl); (case hr => first | (go_simp; done) | (go_simp; rfl)); intro gb108 hg w80 hbox hb; have n0_ := rP HO105 hb; have n1_ := Aside0.mk (IsS82.below (by repeat (first | (with_reducible first | exact HI0.out | apply IsS82.alloc | apply IsS82.drewN | apply IsS82.drew | apply IsS82.set_1 | apply IsS82.set_2 | refine IsS82.far ?_ NB0_101.out _) | exact HI0.out)) hb); have n2_ := bP BK101 hb; have n3_ := Aside0.mk (KeepBut.trans (by repeat (first | (with_reducible first | exact HK.out | apply KeepBut.set_ | apply keep_drewN | apply keep_drew | apply keep_alloc | refine keep_far ?_ GW101.out _) | exact HK.out)) (KeepBut.of_below hb g none) (.inl rfl)); have n4_ := Aside0.mk (below_step (by repeat (first | (with_reducible first | exact HB.out | apply ba | apply bd | apply be | refine bs ?_ (IsS82.ge HI0.out) | refine bs ?_ GE101.out) | exact HB.out)) hb); have n5_ := Aside0.mk (hbox); have n6_ := Aside0.mk ((by rw [hg]; exact (keep_size (w := w) (g := g) (row := none) (by repeat (first | (with_reducible first | exact HK.out | apply KeepBut.set_ | apply keep_drewN | apply keep_drew | apply keep_alloc | refine keep_far ?_ GW101.out _) | exact HK.out))) : w.heap.size ≤ gb108)); have n7_ := Aside0.mk ((Nat.le_trans HW0.out (by rw [hg]; exact (keep_size (w := w) (g := g) (row := none) (by repeat (first | (with_reducible first | exact HK.out | apply KeepBut.set_ | apply keep_drewN | apply keep_drew | apply keep_alloc | refine keep_far ?_ GW101.out _) | exact HK.out))) : w.heap.size ≤ gb108) : w0.heap.size ≤ gb108)); have n8_ := Aside0.mk ((by rw [hg]; exact Nat.ne_of_lt (blk_lt (g := gb101) (o := .cells #[.int .i64 0, .slice none 0 0] 26 (0, 0)) (bQ BK101)) : gb101 ≠ gb108)); have n9_ := Aside0.mk ((by rw [hg]; exact Nat.ne_of_gt (blk_lt (g := gb101) (o := .cells #[.int .i64 0, .slice none 0 0] 26 (0, 0)) (bQ BK101)) : gb108 ≠ gb101)); have n10_ := Aside0.mk ((by rw [hg]; exact Nat.ne_of_lt (IsS82.lt (show IsS82 w0 _ g s0_0 t106 t107 from by repeat (first | (with_reducible first | exact HI0.out | apply IsS82.alloc | apply IsS82.drewN | apply IsS82.drew | apply IsS82.set_1 | apply IsS82.set_2 | refine IsS82.far ?_ NB0_101.out _) | exact HI0.out))) : g ≠ gb108)); have n11_ := Aside0.mk ((by rw [hg]; exact Nat.ne_of_gt (IsS82.lt (show IsS82 w0 _ g s0_0 t106 t107 from by repeat (first | (with_reducible first | exact HI0.out | apply IsS82.alloc | apply IsS82.drewN | apply IsS82.drew | apply IsS82.set_1 | apply IsS82.set_2 | refine IsS82.far ?_ NB0_101.out _) | exact HI0.out))) : gb108 ≠ g)); clear HO105; clear HI0; clear BK101; clear HK; clear HB; have HO105 := n0_; have HI0 := n1_; have BK101 := n2_; have HK := n3_; have HB := n4_; have BK108 := n5_; have GW108 := n6_; have GE108 := n7_; have NB101_108 := n8_; have NB108_101 := n9_; have NB0_108 := n10_; have NB108_0 := n11_; clear n0_ n1_ n2_ n3_ n4_ n5_ n6_ n7_ n8_ n9_ n10_ n11_; clear hb hbox hg; have hnb81 := NB108_101.out; have hnc81 := NB101_108.out; have hnb82 := NB108_0.out; have hnc82 := NB0_108.out; have hcz83_0 := cZ BK108 0; have hcz83_1 := cZ BK108 1; have hfz83_0 := fZ BK108 0; have hfz83_1 := fZ BK108 1; obtain ⟨Ao84, co84, eo84⟩ := Kd.R_slice HO105.out; subst eo84) | ((with_reducible refine gate_callee (f := 155) rfl ?_); refine gL 10 Tryz.func155 #[.pointer (some ⟨g, 0, none⟩), .int .i64 16] ?_; (with_reducible refine (spec_l1Cur_pick.calls g s0_0 t106 t107 16 t109 t110 t111 w0 _ ?side1 ?side2 A4.out).mono ?_); (case side1 => repeat (first | (with_reducible first | exact HI0.out | apply IsS82.alloc | apply IsS82.drewN | apply IsS82.drew | apply IsS82.set_1 | apply IsS82.set_2 | refine IsS82.far ?_ NB0_101.out _ | refine IsS82.far ?_ NB0_108.out _) | exact HI0.out)); (case side2 => repeat (first | (with_reducible first | exact HB.out | apply ba | apply bd | apply be | refine bs ?_ (IsS82.ge HI0.out) | refine bs ?_ GE101.out | refine bs ?_ GE108.out) | exact HB.out)); rintro e w85 ⟨rfl, hi, hb, hk⟩; refine ⟨_, rfl, ?_⟩; have n0_ := Aside0.mk (KeepBut.blk hk (g' := gb101) (o := .cells #[.int .i64 0, .slice none 0 0] 26 (0, 0)) (by (try refine bp ?_); refine blk_far ?_ NB101_108.out _; (try refine bp ?_); refine blk_far ?_ NB101_108.out _; (first | exact bp BK101.out | exact BK101.out)) NB101_0.out (by simp)); have n1_ := Aside0.mk (Kd.R_mono (Kd.R_keep (IsS82.apart (show IsS82 w0 _ g s0_0 t106 t107 from by repeat (first | (with_reducible first | exact HI0.out | apply IsS82.alloc | apply IsS82.drewN | apply IsS82.drew | apply IsS82.set_1 | apply IsS82.set_2 | refine IsS82.far ?_ NB0_101.out _ | refine IsS82.far ?_ NB0_108.out _) | exact HI0.out)) (by (try refine rp ?_); exact (Kd.R_mono (Kd.R_far (p := ⟨gb108, 1, none⟩) (Kd.R_far (p := ⟨gb108, 0, none⟩) (Kd.R_types HO105.out BK108.out (by decide)) (fun _ hk => hk.2) (.int .i64 t102)) (fun _ hk => hk.2) (.slice Ao84 t103.length co84)) (fun _ h_ => h_.1))) (by decide)) hk (fun _ h => h.2)) (fun _ h => h.1)); have n2_ := Aside0.mk (KeepBut.blk hk (g' := gb108) (o := .cells #[.int .i64 t102, .slice Ao84 t103.length co84] 26 (0, 0)) (by (try refine bp ?_); refine blk_put (cs := #[.int .i64 t102, .slice none 0 0]) ?_ 1 _ rfl; (try refine bp ?_); refine blk_put (cs := #[.int .i64 0, .slice none 0 0]) ?_ 0 _ rfl; (first | exact bp BK108.out | exact BK108.out)) NB108_0.out (by simp)); have n3_ := Aside0.mk (KeepBut.trans (by repeat (first | (with_reducible first | exact HK.out | apply KeepBut.set_ | apply keep_drewN | apply keep_drew | apply keep_alloc | refine keep_far ?_ GW101.out _ | refine keep_far ?_ GW108.out _) | exact HK.out)) hk (.inl rfl)); have n4_ := Aside0.mk (hb); have n5_ := Aside0.mk (hi); clear BK101; clear HO105; clear BK108; clear HK; clear HB; clear HI0; have BK101 := n0_; have HO105 := n1_; have BK108 := n2_; have HK := n3_; have HB := n4_; have HI0 := n5_; clear n0_ n1_ n2_ n3_ n4_ n5_; (try clear hb); (try clear hb2); (try clear hk); (try clear hi); have hnb86 := NB101_0.out; have hnc86 := NB0_101.out; have hcz87_0 := cZ BK101 0; have hcz87_1 := cZ BK101 1; have hfz87_0 := fZ BK101 0; have hfz87_1 := fZ BK101 1))
     refine bodyPost_ret (results_cell_row rfl _ _ gb101 26 #[.int .i64 1, .slice none 0 0] (0, 0) _ rfl (by (try refine bp ?_); refine blk_put (cs := #[.int .i64 1, .slice none 0 0]) ?_ 1 _ rfl; (try refine bp ?_); refine blk_put (cs := #[.int .i64 0, .slice none 0 0]) ?_ 0 _ rfl; (first | exact bp BK101.out | exact BK101.out)) Tryz.underlying26 rfl (by kernel_rfl)) rfl ?_
     exact ⟨_, fR, by first | exact Kd.R_nil _ _ _ _ _ | exact Kd.N_nil _ _ _ _ _ | exact Kd.V_nil _ _ _ _ _ | exact Kd.Q_nil _ _ _ _ _ | exact Kd.S_nil _ _ _ _ _, by repeat (first | (with_reducible first | exact HI0.out | apply IsS82.alloc | apply IsS82.drewN | apply IsS82.drew | apply IsS82.set_1 | apply IsS82.set_2 | refine IsS82.far ?_ NB0_101.out _ | refine IsS82.far ?_ NB0_108.out _) | exact HI0.out), by repeat (first | (with_reducible first | exact HB.out | apply ba | apply bd | apply be | refine bs ?_ (IsS82.ge HI0.out) | refine bs ?_ GE101.out | refine bs ?_ GE108.out) | exact HB.out), by repeat (first | (with_reducible first | exact HK.out | apply KeepBut.set_ | apply keep_drewN | apply keep_drew | apply keep_alloc | refine keep_far ?_ GW101.out _ | refine keep_far ?_ GW108.out _) | exact HK.out)⟩
    ·rw [if_neg c77] at H
     have c77b0 : (t109 == 3) = false := beq_eq_false_iff_ne.mpr c77
     have c77b1 : (t109 != 3) = true := bne_iff_ne.mpr c77
     simp only [Option.some.injEq, Prod.mk.injEq] at H
     obtain ⟨rfl, rfl, rfl, rfl⟩ := H
     go_enter Tryz.func133, Tryz.ntmps133
     go_wp2_with (first | ((with_reducible refine gate_dst (N := 4) rfl ?_); refine box_event ?hg (N := 4) ?hd (cs := #[.int .i64 0, .slice none 0 0]) (t := 26) ?hr ?_; (case hd => rfl); (case hg => rfl); (case hr => first | (go_simp; done) | (go_simp; rfl)); intro gb101 hg w88 hbox hb; have n0_ := Aside0.mk (IsS82.below (by repeat (first | (with_reducible first | exact HI0.out | apply IsS82.alloc | apply IsS82.drewN | apply IsS82.drew | apply IsS82.set_1 | apply IsS82.set_2) | exact HI0.out)) hb); have n1_ := Aside0.mk (KeepBut.trans (by repeat (first | (with_reducible first | exact HK.out | apply KeepBut.set_ | apply keep_drewN | apply keep_drew | apply keep_alloc) | exact HK.out)) (KeepBut.of_below hb g none) (.inl rfl)); have n2_ := Aside0.mk (below_step (by repeat (first | (with_reducible first | exact HB.out | apply ba | apply bd | apply be | refine bs ?_ (IsS82.ge HI0.out)) | exact HB.out)) hb); have n3_ := Aside0.mk (hbox); have n4_ := Aside0.mk ((by rw [hg]; exact (keep_size (w := w) (g := g) (row := none) (by repeat (first | (with_reducible first | exact HK.out | apply KeepBut.set_ | apply keep_drewN | apply keep_drew | apply keep_alloc) | exact HK.out))) : w.heap.size ≤ gb101)); have n5_ := Aside0.mk ((Nat.le_trans HW0.out (by rw [hg]; exact (keep_size (w := w) (g := g) (row := none) (by repeat (first | (with_reducible first | exact HK.out | apply KeepBut.set_ | apply keep_drewN | apply keep_drew | apply keep_alloc) | exact HK.out))) : w.heap.size ≤ gb101) : w0.heap.size ≤ gb101)); have n6_ := Aside0.mk ((by rw [hg]; exact Nat.ne_of_lt (IsS82.lt (show IsS82 w0 _ g s0_0 s0_1 s0_2 from by repeat (first | (with_reducible first | exact HI0.out | apply IsS82.alloc | apply IsS82.drewN | apply IsS82.drew | apply IsS82.set_1 | apply IsS82.set_2) | exact HI0.out))) : g ≠ gb101)); have n7_ := Aside0.mk ((by rw [hg]; exact Nat.ne_of_gt (IsS82.lt (show IsS82 w0 _ g s0_0 s0_1 s0_2 from by repeat (first | (with_reducible first | exact HI0.out | apply IsS82.alloc | apply IsS82.drewN | apply IsS82.drew | apply IsS82.set_1 | apply IsS82.set_2) | exact HI0.out))) : gb101 ≠ g)); clear HI0; clear HK; clear HB; have HI0 := n0_; have HK := n1_; have HB := n2_; have BK101 := n3_; have GW101 := n4_; have GE101 := n5_; have NB0_101 := n6_; have NB101_0 := n7_; clear n0_ n1_ n2_ n3_ n4_ n5_ n6_ n7_; clear hb hbox hg) | ((with_reducible refine gate_callee (f := 201) rfl ?_); refine gL 8 Tryz.func201 #[.pointer (some ⟨g, 0, none⟩), .int .i64 a1] ?_; (with_reducible refine (spec_l1Cur_sureCommittee.calls k g s0_0 s0_1 s0_2 a1 t102 t103 t106 t107 w0 _ ?side1 ?side2 A3.out).mono ?_); (case side1 => repeat (first | (with_reducible first | exact HI0.out | apply IsS82.alloc | apply IsS82.drewN | apply IsS82.drew | apply IsS82.set_1 | apply IsS82.set_2 | refine IsS82.far ?_ NB0_101.out _) | exact HI0.out)); (case side2 => repeat (first | (with_reducible first | exact HB.out | apply ba | apply bd | apply be | refine bs ?_ (IsS82.ge HI0.out) | refine bs ?_ GE101.out) | exact HB.out)); rintro e w89 ⟨v104, rfl, ho0, hi, hb, hk⟩; refine ⟨_, rfl, ?_⟩; have n0_ := Aside0.mk (KeepBut.blk hk (g' := gb101) (o := .cells #[.int .i64 0, .slice none 0 0] 26 (0, 0)) (bQ BK101) NB101_0.out (by simp)); have n1_ := Aside0.mk (Kd.R_lower ho0 (keep_size (w := w) (g := g) (row := none) (by repeat (first | (with_reducible first | exact HK.out | apply KeepBut.set_ | apply keep_drewN | apply keep_drew | apply keep_alloc | refine keep_far ?_ GW101.out _) | exact HK.out)))); have n2_ := Aside0.mk (KeepBut.trans (by repeat (first | (with_reducible first | exact HK.out | apply KeepBut.set_ | apply keep_drewN | apply keep_drew | apply keep_alloc | refine keep_far ?_ GW101.out _) | exact HK.out)) hk (.inl rfl)); have n3_ := Aside0.mk (hb); have n4_ := Aside0.mk (hi); clear BK101; clear HK; clear HB; clear HI0; have BK101 := n0_; have HO105 := n1_; have HK := n2_; have HB := n3_; have HI0 := n4_; clear n0_ n1_ n2_ n3_ n4_; (try clear hb); (try clear hb2); (try clear hk); (try clear hi); (try clear ho0)) | ((with_reducible refine gate_dst (N := 5) rfl ?_); refine box_event ?hg (N := 5) ?hd (cs := #[.int .i64 0, .slice none 0 0]) (t := 26) ?hr ?_; (case hd => rfl); (case hg => rfl); (case hr => first | (go_simp; done) | (go_simp; rfl)); intro gb108 hg w90 hbox hb; have n0_ := rP HO105 hb; have n1_ := Aside0.mk (IsS82.below (by repeat (first | (with_reducible first | exact HI0.out | apply IsS82.alloc | apply IsS82.drewN | apply IsS82.drew | apply IsS82.set_1 | apply IsS82.set_2 | refine IsS82.far ?_ NB0_101.out _) | exact HI0.out)) hb); have n2_ := bP BK101 hb; have n3_ := Aside0.mk (KeepBut.trans (by repeat (first | (with_reducible first | exact HK.out | apply KeepBut.set_ | apply keep_drewN | apply keep_drew | apply keep_alloc | refine keep_far ?_ GW101.out _) | exact HK.out)) (KeepBut.of_below hb g none) (.inl rfl)); have n4_ := Aside0.mk (below_step (by repeat (first | (with_reducible first | exact HB.out | apply ba | apply bd | apply be | refine bs ?_ (IsS82.ge HI0.out) | refine bs ?_ GE101.out) | exact HB.out)) hb); have n5_ := Aside0.mk (hbox); have n6_ := Aside0.mk ((by rw [hg]; exact (keep_size (w := w) (g := g) (row := none) (by repeat (first | (with_reducible first | exact HK.out | apply KeepBut.set_ | apply keep_drewN | apply keep_drew | apply keep_alloc | refine keep_far ?_ GW101.out _) | exact HK.out))) : w.heap.size ≤ gb108)); have n7_ := Aside0.mk ((Nat.le_trans HW0.out (by rw [hg]; exact (keep_size (w := w) (g := g) (row := none) (by repeat (first | (with_reducible first | exact HK.out | apply KeepBut.set_ | apply keep_drewN | apply keep_drew | apply keep_alloc | refine keep_far ?_ GW101.out _) | exact HK.out))) : w.heap.size ≤ gb108) : w0.heap.size ≤ gb108)); have n8_ := Aside0.mk ((by rw [hg]; exact Nat.ne_of_lt (blk_lt (g := gb101) (o := .cells #[.int .i64 0, .slice none 0 0] 26 (0, 0)) (bQ BK101)) : gb101 ≠ gb108)); have n9_ := Aside0.mk ((by rw [hg]; exact Nat.ne_of_gt (blk_lt (g := gb101) (o := .cells #[.int .i64 0, .slice none 0 0] 26 (0, 0)) (bQ BK101)) : gb108 ≠ gb101)); have n10_ := Aside0.mk ((by rw [hg]; exact Nat.ne_of_lt (IsS82.lt (show IsS82 w0 _ g s0_0 t106 t107 from by repeat (first | (with_reducible first | exact HI0.out | apply IsS82.alloc | apply IsS82.drewN | apply IsS82.drew | apply IsS82.set_1 | apply IsS82.set_2 | refine IsS82.far ?_ NB0_101.out _) | exact HI0.out))) : g ≠ gb108)); have n11_ := Aside0.mk ((by rw [hg]; exact Nat.ne_of_gt (IsS82.lt (show IsS82 w0 _ g s0_0 t106 t107 from by repeat (first | (with_reducible first | exact HI0.out | apply IsS82.alloc | apply IsS82.drewN | apply IsS82.drew | apply IsS82.set_1 | apply IsS82.set_2 | refine IsS82.far ?_ NB0_101.out _) | exact HI0.out))) : gb108 ≠ g)); clear HO105; clear HI0; clear BK101; clear HK; clear HB; have HO105 := n0_; have HI0 := n1_; have BK101 := n2_; have HK := n3_; have HB := n4_; have BK108 := n5_; have GW108 := n6_; have GE108 := n7_; have NB101_108 := n8_; have NB108_101 := n9_; have NB0_108 := n10_; have NB108_0 := n11_; clear n0_ n1_ n2_ n3_ n4_ n5_ n6_ n7_ n8_ n9_ n10_ n11_; clear hb hbox hg; have hnb91 := NB108_101.out; have hnc91 := NB101_108.out; have hnb92 := NB108_0.out; have hnc92 := NB0_108.out; have hcz93_0 := cZ BK108 0; have hcz93_1 := cZ BK108 1; have hfz93_0 := fZ BK108 0; have hfz93_1 := fZ BK108 1; obtain ⟨Ao94, co94, eo94⟩ := Kd.R_slice HO105.out; subst eo94) | ((with_reducible refine gate_callee (f := 155) rfl ?_); refine gL 10 Tryz.func155 #[.pointer (some ⟨g, 0, none⟩), .int .i64 16] ?_; (with_reducible refine (spec_l1Cur_pick.calls g s0_0 t106 t107 16 t109 t110 t111 w0 _ ?side1 ?side2 A4.out).mono ?_); (case side1 => repeat (first | (with_reducible first | exact HI0.out | apply IsS82.alloc | apply IsS82.drewN | apply IsS82.drew | apply IsS82.set_1 | apply IsS82.set_2 | refine IsS82.far ?_ NB0_101.out _ | refine IsS82.far ?_ NB0_108.out _) | exact HI0.out)); (case side2 => repeat (first | (with_reducible first | exact HB.out | apply ba | apply bd | apply be | refine bs ?_ (IsS82.ge HI0.out) | refine bs ?_ GE101.out | refine bs ?_ GE108.out) | exact HB.out)); rintro e w95 ⟨rfl, hi, hb, hk⟩; refine ⟨_, rfl, ?_⟩; have n0_ := Aside0.mk (KeepBut.blk hk (g' := gb101) (o := .cells #[.int .i64 0, .slice none 0 0] 26 (0, 0)) (by (try refine bp ?_); refine blk_far ?_ NB101_108.out _; (try refine bp ?_); refine blk_far ?_ NB101_108.out _; (first | exact bp BK101.out | exact BK101.out)) NB101_0.out (by simp)); have n1_ := Aside0.mk (Kd.R_mono (Kd.R_keep (IsS82.apart (show IsS82 w0 _ g s0_0 t106 t107 from by repeat (first | (with_reducible first | exact HI0.out | apply IsS82.alloc | apply IsS82.drewN | apply IsS82.drew | apply IsS82.set_1 | apply IsS82.set_2 | refine IsS82.far ?_ NB0_101.out _ | refine IsS82.far ?_ NB0_108.out _) | exact HI0.out)) (by (try refine rp ?_); exact (Kd.R_mono (Kd.R_far (p := ⟨gb108, 1, none⟩) (Kd.R_far (p := ⟨gb108, 0, none⟩) (Kd.R_types HO105.out BK108.out (by decide)) (fun _ hk => hk.2) (.int .i64 t102)) (fun _ hk => hk.2) (.slice Ao94 t103.length co94)) (fun _ h_ => h_.1))) (by decide)) hk (fun _ h => h.2)) (fun _ h => h.1)); have n2_ := Aside0.mk (KeepBut.blk hk (g' := gb108) (o := .cells #[.int .i64 t102, .slice Ao94 t103.length co94] 26 (0, 0)) (by (try refine bp ?_); refine blk_put (cs := #[.int .i64 t102, .slice none 0 0]) ?_ 1 _ rfl; (try refine bp ?_); refine blk_put (cs := #[.int .i64 0, .slice none 0 0]) ?_ 0 _ rfl; (first | exact bp BK108.out | exact BK108.out)) NB108_0.out (by simp)); have n3_ := Aside0.mk (KeepBut.trans (by repeat (first | (with_reducible first | exact HK.out | apply KeepBut.set_ | apply keep_drewN | apply keep_drew | apply keep_alloc | refine keep_far ?_ GW101.out _ | refine keep_far ?_ GW108.out _) | exact HK.out)) hk (.inl rfl)); have n4_ := Aside0.mk (hb); have n5_ := Aside0.mk (hi); clear BK101; clear HO105; clear BK108; clear HK; clear HB; clear HI0; have BK101 := n0_; have HO105 := n1_; have BK108 := n2_; have HK := n3_; have HB := n4_; have HI0 := n5_; clear n0_ n1_ n2_ n3_ n4_ n5_; (try clear hb); (try clear hb2); (try clear hk); (try clear hi); have hcz96_0 := cZ BK108 0; have hcz96_1 := cZ BK108 1; have hfz96_0 := fZ BK108 0; have hfz96_1 := fZ BK108 1; have hnb97 := NB101_0.out; have hnc97 := NB0_101.out; have hcz98_0 := cZ BK101 0; have hcz98_1 := cZ BK101 1; have hfz98_0 := fZ BK101 0; have hfz98_1 := fZ BK101 1))
     refine bodyPost_ret (results_cell_row rfl _ _ gb101 26 #[.int .i64 t102, .slice Ao94 t103.length co94] (0, 0) _ rfl (by (try refine bp ?_); refine blk_put (cs := #[.int .i64 t102, .slice none 0 0]) ?_ 1 _ rfl; (try refine bp ?_); refine blk_put (cs := #[.int .i64 0, .slice none 0 0]) ?_ 0 _ rfl; (first | exact bp BK101.out | exact BK101.out)) Tryz.underlying26 rfl (by kernel_rfl)) rfl ?_
     exact ⟨_, fR, by (try refine rp ?_); exact Kd.R_mono (Kd.R_far (p := ⟨gb101, 1, none⟩) (Kd.R_far (p := ⟨gb101, 0, none⟩) (Kd.R_types HO105.out BK101.out (by decide)) (fun _ hk => hk.2) (.int .i64 t102)) (fun _ hk => hk.2) (.slice Ao94 t103.length co94)) (fun _ hk => trivial), by repeat (first | (with_reducible first | exact HI0.out | apply IsS82.alloc | apply IsS82.drewN | apply IsS82.drew | apply IsS82.set_1 | apply IsS82.set_2 | refine IsS82.far ?_ NB0_101.out _ | refine IsS82.far ?_ NB0_108.out _) | exact HI0.out), by repeat (first | (with_reducible first | exact HB.out | apply ba | apply bd | apply be | refine bs ?_ (IsS82.ge HI0.out) | refine bs ?_ GE101.out | refine bs ?_ GE108.out) | exact HB.out), by repeat (first | (with_reducible first | exact HK.out | apply KeepBut.set_ | apply keep_drewN | apply keep_drew | apply keep_alloc | refine keep_far ?_ GW101.out _ | refine keep_far ?_ GW108.out _) | exact HK.out)⟩
def spec_DrawIsCommittee.f (k : Nat) (l0 : List Int) : Option (Int × List Int) := (spec_l1Cur_committee.f k l0 0 0 6).bind fun bt103 => (some (bt103.1, bt103.2.1))
theorem spec_DrawIsCommittee.calls (k : Nat) (A0 : Option Addr) (c0 : Nat) (l0 : List Int) (r1 : Int) (r2 : List Int) (w : World) (hr0 : Kd.C (Kd.int .u8) w A0 l0.length l0) (hc0 : l0.length ≤ c0) (h : spec_DrawIsCommittee.f k l0 = some (r1, r2)) :
  Calls Tryz.prog 142 #[.slice A0 l0.length c0] w fun e w' => ∃ v1_ : Value, e = .returned (.agg #[.int .i64 r1, v1_]) ∧ Kd.R (Kd.int .i64) 3 w' w.heap.size (fun _ => True) v1_ r2 ∧ Below w.heap.size w w' := by
 have hu26 := Tryz.underlying26
 have hu82 := Tryz.underlying82
 have HR0 := Aside0.mk hr0
 have HC0 := Aside0.mk hc0
 clear hr0 hc0
 have HB := Aside0.mk (Below.refl w.heap.size w)
 have H : ((spec_l1Cur_committee.f k l0 0 0 6).bind fun bt103 => (some (bt103.1, bt103.2.1))) = some (r1, r2) := h
 clear h
 replace H := oB H
 obtain ⟨⟨t103, t104, t107, t108⟩, A20, H⟩ := H
 replace H : (some (t103, t104)) = some (r1, r2) := H
 have A2 := Aside0.mk A20
 clear A20
 simp only [Option.some.injEq, Prod.mk.injEq] at H
 obtain ⟨rfl, rfl⟩ := H
 go_enter Tryz.func142, Tryz.ntmps142
 go_wp2_with (first | ((with_reducible refine gate_dst (N := 2) rfl ?_); refine box_event ?hg (N := 2) ?hd (cs := #[.int .i64 0, .slice none 0 0]) (t := 26) ?hr ?_; (case hd => rfl); (case hg => rfl); (case hr => first | (go_simp; done) | (go_simp; rfl)); intro gb101 hg w3 hbox hb; have n0_ := sQ hb; have n1_ := Aside0.mk (hbox); have n2_ := Aside0.mk ((by rw [hg]; exact (below_size (wB)) : w.heap.size ≤ gb101)); have n3_ := Aside0.mk ((by rw [hg]; exact (below_size (wB)) : w.heap.size ≤ gb101)); clear HB; have HB := n0_; have BK101 := n1_; have GW101 := n2_; have GE101 := n3_; clear n0_ n1_ n2_ n3_; clear hb hbox hg) | ((with_reducible refine gate_dst (N := 6) rfl ?_); refine box_event ?hg (N := 6) ?hd (cs := #[.slice A0 l0.length c0, .int .i64 0, .int .u64 0]) (t := 82) ?hr ?_; (case hd => rfl); (case hg => rfl); (case hr => first | (go_simp; done) | (go_simp; rfl)); intro gb102 hg w4 hbox hb; have n0_ := bP BK101 hb; have n1_ := sQ hb; have n2_ := Aside0.mk (hbox); have n3_ := Aside0.mk ((by rw [hg]; exact (below_size (wB)) : w.heap.size ≤ gb102)); have n4_ := Aside0.mk ((by rw [hg]; exact (below_size (wB)) : w.heap.size ≤ gb102)); have n5_ := Aside0.mk ((by rw [hg]; exact Nat.ne_of_lt (blk_lt (g := gb101) (o := .cells #[.int .i64 0, .slice none 0 0] 26 (0, 0)) (bQ BK101)) : gb101 ≠ gb102)); have n6_ := Aside0.mk ((by rw [hg]; exact Nat.ne_of_gt (blk_lt (g := gb101) (o := .cells #[.int .i64 0, .slice none 0 0] 26 (0, 0)) (bQ BK101)) : gb102 ≠ gb101)); have n7_ := Aside0.mk ((show IsS82 w _ gb102 l0 0 0 from ⟨A0, c0, hbox, (by rw [hg]; exact (below_size (wB))), HR0.out⟩)); clear BK101; clear HB; have BK101 := n0_; have HB := n1_; have BK102 := n2_; have GW102 := n3_; have GE102 := n4_; have NB101_102 := n5_; have NB102_101 := n6_; have HI102 := n7_; clear n0_ n1_ n2_ n3_ n4_ n5_ n6_ n7_; clear hb hbox hg) | ((with_reducible refine gate_callee (f := 133) rfl ?_); refine gL 8 Tryz.func133 #[.pointer (some ⟨gb102, 0, none⟩), .int .i64 6] ?_; (with_reducible refine (spec_l1Cur_committee.calls k gb102 l0 0 0 6 t103 t104 t107 t108 w _ ?side1 ?side2 A2.out).mono ?_); (case side1 => repeat (first | (with_reducible first | exact HI102.out | apply IsS82.alloc | apply IsS82.drewN | apply IsS82.drew | apply IsS82.set_1 | apply IsS82.set_2 | refine IsS82.far ?_ NB102_101.out _) | exact HI102.out)); (case side2 => repeat (first | (with_reducible first | exact HB.out | apply ba | apply bd | apply be | refine bs ?_ (IsS82.ge HI102.out) | refine bs ?_ GE101.out) | exact HB.out)); rintro e w5 ⟨v105, rfl, ho0, hi, hb, hk⟩; refine ⟨_, rfl, ?_⟩; have n0_ := Aside0.mk (KeepBut.blk hk (g' := gb101) (o := .cells #[.int .i64 0, .slice none 0 0] 26 (0, 0)) (bQ BK101) NB101_102.out (by simp)); have n1_ := Aside0.mk (Kd.R_lower ho0 (below_size (by repeat (first | (with_reducible first | exact HB.out | apply ba | apply bd | apply be | refine bs ?_ (IsS82.ge HI102.out) | refine bs ?_ GE101.out) | exact HB.out)))); have n2_ := Aside0.mk (hb); have n3_ := Aside0.mk (hi); clear BK101; clear HB; clear HI102; have BK101 := n0_; have HO106 := n1_; have HB := n2_; have HI102 := n3_; clear n0_ n1_ n2_ n3_; (try clear hb); (try clear hb2); (try clear hk); (try clear hi); (try clear ho0); have hnb6 := NB101_102.out; have hnc6 := NB102_101.out; have hcz7_0 := cZ BK101 0; have hcz7_1 := cZ BK101 1; have hfz7_0 := fZ BK101 0; have hfz7_1 := fZ BK101 1; obtain ⟨Ao8, co8, eo8⟩ := Kd.R_slice HO106.out; subst eo8))
 refine bodyPost_ret (results_cell_row rfl _ _ gb101 26 #[.int .i64 t103, .slice Ao8 t104.length co8] (0, 0) _ rfl (by (try refine bp ?_); refine blk_put (cs := #[.int .i64 t103, .slice none 0 0]) ?_ 1 _ rfl; (try refine bp ?_); refine blk_put (cs := #[.int .i64 0, .slice none 0 0]) ?_ 0 _ rfl; (first | exact bp BK101.out | exact BK101.out)) Tryz.underlying26 rfl (by kernel_rfl)) rfl ?_
 exact ⟨_, fR, by (try refine rp ?_); exact Kd.R_mono (Kd.R_far (p := ⟨gb101, 1, none⟩) (Kd.R_far (p := ⟨gb101, 0, none⟩) (Kd.R_types HO106.out BK101.out (by decide)) (fun _ hk => hk.2) (.int .i64 t103)) (fun _ hk => hk.2) (.slice Ao8 t104.length co8)) (fun _ hk => trivial), by repeat (first | (with_reducible first | exact HB.out | apply ba | apply bd | apply be | refine bs ?_ (IsS82.ge HI102.out) | refine bs ?_ GE101.out) | exact HB.out)⟩
def spec_DrawLeastWinning.f (k : Nat) (l0 : List Int) : Option (Int × List Int) := (spec_DrawIsCommittee.f k l0).bind fun bt102 => (some (bt102.1, bt102.2))
theorem spec_DrawLeastWinning.calls (k : Nat) (A0 : Option Addr) (c0 : Nat) (l0 : List Int) (r1 : Int) (r2 : List Int) (w : World) (hr0 : Kd.C (Kd.int .u8) w A0 l0.length l0) (hc0 : l0.length ≤ c0) (h : spec_DrawLeastWinning.f k l0 = some (r1, r2)) :
  Calls Tryz.prog 35 #[.slice A0 l0.length c0] w fun e w' => ∃ v1_ : Value, e = .returned (.agg #[.int .i64 r1, v1_]) ∧ Kd.R (Kd.int .i64) 3 w' w.heap.size (fun _ => True) v1_ r2 ∧ Below w.heap.size w w' := by
 have hu26 := Tryz.underlying26
 have HR0 := Aside0.mk hr0
 have HC0 := Aside0.mk hc0
 clear hr0 hc0
 have HB := Aside0.mk (Below.refl w.heap.size w)
 have H : ((spec_DrawIsCommittee.f k l0).bind fun bt102 => (some (bt102.1, bt102.2))) = some (r1, r2) := h
 clear h
 replace H := oB H
 obtain ⟨⟨t102, t103⟩, A20, H⟩ := H
 replace H : (some (t102, t103)) = some (r1, r2) := H
 have A2 := Aside0.mk A20
 clear A20
 simp only [Option.some.injEq, Prod.mk.injEq] at H
 obtain ⟨rfl, rfl⟩ := H
 go_enter Tryz.func35, Tryz.ntmps35
 go_wp2_with (first | ((with_reducible refine gate_dst (N := 2) rfl ?_); refine box_event ?hg (N := 2) ?hd (cs := #[.int .i64 0, .slice none 0 0]) (t := 26) ?hr ?_; (case hd => rfl); (case hg => rfl); (case hr => first | (go_simp; done) | (go_simp; rfl)); intro gb101 hg w3 hbox hb; have n0_ := sQ hb; have n1_ := Aside0.mk (hbox); have n2_ := Aside0.mk ((by rw [hg]; exact (below_size (wB)) : w.heap.size ≤ gb101)); have n3_ := Aside0.mk ((by rw [hg]; exact (below_size (wB)) : w.heap.size ≤ gb101)); clear HB; have HB := n0_; have BK101 := n1_; have GW101 := n2_; have GE101 := n3_; clear n0_ n1_ n2_ n3_; clear hb hbox hg) | ((with_reducible refine gate_callee (f := 142) rfl ?_); refine gL 4 Tryz.func142 #[.slice A0 l0.length c0] ?_; (with_reducible refine (spec_DrawIsCommittee.calls k _ _ l0 t102 t103 _ ?side1 ?side2 A2.out).mono ?_); (case side1 => have hx_ := (Kd.C_below HR0.out HB.out); exact cC); (case side2 => exact HC0.out); rintro e w4 ⟨v104, rfl, ho0, hb⟩; refine ⟨_, rfl, ?_⟩; have n0_ := Aside0.mk (Kd.R_lower ho0 (below_size (wB))); have n1_ := bP BK101 hb; have n2_ := sQ hb; clear BK101; clear HB; have HO105 := n0_; have BK101 := n1_; have HB := n2_; clear n0_ n1_ n2_; (try clear hb); (try clear hb2); (try clear hk); (try clear hi); (try clear ho0); have hcz5_0 := cZ BK101 0; have hcz5_1 := cZ BK101 1; have hfz5_0 := fZ BK101 0; have hfz5_1 := fZ BK101 1; obtain ⟨Ao6, co6, eo6⟩ := Kd.R_slice HO105.out; subst eo6))
 refine bodyPost_ret (results_cell_row rfl _ _ gb101 26 #[.int .i64 t102, .slice Ao6 t103.length co6] (0, 0) _ rfl (by (try refine bp ?_); refine blk_put (cs := #[.int .i64 t102, .slice none 0 0]) ?_ 1 _ rfl; (try refine bp ?_); refine blk_put (cs := #[.int .i64 0, .slice none 0 0]) ?_ 0 _ rfl; (first | exact bp BK101.out | exact BK101.out)) Tryz.underlying26 rfl (by kernel_rfl)) rfl ?_
 exact ⟨_, fR, by (try refine rp ?_); exact Kd.R_mono (Kd.R_far (p := ⟨gb101, 1, none⟩) (Kd.R_far (p := ⟨gb101, 0, none⟩) (Kd.R_types HO105.out BK101.out (by decide)) (fun _ hk => hk.2) (.int .i64 t102)) (fun _ hk => hk.2) (.slice Ao6 t103.length co6)) (fun _ hk => trivial), wB⟩
def impl_votesOf.l0 : Nat → (Int → Option Bool) → Int → Int → Int → List Bool → Option (Int × List Bool)
 | 0, _, _, _, _, _ => none
 | k + 1, x1, x14, x15, x106000, x106001 => if x15 < x14 then ((x1 x15).bind fun t106 => (if 0 ≤ x15 then (if x15 < (x106001.length : Int) then (impl_votesOf.l0 k x1 x14 (wrap64 (x15 + 1)) x106000 (x106001.set (x15 : Int).toNat t106)) else (none)) else (none))) else (some (x106000, x106001))
def impl_votesOf.f (k : Nat) (a0 : Int) (a1 : Int → Option Bool) : Option (Int × List Bool) := if 0 ≤ a0 then (if 0 ≤ (shl .i64 1 a0) then (if (shl .i64 1 a0 : Int).toNat ≤ 281474976710656 then ((some (List.replicate (shl .i64 1 a0 : Int).toNat false : List Bool)).bind fun y102 => (impl_votesOf.l0 k a1 (y102.length : Int) 0 a0 y102)) else (none)) else (none)) else (none)
def impl_votesOf.T5 : Bool × List (List Nat × List Nat) := (true, [([], []), ([0], [0]), ([], []), ([], []), ([], []), ([3, 4], [3, 4]), ([1, 2, 0, 1, 2, 3, 4, 5], [1, 2]), ([6, 5, 5, 0, 1, 2, 3, 4, 5], [5, 6])])
def impl_votesOf.B5 : List Nat := [0, 1, 0, 0, 0, 24, 63, 127]
theorem impl_votesOf.tab5 : rtab .any (opsOf Tryz.f203 5) = impl_votesOf.T5 := by kernel_rfl
theorem impl_votesOf.bits5 : waitsOk impl_votesOf.T5.2 impl_votesOf.B5 = true := by kernel_rfl
theorem impl_votesOf.hof (k : Nat) (a0 : Int) (a1 : Int → Option Bool) (g : Nat) (lb : Array Value) (r1 : Int) (r2 : List Bool) (w : World) (eg : ∀ args w, (callFunc g args).run Tryz.prog w = .ok (.enter g args) w)
  (hp : ∀ (W : World) (x : Int) (b : Bool), Below w.heap.size w W → a1 x = some b → Calls Tryz.prog g (#[.int .i64 x] ++ lb) W fun e W' => e = .returned (.bool b) ∧ Below W.heap.size W W') (h : impl_votesOf.f k a0 a1 = some (r1, r2)) :
  Calls Tryz.prog 203 #[.int .i64 a0, .func (.func g) #[] lb] w fun e w' => ∃ v1_ : Value, e = .returned (.agg #[.int .i64 r1, v1_]) ∧ Kd.R Kd.bool 4 w' w.heap.size (fun _ => True) v1_ r2 ∧ Below w.heap.size w w' := by
 have huV := Tryz.underlying87
 have HB := Aside0.mk (Below.refl w.heap.size w)
 have HP := Aside0.mk hp
 clear hp
 have H : (if 0 ≤ a0 then (if 0 ≤ (shl .i64 1 a0) then (if (shl .i64 1 a0 : Int).toNat ≤ 281474976710656 then ((some (List.replicate (shl .i64 1 a0 : Int).toNat false : List Bool)).bind fun y102 => (impl_votesOf.l0 k a1 (y102.length : Int) 0 a0 y102)) else (none)) else (none)) else (none)) = some (r1, r2) := h
 clear h
 by_cases c3 : 0 ≤ a0
 ·rw [if_pos c3] at H
  have c3b0 := eq_true c3
  have c3b1 : decide (0 ≤ a0) = true := decide_eq_true c3
  clear c3
  obtain ⟨ji4, hji4⟩ : ∃ j_ : Int, (shl .i64 1 a0) = j_ := ⟨_, rfl⟩
  replace H : (if 0 ≤ (ji4) then (if (ji4 : Int).toNat ≤ 281474976710656 then ((some (List.replicate (ji4 : Int).toNat false : List Bool)).bind fun y102 => (impl_votesOf.l0 k a1 (y102.length : Int) 0 a0 y102)) else (none)) else (none)) = some (r1, r2) := by first | (rw [hji4] at H; exact H) | (simp only [hji4] at H ⊢; exact H)
  have hji4_ : (IntKind.i64.wrap (1 * 2 ^ min a0.toNat 64)) = ji4 := hji4
  have hji4z : a0 ≤ 64 → (IntKind.i64.wrap (1 * 2 ^ a0.toNat)) = ji4 := shl_small hji4
  have hji4u : (IntKind.i64.wrap (2 ^ min a0.toNat 64)) = ji4 := by have h_ := hji4_; rw [Int.one_mul] at h_; exact h_
  have hji4v : a0 ≤ 64 → (IntKind.i64.wrap (2 ^ a0.toNat)) = ji4 := fun hle_ => by have h_ := hji4z hle_; rw [Int.one_mul] at h_; exact h_
  have hji4y : (wrap64 (1 * 2 ^ min a0.toNat 64)) = ji4 := (i64_w _).symm.trans hji4_
  have hji4x : a0 ≤ 64 → (wrap64 (1 * 2 ^ a0.toNat)) = ji4 := fun h_ => (i64_w _).symm.trans (hji4z h_)
  by_cases c5 : 0 ≤ (ji4)
  ·rw [if_pos c5] at H
   have c5b0 := eq_true c5
   have c5b1 : decide (0 ≤ (ji4)) = true := decide_eq_true c5
   clear c5
   by_cases c6 : (ji4 : Int).toNat ≤ 281474976710656
   ·rw [if_pos c6] at H
    have c6b0 := eq_true c6
    have c6b1 : decide ((ji4 : Int).toNat ≤ 281474976710656) = true := decide_eq_true c6
    clear c6
    obtain ⟨y102, hy102⟩ : ∃ y_ : List Bool, y_ = (List.replicate (ji4 : Int).toNat false) := ⟨_, rfl⟩
    replace H : (impl_votesOf.l0 k a1 (y102.length : Int) 0 a0 y102) = some (r1, r2) := by first | (rw [hy102]; with_reducible exact H) | (have H2_ := (Option.bind_some _ _).symm.trans H; rw [hy102]; with_reducible exact H2_) | (have H2_ := (Option.bind_some _ _).symm.trans H; with_reducible exact H2_) | with_reducible exact H | (rw [hy102]; exact H) | exact H
    have Ny102 := Aside0.mk hy102
    clear hy102
    have H' := Aside0.mk H
    clear H
    go_enter Tryz.func203, Tryz.ntmps203
    go_wp2_with (first | ((with_reducible refine gate_dst (N := 4) rfl ?_); refine box_event ?hg (N := 4) ?hd (cs := #[.int .i64 0, .slice none 0 0]) (t := 87) ?hr ?_; (case hd => rfl); (case hg => rfl); (case hr => first | (go_simp; done) | (go_simp; rfl)); intro gb101 hg w7 hbox hb; have n0_ := sQ hb; have n1_ := Aside0.mk (hbox); have n2_ := Aside0.mk ((by rw [hg]; exact (below_size (wB)) : w.heap.size ≤ gb101)); have n3_ := Aside0.mk ((by rw [hg]; exact (below_size (wB)) : w.heap.size ≤ gb101)); clear HB; have HB := n0_; have BK101 := n1_; have GW101 := n2_; have GE101 := n3_; clear n0_ n1_ n2_ n3_; clear hb hbox hg) | ((with_reducible refine gate_dst (N := 10) rfl ?_); refine Kd.R_make Kd.bool _ 4 rfl (N := 10) rfl 85 _ _ rfl ji4 rfl rfl Tryz.underlying85 (.bool false) 1 info4 rfl (by decide) (by omega) false (ok := fun _ => True) (okp := fun _ => True) rfl (fun _ hk => hk) trivial (oD) (Nat.le_trans (Nat.mul_le_mul_right _ (oD : ji4.toNat ≤ 281474976710656)) (by omega)) (Below.refl _ _) (Nat.le_refl _) ?_; intro v103 w8 ho9 hb hg_ hnew_; clear hg_ hnew_; (first | rw [← Ny102.out] at ho9 | (simp only [Int.reduceToNat] at ho9; rw [← Ny102.out] at ho9)); have n0_ := Aside0.mk (Kd.R_lower ho9 (below_size (wB))); have n1_ := bP BK101 hb; have n2_ := sQ hb; clear BK101; clear HB; have HO104 := n0_; have BK101 := n1_; have HB := n2_; clear n0_ n1_ n2_; clear hb ho9; obtain ⟨Ao10, co10, eo10⟩ := Kd.R_slice HO104.out; subst eo10) | ((with_reducible refine gate_dst (N := 5) rfl ?_); refine box_event ?hg (N := 5) ?hd (cs := #[.int .i64 0, .slice none 0 0]) (t := 87) ?hr ?_; (case hd => rfl); (case hg => rfl); (case hr => first | (go_simp; done) | (go_simp; rfl)); intro gb105 hg w11 hbox hb; have n0_ := rP HO104 hb; have n1_ := bP BK101 hb; have n2_ := sQ hb; have n3_ := Aside0.mk (hbox); have n4_ := Aside0.mk ((by rw [hg]; exact (below_size (wB)) : w.heap.size ≤ gb105)); have n5_ := Aside0.mk ((by rw [hg]; exact (below_size (wB)) : w.heap.size ≤ gb105)); have n6_ := Aside0.mk ((by rw [hg]; exact Nat.ne_of_lt (blk_lt (g := gb101) (o := .cells #[.int .i64 0, .slice none 0 0] 87 (0, 0)) (bQ BK101)) : gb101 ≠ gb105)); have n7_ := Aside0.mk ((by rw [hg]; exact Nat.ne_of_gt (blk_lt (g := gb101) (o := .cells #[.int .i64 0, .slice none 0 0] 87 (0, 0)) (bQ BK101)) : gb105 ≠ gb101)); clear HO104; clear BK101; clear HB; have HO104 := n0_; have BK101 := n1_; have HB := n2_; have BK105 := n3_; have GW105 := n4_; have GE105 := n5_; have NB101_105 := n6_; have NB105_101 := n7_; clear n0_ n1_ n2_ n3_ n4_ n5_ n6_ n7_; clear hb hbox hg; have hnb12 := NB105_101.out; have hnc12 := NB101_105.out; have hcz13_0 := cZ BK105 0; have hcz13_1 := cZ BK105 1; have hfz13_0 := fZ BK105 0; have hfz13_1 := fZ BK105 1))
    go_loopg [15] k (fun kq v15 w' => ∃ (x15_1 : Int) (x106001_1 : List Bool) (u106001 : Value), v15 = .int .i64 x15_1 ∧ Aside0 (impl_votesOf.l0 kq a1 (y102.length : Int) x15_1 a0 x106001_1 = some (r1, r2)) ∧ Aside0 (kq ≤ k) ∧ Aside0 (Kd.R Kd.bool 4 w' w.heap.size (fun _ => True) u106001 x106001_1) ∧ Aside0 (w'.heap[gb101]? = some (.cells #[.int .i64 0, (.slice none 0 0)] 87 (0, 0))) ∧ Aside0 (w'.heap[gb105]? = some (.cells #[.int .i64 a0, u106001] 87 (0, 0))) ∧ Aside0 (Below w.heap.size w w'))
    case atStart => exact ⟨(0), (y102), (.slice Ao10 y102.length co10), gR, H', ⟨Nat.le_refl _⟩, ⟨by (try refine rp ?_); exact Kd.R_mono (Kd.R_far (p := ⟨gb105, 1, none⟩) (Kd.R_far (p := ⟨gb105, 0, none⟩) (Kd.R_types HO104.out BK105.out (by decide)) (fun _ hk => hk.2) (.int .i64 a0)) (fun _ hk => hk.2) (.slice Ao10 y102.length co10)) (fun _ hk => trivial)⟩, ⟨by (try refine bp ?_); refine blk_far ?_ NB101_105.out _; (try refine bp ?_); refine blk_far ?_ NB101_105.out _; (first | exact bp BK101.out | exact BK101.out)⟩, ⟨by (try refine bp ?_); refine blk_put (cs := #[.int .i64 a0, .slice none 0 0]) ?_ 1 _ rfl; (try refine bp ?_); refine blk_put (cs := #[.int .i64 0, .slice none 0 0]) ?_ 0 _ rfl; (first | exact bp BK105.out | exact BK105.out)⟩, ⟨wB⟩⟩
    case round =>
     clear H'
     try clear c1
     try clear p2
     try clear c3
     try clear c3b0
     try clear c3b1
     try clear c5
     try clear c5b0
     try clear c5b1
     try clear c6
     try clear c6b0
     try clear c6b1
     try clear p6
     try clear c12
     try clear hcz13_0
     try clear hcz13_1
     try clear hfz13_0
     try clear hfz13_1
     obtain ⟨x15_1, x106001_1, u106001, rfl, HA, HK1, HO_106001, BK101, BK105, HB⟩ := hrel
     cases gk with
     | zero => exact absurd HA.out (by simp [impl_votesOf.l0])
     | succ k1 =>
      have H := HA.out
      clear HA
      simp only [impl_votesOf.l0] at H
      by_cases c14 : x15_1 < (y102.length : Int)
      ·rw [if_pos c14] at H
       have c14b0 : decide (x15_1 < (y102.length : Int)) = true := decide_eq_true c14
       clear c14
       replace H := oB H
       obtain ⟨t106, A150, H⟩ := H
       replace H : (if 0 ≤ x15_1 then (if x15_1 < (x106001_1.length : Int) then (impl_votesOf.l0 k1 a1 (y102.length : Int) (wrap64 (x15_1 + 1)) a0 (x106001_1.set (x15_1 : Int).toNat t106)) else (none)) else (none)) = some (r1, r2) := H
       have A15 := Aside0.mk A150
       clear A150
       by_cases c16 : 0 ≤ x15_1
       ·rw [if_pos c16] at H
        have c16b0 : decide (0 ≤ x15_1) = true := decide_eq_true c16
        clear c16
        by_cases c17 : x15_1 < (x106001_1.length : Int)
        ·rw [if_pos c17] at H
         have c17b0 : decide (x15_1 < (x106001_1.length : Int)) = true := decide_eq_true c17
         clear c17
         obtain ⟨y107, hy107⟩ : ∃ y_ : List Bool, y_ = (x106001_1.set (x15_1 : Int).toNat t106) := ⟨_, rfl⟩
         replace H : (impl_votesOf.l0 k1 a1 (y102.length : Int) (wrap64 (x15_1 + 1)) a0 y107) = some (r1, r2) := by first | (rw [hy107]; with_reducible exact H) | (have H2_ := (Option.bind_some _ _).symm.trans H; rw [hy107]; with_reducible exact H2_) | (have H2_ := (Option.bind_some _ _).symm.trans H; with_reducible exact H2_) | with_reducible exact H | (rw [hy107]; exact H) | exact H
         have Ny107 := Aside0.mk hy107
         clear hy107
         have H' := Aside0.mk H
         clear H
         try go_wp2
         have n0_ := rD HO_106001
         have n1_ := bD BK101
         have n2_ := bD BK105
         have n3_ := Aside0.mk (below_drew1 HB.out)
         clear HO_106001
         clear BK101
         clear BK105
         clear HB
         have HO_106001 := n0_
         have BK101 := n1_
         have BK105 := n2_
         have HB := n3_
         clear n0_ n1_ n2_ n3_
         refine start_ (n := 8) (S := fun w' => w'.cell? ⟨gb105, 0, none⟩ = some (.int .i64 a0) ∧ w'.cell? ⟨gb105, 1, none⟩ = some (u106001)) (ds := [7]) #[false, false, false, false, false, false, false, false] (by kernel_rfl) rfl rfl ⟨(blk_cell BK105.out 0).trans rfl, (blk_cell BK105.out 1).trans rfl⟩ (fun hHeld => ?_); refine with_tabW impl_votesOf.tab5 impl_votesOf.bits5 (fun HT_ HW_ => ?_)
         generalize wr.drew = w19 at HO_106001 BK101 BK105 HB hHeld ⊢
         refine pU 0 HT_ ?_
         refine pU 2 HT_ ?_
         refine pU 3 HT_ ?_
         refine pU 4 HT_ ?_
         refine tK 1 HT_ HW_ hHeld (hy := by rintro w' ⟨s0, s1⟩; go_simp; with_reducible rfl) ?_
         refine oN 5 HT_ (fun K hK => ?_)
         refine Go.Proofs.YtamfpkefnhcngaaGreatX.goesF_ (g := g) (lb := lb) eg #[.int .i64 x15_1] (by rfl) rfl rfl rfl (by (try simp only [mA, mC, mN]); first | done | rfl | (simp only [List.length_drop, List.length_take]; rfl)) ?_
         refine (HP.out _ x15_1 t106 HB.out A15.out).mono ?_
         rintro e w20 ⟨rfl, hb⟩
         refine ⟨_, rfl, ?_⟩
         have n0_ := rP HO_106001 hb
         have n1_ := bP BK101 hb
         have n2_ := bP BK105 hb
         have n3_ := sQ hb
         clear HO_106001
         clear BK101
         clear BK105
         clear HB
         have HO_106001 := n0_
         have BK101 := n1_
         have BK105 := n2_
         have HB := n3_
         clear n0_ n1_ n2_ n3_
         (try clear hb)
         (try clear hb2)
         (try clear hk)
         (try clear hi)
         have p18 : 0 ≤ (x15_1 : Int) := oD
         have q18 : (x15_1 : Int) < ((x106001_1.length : Int) : Int) := oD
         obtain ⟨go18, co18, eo18, gb18, gl18, cl18, HG18⟩ := Kd.R_form HO_106001.out (by omega)
         (first | cases eo18 | (injection eo18 with ea_ en_ ec_; (first | subst ea_ | (injection ea_ with ea_; subst ea_)); subst ec_; clear en_))
         have GB18 := Aside0.mk gb18
         have GG18 := Aside0.mk HG18
         clear gb18 gl18 HG18
         obtain ⟨hx18_0, hf18_0⟩ := Kd.R_celln false HO_106001.out (x15_1 : Int) p18 q18
         replace p18 := eq_true p18
         replace q18 := eq_true q18
         have HP21 := Kd.R_putn HO_106001.out (x15_1 : Int) t106
         rw [← Ny107.out] at HP21
         have HQ21 := Aside0.mk HP21
         clear HP21
         refine hK.out _ _ ⟨(blk_cell BK105.out 0).trans rfl, (blk_cell BK105.out 1).trans rfl⟩ (fun hHeld => ?_)
         clear hK K
         refine nM ?_
         refine pU 6 HT_ ?_
         refine last_ (i := 7) (N := none) #[true, true, true, true, true, true, true, true] rfl rfl (one_of HT_.out (by kernel_rfl)) (by decide) (fun K hK => ?_)
         refine skip_ (w1 := ?_) (by rfl) rfl ?_ ?_
         rotate_left
         ·go_simp
          rfl
         refine hK.out _ _ ?_
         clear hK K
         refine done_ (done_of HT_.out (by kernel_rfl)) ?_
         try go_wp2
         go_roundg k1
         case measure => have := HK1.out; omega
         case rel => exact ⟨(wrap64 (x15_1 + 1)), (y107), (.slice (some ⟨go18, 0, none⟩) x106001_1.length co18), gR, H', ⟨by have := HK1.out; omega⟩, ⟨by (first | exact rp HQ21.out | exact HQ21.out)⟩, ⟨by (try refine bp ?_); refine blk_far ?_ (by have h_ := Kd.R_ne HO_106001.out BK101.out (by decide); intro e_; exact h_ (by rw [e_]; rfl)) _; (first | exact bp BK101.out | exact BK101.out)⟩, ⟨by (try refine bp ?_); refine blk_far ?_ (by have h_ := Kd.R_ne HO_106001.out BK105.out (by decide); intro e_; exact h_ (by rw [e_]; rfl)) _; (first | exact bp BK105.out | exact BK105.out)⟩, ⟨by repeat (first | (with_reducible first | exact HB.out | apply ba | apply bd | apply be | refine bs ?_ GB18.out | refine bs ?_ GE101.out | refine bs ?_ GE105.out) | exact HB.out)⟩⟩
        ·rw [if_neg c17] at H
         exact absurd H (by simp)
       ·rw [if_neg c16] at H
        exact absurd H (by simp)
      ·rw [if_neg c14] at H
       have c14b0 : decide (x15_1 < (y102.length : Int)) = false := decide_eq_false c14
       clear c14
       simp only [Option.some.injEq, Prod.mk.injEq] at H
       obtain ⟨rfl, rfl⟩ := H
       have hnb22 := NB105_101.out
       have hnc22 := NB101_105.out
       have hcz23_0 := cZ BK105 0
       have hcz23_1 := cZ BK105 1
       have hfz23_0 := fZ BK105 0
       have hfz23_1 := fZ BK105 1
       have hcz24_0 := cZ BK101 0
       have hcz24_1 := cZ BK101 1
       have hfz24_0 := fZ BK101 0
       have hfz24_1 := fZ BK101 1
       obtain ⟨Ao25, co25, eo25⟩ := Kd.R_slice HO_106001.out
       subst eo25
       go_wp2
       refine bodyPost_ret (results_cell_row rfl _ _ gb101 87 #[.int .i64 a0, .slice Ao25 x106001_1.length co25] (0, 0) _ rfl (by (try refine bp ?_); refine blk_put (cs := #[.int .i64 a0, .slice none 0 0]) ?_ 1 _ rfl; (try refine bp ?_); refine blk_put (cs := #[.int .i64 0, .slice none 0 0]) ?_ 0 _ rfl; (first | exact bp BK101.out | exact BK101.out)) Tryz.underlying87 rfl (by kernel_rfl)) rfl ?_
       exact ⟨_, by first | rfl | (simp <;> rfl) | (simp only [← hji4]; first | rfl | (simp <;> rfl)) | (simp [*] <;> rfl), by (try refine rp ?_); exact Kd.R_mono (Kd.R_far (p := ⟨gb101, 1, none⟩) (Kd.R_far (p := ⟨gb101, 0, none⟩) (Kd.R_types HO_106001.out BK101.out (by decide)) (fun _ hk => hk.2) (.int .i64 a0)) (fun _ hk => hk.2) (.slice Ao25 x106001_1.length co25)) (fun _ hk => trivial), wB⟩
   ·rw [if_neg c6] at H
    exact absurd H (by simp)
  ·rw [if_neg c5] at H
   exact absurd H (by simp)
 ·rw [if_neg c3] at H
  exact absurd H (by simp)
end Go.Proofs.YtamfpkefnhcngaaGreat.Q
namespace Go.Proofs.YtamfpkefnhcngaaGreat.Q
open Go.RowKit Go.Proofs.YtamfpkefnhcngaaGreatX Go.Proofs.YtamfpkefnhcngaaGreatY Go.Proofs.YtamfpkefnhcngaaGreatX Go.Proofs.YtamfpkefnhcngaaGreatW.PrintWords Go.Proofs.YtamfpkefnhcngaaGreatW.PrintLast Go.Proofs.YtamfpkefnhcngaaGreatW.PrintMore
attribute [local go_sem] max2_int min2_int max_two min_two max_three min_three max_four min_four   -- for this text's walks alone
set_option linter.unusedVariables false
set_option linter.unusedSimpArgs false
def impl_Committee_votes_1.f (k : Nat) (a0 : Int) (l0 : List Int) (m : Int) : Option Bool := (impl_Committee_weight.f k a0 l0 m).bind fun s => some (decide (a0 ≤ s))
def impl_Committee_votes.f (k : Nat) (a0_0 : Int) (l0_1 : List Int) : Option (Int × List Bool) := impl_votesOf.f k (l0_1.length : Int) (impl_Committee_votes_1.f k a0_0 l0_1)
theorem impl_Committee_votes_1.clo (k : Nat) (m q : Int) (A : Option Addr) (c : Nat) (l : List Int) (B : Nat) (b : Bool) (W : World) (hlt : B < W.heap.size) (h0 : W.cell? ⟨B, 0, none⟩ = some (.int .i64 q)) (h1 : W.cell? ⟨B, 1, none⟩ = some (.slice A l.length c))
  (hr : Kd.C (Kd.int .i64) W A l.length l) (hc : l.length ≤ c) (h : impl_Committee_votes_1.f k q l m = some b) :
  Calls Tryz.prog 204 #[.int .i64 m, .pointer (some ⟨B, 0, none⟩)] W fun e W' => e = .returned (.bool b) ∧ Below W.heap.size W W' := by
 obtain ⟨s, hs, hb⟩ := oB h
 obtain rfl := Option.some.inj hb
 have HS := Aside0.mk hs
 have HR := Aside0.mk hr
 have HC := Aside0.mk hc
 have HLT := Aside0.mk hlt
 clear h hb hs hr hc hlt
 have hd0 : W.drew.cell? ⟨B, 0, none⟩ = some (.int .i64 q) := h0
 have hd1 : W.drew.cell? ⟨B, 1, none⟩ = some (.slice A l.length c) := h1
 have HD0 := Aside0.mk hd0
 have HD1 := Aside0.mk hd1
 clear hd0 hd1
 have HZ := Aside0.mk (show W.drew.heap.size = W.heap.size from rfl)
 go_enter Tryz.func204, Tryz.ntmps204
 go_wp2
 go_region_held3 (fun w' => w'.cell? ⟨B, 0, none⟩ = some (.int .i64 q) ∧ w'.cell? ⟨B, 1, none⟩ = some (.slice A l.length c)) (first | exact ⟨k0, k1⟩ | go_keep)
  (first | (go_at_call 122; refine (impl_Committee_weight.calls k q A c l m s _ (Kd.C_drew HR.out) HC.out HS.out).mono ?_; rintro e w' ⟨rfl, hb⟩; have k0 := (hb.cell (p := ⟨B, 0, none⟩) (by rw [HZ.out]; exact HLT.out)).trans HD0.out; have k1 := (hb.cell (p := ⟨B, 1, none⟩) (by rw [HZ.out]; exact HLT.out)).trans HD1.out; have HBN := Aside0.mk hb; clear hb))
 go_wp2
 go_ret
 exact ⟨rfl, (below_drew1 (Below.refl _ _)).trans (HBN.out.mono (by rw [HZ.out]; exact Nat.le_refl _))⟩
theorem impl_Committee_votes.calls (k : Nat) (a0_0 : Int) (A0_1 : Option Addr) (c0_1 : Nat) (l0_1 : List Int) (r1 : Int) (r2 : List Bool) (w : World) (hr0_1 : Kd.C (Kd.int .i64) w A0_1 l0_1.length l0_1) (hc0_1 : l0_1.length ≤ c0_1) (h : impl_Committee_votes.f k a0_0 l0_1 = some (r1, r2)) :
  Calls Tryz.prog 135 #[.agg #[.int .i64 a0_0, .slice A0_1 l0_1.length c0_1]] w fun e w' => ∃ v1_ : Value, e = .returned (.agg #[.int .i64 r1, v1_]) ∧ Kd.R Kd.bool 4 w' w.heap.size (fun _ => True) v1_ r2 ∧ Below w.heap.size w w' := by
 have eg : ∀ args w, (callFunc 204 args).run Tryz.prog w = .ok (.enter 204 args) w := enters_of Tryz.func204 (by kernel_rfl) rfl
 have hmf : ∀ (fn : Fn) (first cap : Array Value) (w : World), (Instr.makeFunc fn first cap).run Tryz.prog w = .ok (.func fn first cap) w := fun _ _ _ _ => rfl
 have huC := Tryz.underlying26
 have huV := Tryz.underlying87
 have HR := Aside0.mk hr0_1
 have HC := Aside0.mk hc0_1
 have H := Aside0.mk h
 clear hr0_1 hc0_1 h
 go_enter Tryz.func135, Tryz.ntmps135
 go_wp2_with fail
 have hB2 : Below w.heap.size w ((w.alloc (.cells #[.int .i64 a0_0, .slice A0_1 l0_1.length c0_1] 26)).alloc (.cells #[.int .i64 0, .slice none 0 0] 87)) := ((Below.refl _ _).alloc (Nat.le_refl _) _).alloc (by simp) _
 refine (impl_votesOf.hof k (l0_1.length : Int) (impl_Committee_votes_1.f k a0_0 l0_1) 204 #[.pointer (some ⟨w.heap.size, 0, none⟩)] r1 r2 _ eg ?_ H.out).mono ?_
 ·intro W x b hb hx
  have hlt : w.heap.size < W.heap.size := Nat.lt_of_lt_of_le (by simp; omega) hb.size
  refine impl_Committee_votes_1.clo k x a0_0 A0_1 c0_1 l0_1 w.heap.size b W hlt ?_ ?_ (Kd.C_below HR.out (hB2.trans (hb.mono hB2.size))) HC.out hx
  ·rw [hb.cell (p := ⟨w.heap.size, 0, none⟩) (by simp; omega)]
   simp [go_sem]
  ·rw [hb.cell (p := ⟨w.heap.size, 1, none⟩) (by simp; omega)]
   simp [go_sem]
 ·rintro e w' ⟨v1, rfl, hown, hb⟩
  obtain ⟨A1, c1, rfl⟩ := Kd.R_slice hown
  have HBN := Aside0.mk (hB2.trans (hb.mono hB2.size))
  have hsz : (w.alloc (.cells #[.int .i64 a0_0, .slice A0_1 l0_1.length c0_1] 26)).heap.size = w.heap.size + 1 := by simp
  have hw2 := blk_new (w.alloc (.cells #[.int .i64 a0_0, .slice A0_1 l0_1.length c0_1] 26)) (.cells #[.int .i64 0, .slice none 0 0] 87)
  rw [hsz] at hw2
  have BK := Aside0.mk (blk_below hw2 hb)
  have HO := Aside0.mk (Kd.R_lower hown hB2.size)
  have hc0 := (blk_cell BK.out 0).trans rfl
  have hc1 := (blk_cell BK.out 1).trans rfl
  have hf0 := blk_frozen BK.out 0
  have hf1 := blk_frozen BK.out 1
  clear hown hw2 hb hB2 hsz
  go_wp2
  refine bodyPost_ret (results_cell_row rfl _ _ (w.heap.size + 1) 87 #[.int .i64 r1, .slice A1 r2.length c1] (0, 0) _ rfl (by refine blk_put (cs := #[.int .i64 r1, .slice none 0 0]) ?_ 1 _ rfl; refine blk_put (cs := #[.int .i64 0, .slice none 0 0]) ?_ 0 _ rfl; exact BK.out) Tryz.underlying87 rfl (by kernel_rfl)) rfl ?_
  exact ⟨_, rfl, Kd.R_mono (Kd.R_far (p := ⟨w.heap.size + 1, 1, none⟩) (Kd.R_far (p := ⟨w.heap.size + 1, 0, none⟩) (Kd.R_types HO.out BK.out (by decide)) (fun _ hk => hk.2) (.int .i64 r1)) (fun _ hk => hk.2) (.slice A1 r2.length c1)) (fun _ _ => trivial), below_set (below_set HBN.out (Nat.le_succ _)) (Nat.le_succ _)⟩
def impl_votes_isLeast.l0 : Nat → Int → Int → Int → Int → List Bool → Option (Bool)
 | 0, _, _, _, _, _ => none
 | k + 1, x1, x13, x14, x102000, x102001 => if x14 < x13 then ((impl_has.f x1 x14).bind fun t103 => (if t103 = true then (if 0 ≤ x14 then (if 0 ≤ (Go.bits .andNot .i64 x1 (shl .i64 1 x14)) then (if (Go.bits .andNot .i64 x1 (shl .i64 1 x14)) < (x102001.length : Int) then (if rdOf false x102001 (Go.bits .andNot .i64 x1 (shl .i64 1 x14)) = true then (some false) else (impl_votes_isLeast.l0 k x1 x13 (wrap64 (x14 + 1)) x102000 x102001)) else (none)) else (none)) else (none)) else (impl_votes_isLeast.l0 k x1 x13 (wrap64 (x14 + 1)) x102000 x102001))) else (some true)
def impl_votes_isLeast.f (k : Nat) (a0_0 : Int) (l0_1 : List Bool) (a1 : Int) : Option (Bool) := if 0 ≤ a1 then (if a1 < (l0_1.length : Int) then (if rdOf false l0_1 a1 = true then (impl_votes_isLeast.l0 k a1 a0_0 0 a0_0 l0_1) else (some false)) else (none)) else (none)
theorem impl_votes_isLeast.calls (k : Nat) (a0_0 : Int) (A0_1 : Option Addr) (c0_1 : Nat) (l0_1 : List Bool) (a1 : Int) (r : Bool) (w : World) (hr0_1 : Kd.C Kd.bool w A0_1 l0_1.length l0_1) (hc0_1 : l0_1.length ≤ c0_1) (h : impl_votes_isLeast.f k a0_0 l0_1 a1 = some r) :
  Calls Tryz.prog 208 #[.agg #[.int .i64 a0_0, .slice A0_1 l0_1.length c0_1], .int .i64 a1] w fun e w' => e = .returned (.bool r) ∧ Below w.heap.size w w' := by
 have hu87 := Tryz.underlying87
 have HR0_1 := Aside0.mk hr0_1
 have HC0_1 := Aside0.mk hc0_1
 clear hr0_1 hc0_1
 have HB := Aside0.mk (Below.refl w.heap.size w)
 have H : (if 0 ≤ a1 then (if a1 < (l0_1.length : Int) then (if rdOf false l0_1 a1 = true then (impl_votes_isLeast.l0 k a1 a0_0 0 a0_0 l0_1) else (some false)) else (none)) else (none)) = some r := h
 clear h
 by_cases c3 : 0 ≤ a1
 ·rw [if_pos c3] at H
  have c3b0 : decide (0 ≤ a1) = true := decide_eq_true c3
  clear c3
  by_cases c4 : a1 < (l0_1.length : Int)
  ·rw [if_pos c4] at H
   have c4b0 : decide (a1 < (l0_1.length : Int)) = true := decide_eq_true c4
   clear c4
   obtain ⟨bq5, hbq5⟩ : ∃ b_ : Bool, b_ = (rdOf false l0_1 a1) := ⟨_, rfl⟩
   replace H : (if bq5 = true then (impl_votes_isLeast.l0 k a1 a0_0 0 a0_0 l0_1) else (some false)) = some r := by rw [← hbq5] at H; exact H
   have Nbq5 := Aside0.mk hbq5
   clear hbq5
   by_cases c6 : bq5 = true
   ·subst c6
    replace H := iT H
    have H' := Aside0.mk H
    clear H
    go_enter Tryz.func208, Tryz.ntmps208
    go_wp2_with (first | ((with_reducible refine gate_dst (N := 2) rfl ?_); refine xE (N := 2) (cs := #[.int .i64 a0_0, .slice A0_1 l0_1.length c0_1]) (t := 87) ?_; intro gb101 hg w7 BK101 hb; have GW101 := gS hg HB; have GE101 := gS hg HB; replace HB := sB HB hb; clear hb hg; have hcz8_0 := cZ BK101 0; have hcz8_1 := cZ BK101 1; have hfz8_0 := fZ BK101 0; have hfz8_1 := fZ BK101 1; have p102 : 0 ≤ (a1 : Int) := oD; have q102 : a1 < (l0_1.length : Int) := oD; obtain ⟨ad102, e102, hx102_0⟩ := Kd.at_bool HR0_1.out a1 p102 q102; (try rw [← Nbq5.out] at hx102_0); cases e102; replace hx102_0 := (HB.out.cell (World.block_lt_of_cell? w _ hx102_0)).trans hx102_0; replace p102 := eq_true p102; replace q102 := eq_true q102))
    repeat (go_quiet (first | ((with_reducible refine gate_dst (N := 2) rfl ?_); refine xE (N := 2) (cs := #[.int .i64 a0_0, .slice A0_1 l0_1.length c0_1]) (t := 87) ?_; intro gb101 hg w7 BK101 hb; have GW101 := gS hg HB; have GE101 := gS hg HB; replace HB := sB HB hb; clear hb hg; have hcz8_0 := cZ BK101 0; have hcz8_1 := cZ BK101 1; have hfz8_0 := fZ BK101 0; have hfz8_1 := fZ BK101 1; have p102 : 0 ≤ (a1 : Int) := oD; have q102 : a1 < (l0_1.length : Int) := oD; obtain ⟨ad102, e102, hx102_0⟩ := Kd.at_bool HR0_1.out a1 p102 q102; (try rw [← Nbq5.out] at hx102_0); cases e102; replace hx102_0 := (HB.out.cell (World.block_lt_of_cell? w _ hx102_0)).trans hx102_0; replace p102 := eq_true p102; replace q102 := eq_true q102)); try go_wp2_with (first | ((with_reducible refine gate_dst (N := 2) rfl ?_); refine xE (N := 2) (cs := #[.int .i64 a0_0, .slice A0_1 l0_1.length c0_1]) (t := 87) ?_; intro gb101 hg w7 BK101 hb; have GW101 := gS hg HB; have GE101 := gS hg HB; replace HB := sB HB hb; clear hb hg; have hcz8_0 := cZ BK101 0; have hcz8_1 := cZ BK101 1; have hfz8_0 := fZ BK101 0; have hfz8_1 := fZ BK101 1; have p102 : 0 ≤ (a1 : Int) := oD; have q102 : a1 < (l0_1.length : Int) := oD; obtain ⟨ad102, e102, hx102_0⟩ := Kd.at_bool HR0_1.out a1 p102 q102; (try rw [← Nbq5.out] at hx102_0); cases e102; replace hx102_0 := (HB.out.cell (World.block_lt_of_cell? w _ hx102_0)).trans hx102_0; replace p102 := eq_true p102; replace q102 := eq_true q102)))
    go_loopg [14] k (fun kq v14 w' => ∃ (x14_1 : Int), v14 = .int .i64 x14_1 ∧ Aside0 (impl_votes_isLeast.l0 kq a1 a0_0 x14_1 a0_0 l0_1 = some r) ∧ Aside0 (kq ≤ k) ∧ Aside0 (w'.heap[gb101]? = some (.cells #[.int .i64 a0_0, (.slice (some ad102) l0_1.length c0_1)] 87 (0, 0))) ∧ Aside0 (Below w.heap.size w w'))
    case atStart => exact ⟨(0), gR, H', ⟨Nat.le_refl _⟩, ⟨by exact BK101.out⟩, ⟨wB⟩⟩
    case round =>
     clear H'
     (try clear p1); (try clear q1); (try clear hx1); (try clear c2); (try clear p2); (try clear c3); (try clear c3b0); (try clear c4); (try clear c4b0); (try clear q5); (try clear c6); (try clear hcz8_0); (try clear hcz8_1); (try clear hfz8_0); (try clear hfz8_1); (try clear hx102_0); (try clear p102); (try clear q102)
     obtain ⟨x14_1, rfl, HA, HK1, BK101, HB⟩ := hrel
     cases gk with
     | zero => exact absurd HA.out (by simp [impl_votes_isLeast.l0])
     | succ k1 =>
      have H := HA.out
      clear HA
      simp only [impl_votes_isLeast.l0] at H
      by_cases c9 : x14_1 < a0_0
      ·rw [if_pos c9] at H
       have c9b0 : decide (x14_1 < a0_0) = true := decide_eq_true c9
       clear c9
       replace H := oA H
       obtain ⟨t103, A10, H⟩ := H
       (try dsimp only at H)
       by_cases c11 : t103 = true
       ·subst c11
        replace H := iT H
        by_cases c12 : 0 ≤ x14_1
        ·rw [if_pos c12] at H
         have c12b0 := eq_true c12
         have c12b1 : decide (0 ≤ x14_1) = true := decide_eq_true c12
         clear c12
         obtain ⟨ji13, hji13⟩ : ∃ j_ : Int, (shl .i64 1 x14_1) = j_ := ⟨_, rfl⟩
         replace H : (if 0 ≤ (Go.bits .andNot .i64 a1 (ji13)) then (if (Go.bits .andNot .i64 a1 (ji13)) < (l0_1.length : Int) then (if rdOf false l0_1 (Go.bits .andNot .i64 a1 (ji13)) = true then (some false) else (impl_votes_isLeast.l0 k1 a1 a0_0 (wrap64 (x14_1 + 1)) a0_0 l0_1)) else (none)) else (none)) = some r := by first | (rw [hji13] at H; exact H) | (simp only [hji13] at H ⊢; exact H)
         (try rw [hji13] at A10)
         have hji13_ : (IntKind.i64.wrap (1 * 2 ^ min x14_1.toNat 64)) = ji13 := hji13
         have hji13z : x14_1 ≤ 64 → (IntKind.i64.wrap (1 * 2 ^ x14_1.toNat)) = ji13 := shl_small hji13
         have hji13u : (IntKind.i64.wrap (2 ^ min x14_1.toNat 64)) = ji13 := by have h_ := hji13_; rw [Int.one_mul] at h_; exact h_
         have hji13v : x14_1 ≤ 64 → (IntKind.i64.wrap (2 ^ x14_1.toNat)) = ji13 := fun hle_ => by have h_ := hji13z hle_; rw [Int.one_mul] at h_; exact h_
         have hji13y : (wrap64 (1 * 2 ^ min x14_1.toNat 64)) = ji13 := (i64_w _).symm.trans hji13_
         have hji13x : x14_1 ≤ 64 → (wrap64 (1 * 2 ^ x14_1.toNat)) = ji13 := fun h_ => (i64_w _).symm.trans (hji13z h_)
         by_cases c14 : 0 ≤ (Go.bits .andNot .i64 a1 (ji13))
         ·rw [if_pos c14] at H
          have c14b0 : decide (0 ≤ (Go.bits .andNot .i64 a1 (ji13))) = true := decide_eq_true c14
          clear c14
          by_cases c15 : (Go.bits .andNot .i64 a1 (ji13)) < (l0_1.length : Int)
          ·rw [if_pos c15] at H
           have c15b0 : decide ((Go.bits .andNot .i64 a1 (ji13)) < (l0_1.length : Int)) = true := decide_eq_true c15
           clear c15
           obtain ⟨bq16, hbq16⟩ : ∃ b_ : Bool, b_ = (rdOf false l0_1 (Go.bits .andNot .i64 a1 (ji13))) := ⟨_, rfl⟩
           replace H : (if bq16 = true then (some false) else (impl_votes_isLeast.l0 k1 a1 a0_0 (wrap64 (x14_1 + 1)) a0_0 l0_1)) = some r := by rw [← hbq16] at H; exact H
           have Nbq16 := Aside0.mk hbq16
           clear hbq16
           by_cases c17 : bq16 = true
           ·subst c17
            replace H := iT H
            obtain rfl := Option.some.inj H
            go_wp2_with (first | (go_at_call 164; (with_reducible refine (impl_has.calls a1 x14_1 true _ A10.out).mono ?_); rintro e w' ⟨rfl, ⟨nd, rfl⟩⟩; (try exact dR); have hcz18_0 := cZ BK101 0; have hcz18_1 := cZ BK101 1; have hfz18_0 := fZ BK101 0; have hfz18_1 := fZ BK101 1; have p104 : 0 ≤ ((Go.bits .andNot .i64 a1 (ji13)) : Int) := oD; have q104 : (Go.bits .andNot .i64 a1 (ji13)) < (l0_1.length : Int) := oD; obtain ⟨ad104, e104, hx104_0⟩ := Kd.at_bool HR0_1.out (Go.bits .andNot .i64 a1 (ji13)) p104 q104; (try rw [← Nbq5.out] at hx104_0); (try rw [← Nbq16.out] at hx104_0); obtain rfl : ad102 = ad104 := (by injection e104); replace hx104_0 := (HB.out.cell (World.block_lt_of_cell? w _ hx104_0)).trans hx104_0; replace p104 := eq_true p104; replace q104 := eq_true q104))
            repeat (go_quiet (first | (go_at_call 164; (with_reducible refine (impl_has.calls a1 x14_1 true _ A10.out).mono ?_); rintro e w' ⟨rfl, ⟨nd, rfl⟩⟩; (try exact dR); have hcz18_0 := cZ BK101 0; have hcz18_1 := cZ BK101 1; have hfz18_0 := fZ BK101 0; have hfz18_1 := fZ BK101 1; have p104 : 0 ≤ ((Go.bits .andNot .i64 a1 (ji13)) : Int) := oD; have q104 : (Go.bits .andNot .i64 a1 (ji13)) < (l0_1.length : Int) := oD; obtain ⟨ad104, e104, hx104_0⟩ := Kd.at_bool HR0_1.out (Go.bits .andNot .i64 a1 (ji13)) p104 q104; (try rw [← Nbq5.out] at hx104_0); (try rw [← Nbq16.out] at hx104_0); obtain rfl : ad102 = ad104 := (by injection e104); replace hx104_0 := (HB.out.cell (World.block_lt_of_cell? w _ hx104_0)).trans hx104_0; replace p104 := eq_true p104; replace q104 := eq_true q104)); try go_wp2_with (first | (go_at_call 164; (with_reducible refine (impl_has.calls a1 x14_1 true _ A10.out).mono ?_); rintro e w' ⟨rfl, ⟨nd, rfl⟩⟩; (try exact dR); have hcz18_0 := cZ BK101 0; have hcz18_1 := cZ BK101 1; have hfz18_0 := fZ BK101 0; have hfz18_1 := fZ BK101 1; have p104 : 0 ≤ ((Go.bits .andNot .i64 a1 (ji13)) : Int) := oD; have q104 : (Go.bits .andNot .i64 a1 (ji13)) < (l0_1.length : Int) := oD; obtain ⟨ad104, e104, hx104_0⟩ := Kd.at_bool HR0_1.out (Go.bits .andNot .i64 a1 (ji13)) p104 q104; (try rw [← Nbq5.out] at hx104_0); (try rw [← Nbq16.out] at hx104_0); obtain rfl : ad102 = ad104 := (by injection e104); replace hx104_0 := (HB.out.cell (World.block_lt_of_cell? w _ hx104_0)).trans hx104_0; replace p104 := eq_true p104; replace q104 := eq_true q104)))
            go_ret
            exact ⟨by first | rfl | (simp <;> rfl) | (simp only [← hji13]; first | rfl | (simp <;> rfl)) | (simp [*] <;> rfl), wB⟩
           ·replace c17 := Bool.eq_false_iff.mpr c17
            subst c17
            replace H := iF H
            have H' := Aside0.mk H
            clear H
            go_wp2_with (first | (go_at_call 164; (with_reducible refine (impl_has.calls a1 x14_1 true _ A10.out).mono ?_); rintro e w' ⟨rfl, ⟨nd, rfl⟩⟩; (try exact dR); (try clear hcz18_0 hcz18_1 hfz18_0 hfz18_1 hcz18_0 hcz18_1 hfz18_0 hfz18_1); have hcz19_0 := cZ BK101 0; have hcz19_1 := cZ BK101 1; have hfz19_0 := fZ BK101 0; have hfz19_1 := fZ BK101 1; have p104 : 0 ≤ ((Go.bits .andNot .i64 a1 (ji13)) : Int) := oD; have q104 : (Go.bits .andNot .i64 a1 (ji13)) < (l0_1.length : Int) := oD; obtain ⟨ad104, e104, hx104_0⟩ := Kd.at_bool HR0_1.out (Go.bits .andNot .i64 a1 (ji13)) p104 q104; (try rw [← Nbq5.out] at hx104_0); (try rw [← Nbq16.out] at hx104_0); obtain rfl : ad102 = ad104 := (by injection e104); replace hx104_0 := (HB.out.cell (World.block_lt_of_cell? w _ hx104_0)).trans hx104_0; replace p104 := eq_true p104; replace q104 := eq_true q104))
            repeat (go_quiet (first | (go_at_call 164; (with_reducible refine (impl_has.calls a1 x14_1 true _ A10.out).mono ?_); rintro e w' ⟨rfl, ⟨nd, rfl⟩⟩; (try exact dR); have hcz19_0 := cZ BK101 0; have hcz19_1 := cZ BK101 1; have hfz19_0 := fZ BK101 0; have hfz19_1 := fZ BK101 1; have p104 : 0 ≤ ((Go.bits .andNot .i64 a1 (ji13)) : Int) := oD; have q104 : (Go.bits .andNot .i64 a1 (ji13)) < (l0_1.length : Int) := oD; obtain ⟨ad104, e104, hx104_0⟩ := Kd.at_bool HR0_1.out (Go.bits .andNot .i64 a1 (ji13)) p104 q104; (try rw [← Nbq5.out] at hx104_0); (try rw [← Nbq16.out] at hx104_0); obtain rfl : ad102 = ad104 := (by injection e104); replace hx104_0 := (HB.out.cell (World.block_lt_of_cell? w _ hx104_0)).trans hx104_0; replace p104 := eq_true p104; replace q104 := eq_true q104)); try go_wp2_with (first | (go_at_call 164; (with_reducible refine (impl_has.calls a1 x14_1 true _ A10.out).mono ?_); rintro e w' ⟨rfl, ⟨nd, rfl⟩⟩; (try exact dR); have hcz19_0 := cZ BK101 0; have hcz19_1 := cZ BK101 1; have hfz19_0 := fZ BK101 0; have hfz19_1 := fZ BK101 1; have p104 : 0 ≤ ((Go.bits .andNot .i64 a1 (ji13)) : Int) := oD; have q104 : (Go.bits .andNot .i64 a1 (ji13)) < (l0_1.length : Int) := oD; obtain ⟨ad104, e104, hx104_0⟩ := Kd.at_bool HR0_1.out (Go.bits .andNot .i64 a1 (ji13)) p104 q104; (try rw [← Nbq5.out] at hx104_0); (try rw [← Nbq16.out] at hx104_0); obtain rfl : ad102 = ad104 := (by injection e104); replace hx104_0 := (HB.out.cell (World.block_lt_of_cell? w _ hx104_0)).trans hx104_0; replace p104 := eq_true p104; replace q104 := eq_true q104)))
            go_roundg k1
            case measure => have := HK1.out; omega
            case rel => exact ⟨(wrap64 (x14_1 + 1)), gR, H', ⟨by have := HK1.out; omega⟩, ⟨bQ BK101⟩, ⟨wB⟩⟩
          ·rw [if_neg c15] at H
           exact absurd H (by simp)
         ·rw [if_neg c14] at H
          exact absurd H (by simp)
        ·rw [if_neg c12] at H
         exact absurd H (by simp)
       ·replace c11 := Bool.eq_false_iff.mpr c11
        subst c11
        replace H := iF H
        have H' := Aside0.mk H
        clear H
        go_wp2_with (first | (go_at_call 164; (with_reducible refine (impl_has.calls a1 x14_1 false _ A10.out).mono ?_); rintro e w' ⟨rfl, ⟨nd, rfl⟩⟩; (try exact dR)))
        repeat (go_quiet (first | (go_at_call 164; (with_reducible refine (impl_has.calls a1 x14_1 false _ A10.out).mono ?_); rintro e w' ⟨rfl, ⟨nd, rfl⟩⟩; (try exact dR))); try go_wp2_with (first | (go_at_call 164; (with_reducible refine (impl_has.calls a1 x14_1 false _ A10.out).mono ?_); rintro e w' ⟨rfl, ⟨nd, rfl⟩⟩; (try exact dR))))
        go_roundg k1
        case measure => have := HK1.out; omega
        case rel => exact ⟨(wrap64 (x14_1 + 1)), gR, H', ⟨by have := HK1.out; omega⟩, ⟨bQ BK101⟩, ⟨wB⟩⟩
      ·rw [if_neg c9] at H
       have c9b0 : decide (x14_1 < a0_0) = false := decide_eq_false c9
       clear c9
       obtain rfl := Option.some.inj H
       go_wp2
       repeat (go_quiet (fail); try go_wp2)
       go_ret
       exact ⟨fR, wB⟩
   ·replace c6 := Bool.eq_false_iff.mpr c6
    subst c6
    replace H := iF H
    obtain rfl := Option.some.inj H
    go_enter Tryz.func208, Tryz.ntmps208
    go_wp2_with (first | ((with_reducible refine gate_dst (N := 2) rfl ?_); refine xE (N := 2) (cs := #[.int .i64 a0_0, .slice A0_1 l0_1.length c0_1]) (t := 87) ?_; intro gb101 hg w20 BK101 hb; have GW101 := Aside0.mk ((by rw [hg]; exact (below_size (by repeat (first | exact HB.out | apply ba | apply bd | apply be))) : w.heap.size ≤ gb101)); have GE101 := Aside0.mk ((by rw [hg]; exact (below_size (by repeat (first | exact HB.out | apply ba | apply bd | apply be))) : w.heap.size ≤ gb101)); replace HB := sQ hb; clear hb hg; (try clear hcz19_0 hcz19_1 hfz19_0 hfz19_1 hcz19_0 hcz19_1 hfz19_0 hfz19_1); have hcz21_0 := cZ BK101 0; have hcz21_1 := cZ BK101 1; have hfz21_0 := fZ BK101 0; have hfz21_1 := fZ BK101 1; have p102 : 0 ≤ (a1 : Int) := oD; have q102 : a1 < (l0_1.length : Int) := oD; obtain ⟨ad102, e102, hx102_0⟩ := Kd.at_bool HR0_1.out a1 p102 q102; (try rw [← Nbq5.out] at hx102_0); cases e102; replace hx102_0 := (HB.out.cell (World.block_lt_of_cell? w _ hx102_0)).trans hx102_0; replace p102 := eq_true p102; replace q102 := eq_true q102))
    repeat (go_quiet (first | ((with_reducible refine gate_dst (N := 2) rfl ?_); refine xE (N := 2) (cs := #[.int .i64 a0_0, .slice A0_1 l0_1.length c0_1]) (t := 87) ?_; intro gb101 hg w20 BK101 hb; have GW101 := Aside0.mk ((by rw [hg]; exact (below_size (by repeat (first | exact HB.out | apply ba | apply bd | apply be))) : w.heap.size ≤ gb101)); have GE101 := Aside0.mk ((by rw [hg]; exact (below_size (by repeat (first | exact HB.out | apply ba | apply bd | apply be))) : w.heap.size ≤ gb101)); replace HB := sQ hb; clear hb hg; have hcz21_0 := cZ BK101 0; have hcz21_1 := cZ BK101 1; have hfz21_0 := fZ BK101 0; have hfz21_1 := fZ BK101 1; have p102 : 0 ≤ (a1 : Int) := oD; have q102 : a1 < (l0_1.length : Int) := oD; obtain ⟨ad102, e102, hx102_0⟩ := Kd.at_bool HR0_1.out a1 p102 q102; (try rw [← Nbq5.out] at hx102_0); cases e102; replace hx102_0 := (HB.out.cell (World.block_lt_of_cell? w _ hx102_0)).trans hx102_0; replace p102 := eq_true p102; replace q102 := eq_true q102)); try go_wp2_with (first | ((with_reducible refine gate_dst (N := 2) rfl ?_); refine xE (N := 2) (cs := #[.int .i64 a0_0, .slice A0_1 l0_1.length c0_1]) (t := 87) ?_; intro gb101 hg w20 BK101 hb; have GW101 := Aside0.mk ((by rw [hg]; exact (below_size (by repeat (first | exact HB.out | apply ba | apply bd | apply be))) : w.heap.size ≤ gb101)); have GE101 := Aside0.mk ((by rw [hg]; exact (below_size (by repeat (first | exact HB.out | apply ba | apply bd | apply be))) : w.heap.size ≤ gb101)); replace HB := sQ hb; clear hb hg; have hcz21_0 := cZ BK101 0; have hcz21_1 := cZ BK101 1; have hfz21_0 := fZ BK101 0; have hfz21_1 := fZ BK101 1; have p102 : 0 ≤ (a1 : Int) := oD; have q102 : a1 < (l0_1.length : Int) := oD; obtain ⟨ad102, e102, hx102_0⟩ := Kd.at_bool HR0_1.out a1 p102 q102; (try rw [← Nbq5.out] at hx102_0); cases e102; replace hx102_0 := (HB.out.cell (World.block_lt_of_cell? w _ hx102_0)).trans hx102_0; replace p102 := eq_true p102; replace q102 := eq_true q102)))
    go_ret
    exact ⟨fR, wB⟩
  ·rw [if_neg c4] at H
   exact absurd H (by simp)
 ·rw [if_neg c3] at H
  exact absurd H (by simp)
def cmp_isNaN_int.f (a0 : Int) : Option (Bool) := some (a0 != a0)
theorem cmp_isNaN_int.calls (a0 : Int) (r : Bool) (w : World) (h : cmp_isNaN_int.f a0 = some r) :
  Calls Tryz.prog 231 #[.int .i64 a0] w fun e w' => e = .returned (.bool r) ∧ Drawn0 w w' := by
 have H : (some (a0 != a0)) = some r := h
 clear h
 obtain rfl := Option.some.inj H
 go_enter Tryz.func231, Tryz.ntmps231
 go_wp2
 go_ret
 exact ⟨by first | rfl | (simp; done) | (simp [*]; done), dS⟩
def cmp_Compare_int.f (a0 : Int) (a1 : Int) : Option (Int) := (cmp_isNaN_int.f a0).bind fun t101 => ((cmp_isNaN_int.f a1).bind fun t102 => (if t101 = true then (if t102 = true then (some 0) else (some (-1))) else (if t102 = true then (some 1) else (if a0 < a1 then (some (-1)) else (if a0 > a1 then (some 1) else (some 0))))))
theorem cmp_Compare_int.calls (a0 : Int) (a1 : Int) (r : Int) (w : World) (h : cmp_Compare_int.f a0 a1 = some r) :
  Calls Tryz.prog 219 #[.int .i64 a0, .int .i64 a1] w fun e w' => e = .returned (.int .i64 r) ∧ Drawn0 w w' := by
 have H : ((cmp_isNaN_int.f a0).bind fun t101 => ((cmp_isNaN_int.f a1).bind fun t102 => (if t101 = true then (if t102 = true then (some 0) else (some (-1))) else (if t102 = true then (some 1) else (if a0 < a1 then (some (-1)) else (if a0 > a1 then (some 1) else (some 0))))))) = some r := h
 clear h
 replace H := oA H
 obtain ⟨t101, A3, H⟩ := H
 (try dsimp only at H)
 replace H := oA H
 obtain ⟨t102, A4, H⟩ := H
 (try dsimp only at H)
 by_cases c5 : t101 = true
 ·subst c5
  replace H := iT H
  by_cases c6 : t102 = true
  ·subst c6
   replace H := iT H
   obtain rfl := Option.some.inj H
   go_enter Tryz.func219, Tryz.ntmps219
   go_wp2_with (first | ((with_reducible refine gate_callee (f := 231) rfl ?_); refine gL 8 Tryz.func231 #[.int .i64 a0] ?_; (with_reducible refine (cmp_isNaN_int.calls a0 true _ A3.out).mono ?_); rintro e w' ⟨rfl, ⟨nd, rfl⟩⟩; refine ⟨_, rfl, ?_⟩) | ((with_reducible refine gate_callee (f := 231) rfl ?_); refine gL 10 Tryz.func231 #[.int .i64 a1] ?_; (with_reducible refine (cmp_isNaN_int.calls a1 true _ A4.out).mono ?_); rintro e w' ⟨rfl, ⟨nd, rfl⟩⟩; refine ⟨_, rfl, ?_⟩))
   go_ret
   exact ⟨by first | rfl | (simp; done) | (simp [*]; done), dS⟩
  ·replace c6 := Bool.eq_false_iff.mpr c6
   subst c6
   replace H := iF H
   obtain rfl := Option.some.inj H
   go_enter Tryz.func219, Tryz.ntmps219
   go_wp2_with (first | ((with_reducible refine gate_callee (f := 231) rfl ?_); refine gL 8 Tryz.func231 #[.int .i64 a0] ?_; (with_reducible refine (cmp_isNaN_int.calls a0 true _ A3.out).mono ?_); rintro e w' ⟨rfl, ⟨nd, rfl⟩⟩; refine ⟨_, rfl, ?_⟩) | ((with_reducible refine gate_callee (f := 231) rfl ?_); refine gL 10 Tryz.func231 #[.int .i64 a1] ?_; (with_reducible refine (cmp_isNaN_int.calls a1 false _ A4.out).mono ?_); rintro e w' ⟨rfl, ⟨nd, rfl⟩⟩; refine ⟨_, rfl, ?_⟩))
   go_ret
   exact ⟨by first | rfl | (simp; done) | (simp [*]; done), dS⟩
 ·replace c5 := Bool.eq_false_iff.mpr c5
  subst c5
  replace H := iF H
  by_cases c7 : t102 = true
  ·subst c7
   replace H := iT H
   obtain rfl := Option.some.inj H
   go_enter Tryz.func219, Tryz.ntmps219
   go_wp2_with (first | ((with_reducible refine gate_callee (f := 231) rfl ?_); refine gL 8 Tryz.func231 #[.int .i64 a0] ?_; (with_reducible refine (cmp_isNaN_int.calls a0 false _ A3.out).mono ?_); rintro e w' ⟨rfl, ⟨nd, rfl⟩⟩; refine ⟨_, rfl, ?_⟩) | ((with_reducible refine gate_callee (f := 231) rfl ?_); refine gL 10 Tryz.func231 #[.int .i64 a1] ?_; (with_reducible refine (cmp_isNaN_int.calls a1 true _ A4.out).mono ?_); rintro e w' ⟨rfl, ⟨nd, rfl⟩⟩; refine ⟨_, rfl, ?_⟩))
   go_ret
   exact ⟨by first | rfl | (simp; done) | (simp [*]; done), dS⟩
  ·replace c7 := Bool.eq_false_iff.mpr c7
   subst c7
   replace H := iF H
   by_cases c8 : a0 < a1
   ·rw [if_pos c8] at H
    have c8b0 : decide (a0 < a1) = true := decide_eq_true c8
    clear c8
    obtain rfl := Option.some.inj H
    go_enter Tryz.func219, Tryz.ntmps219
    go_wp2_with (first | ((with_reducible refine gate_callee (f := 231) rfl ?_); refine gL 8 Tryz.func231 #[.int .i64 a0] ?_; (with_reducible refine (cmp_isNaN_int.calls a0 false _ A3.out).mono ?_); rintro e w' ⟨rfl, ⟨nd, rfl⟩⟩; refine ⟨_, rfl, ?_⟩) | ((with_reducible refine gate_callee (f := 231) rfl ?_); refine gL 10 Tryz.func231 #[.int .i64 a1] ?_; (with_reducible refine (cmp_isNaN_int.calls a1 false _ A4.out).mono ?_); rintro e w' ⟨rfl, ⟨nd, rfl⟩⟩; refine ⟨_, rfl, ?_⟩))
    go_ret
    exact ⟨by first | rfl | (simp; done) | (simp [*]; done), dS⟩
   ·rw [if_neg c8] at H
    have c8b0 : decide (a0 < a1) = false := decide_eq_false c8
    clear c8
    by_cases c9 : a0 > a1
    ·rw [if_pos c9] at H
     have c9b0 : decide (a1 < a0) = true := decide_eq_true c9
     clear c9
     obtain rfl := Option.some.inj H
     go_enter Tryz.func219, Tryz.ntmps219
     go_wp2_with (first | ((with_reducible refine gate_callee (f := 231) rfl ?_); refine gL 8 Tryz.func231 #[.int .i64 a0] ?_; (with_reducible refine (cmp_isNaN_int.calls a0 false _ A3.out).mono ?_); rintro e w' ⟨rfl, ⟨nd, rfl⟩⟩; refine ⟨_, rfl, ?_⟩) | ((with_reducible refine gate_callee (f := 231) rfl ?_); refine gL 10 Tryz.func231 #[.int .i64 a1] ?_; (with_reducible refine (cmp_isNaN_int.calls a1 false _ A4.out).mono ?_); rintro e w' ⟨rfl, ⟨nd, rfl⟩⟩; refine ⟨_, rfl, ?_⟩))
     go_ret
     exact ⟨by first | rfl | (simp; done) | (simp [*]; done), dS⟩
    ·rw [if_neg c9] at H
     have c9b0 : decide (a1 < a0) = false := decide_eq_false c9
     clear c9
     obtain rfl := Option.some.inj H
     go_enter Tryz.func219, Tryz.ntmps219
     go_wp2_with (first | ((with_reducible refine gate_callee (f := 231) rfl ?_); refine gL 8 Tryz.func231 #[.int .i64 a0] ?_; (with_reducible refine (cmp_isNaN_int.calls a0 false _ A3.out).mono ?_); rintro e w' ⟨rfl, ⟨nd, rfl⟩⟩; refine ⟨_, rfl, ?_⟩) | ((with_reducible refine gate_callee (f := 231) rfl ?_); refine gL 10 Tryz.func231 #[.int .i64 a1] ?_; (with_reducible refine (cmp_isNaN_int.calls a1 false _ A4.out).mono ?_); rintro e w' ⟨rfl, ⟨nd, rfl⟩⟩; refine ⟨_, rfl, ?_⟩))
     go_ret
     exact ⟨by first | rfl | (simp; done) | (simp [*]; done), dS⟩
def slices_Compare_int_int.l0 : Nat → List Int → List Int → List Int → Int → Int → Option (Int)
 | 0, _, _, _, _, _ => none
 | k + 1, x0, x1, x9, x10, x11 => if x11 < x10 then (if 0 ≤ x11 then (if x11 < (x9.length : Int) then (if x11 ≥ (x1.length : Int) then (some 1) else (if x11 < (x1.length : Int) then ((cmp_Compare_int.f (rd x9 x11) (rd x1 x11)).bind fun t103 => (if t103 = 0 then (slices_Compare_int_int.l0 k x0 x1 x9 x10 (wrap64 (x11 + 1))) else (some t103))) else (none))) else (none)) else (none)) else (if (x0.length : Int) < (x1.length : Int) then (some (-1)) else (some 0))
def slices_Compare_int_int.f (k : Nat) (l0 : List Int) (l1 : List Int) : Option (Int) := slices_Compare_int_int.l0 k l0 l1 l0 (l0.length : Int) 0
theorem slices_Compare_int_int.calls (k : Nat) (A0 : Option Addr) (c0 : Nat) (l0 : List Int) (A1 : Option Addr) (c1 : Nat) (l1 : List Int) (r : Int) (w : World) (hr0 : Kd.C (Kd.int .i64) w A0 l0.length l0) (hc0 : l0.length ≤ c0) (hr1 : Kd.C (Kd.int .i64) w A1 l1.length l1) (hc1 : l1.length ≤ c1) (h : slices_Compare_int_int.f k l0 l1 = some r) :
  Calls Tryz.prog 211 #[.slice A0 l0.length c0, .slice A1 l1.length c1] w fun e w' => e = .returned (.int .i64 r) ∧ Drawn0 w w' := by
 have HR0 := Aside0.mk hr0
 have HC0 := Aside0.mk hc0
 clear hr0 hc0
 have HR1 := Aside0.mk hr1
 have HC1 := Aside0.mk hc1
 clear hr1 hc1
 have H : (slices_Compare_int_int.l0 k l0 l1 l0 (l0.length : Int) 0) = some r := h
 clear h
 have H' := Aside0.mk H
 clear H
 go_enter Tryz.func211, Tryz.ntmps211
 go_wp2
 go_loopg [11] k (fun kq v11 w' => ∃ (x11_1 : Int), v11 = .int .i64 x11_1 ∧ Aside0 (slices_Compare_int_int.l0 kq l0 l1 l0 (l0.length : Int) x11_1 = some r) ∧ Aside0 (kq ≤ k) ∧ Drawn0 w w')
 case atStart => exact ⟨(0), gR, H', ⟨Nat.le_refl _⟩, dS⟩
 case round =>
  clear H'
  (try clear c1); (try clear c2); (try clear p2)
  obtain ⟨x11_1, rfl, HA, HK1, ⟨m1, rfl⟩⟩ := hrel
  cases gk with
  | zero => exact absurd HA.out (by simp [slices_Compare_int_int.l0])
  | succ k1 =>
   have H := HA.out
   clear HA
   simp only [slices_Compare_int_int.l0] at H
   by_cases c3 : x11_1 < (l0.length : Int)
   ·rw [if_pos c3] at H
    have c3b0 : decide (x11_1 < (l0.length : Int)) = true := decide_eq_true c3
    clear c3
    by_cases c4 : 0 ≤ x11_1
    ·rw [if_pos c4] at H
     have c4b0 : decide (0 ≤ x11_1) = true := decide_eq_true c4
     clear c4
     by_cases c5 : x11_1 < (l0.length : Int)
     ·rw [if_pos c5] at H
      have c5b0 : decide (x11_1 < (l0.length : Int)) = true := decide_eq_true c5
      clear c5
      by_cases c6 : x11_1 ≥ (l1.length : Int)
      ·rw [if_pos c6] at H
       have c6b0 : decide ((l1.length : Int) ≤ x11_1) = true := decide_eq_true c6
       clear c6
       obtain rfl := Option.some.inj H
       have p101 : 0 ≤ (x11_1 : Int) := oD
       have q101 : x11_1 < (l0.length : Int) := oD
       obtain ⟨ad101, e101, hx101_0⟩ := Kd.at_int HR0.out x11_1 p101 q101
       cases e101
       replace p101 := eq_true p101
       replace q101 := eq_true q101
       go_wp2
       go_ret
       exact ⟨by first | rfl | (simp; done) | (simp [*]; done), dS⟩
      ·rw [if_neg c6] at H
       have c6b0 : decide ((l1.length : Int) ≤ x11_1) = false := decide_eq_false c6
       clear c6
       by_cases c7 : x11_1 < (l1.length : Int)
       ·rw [if_pos c7] at H
        have c7b0 : decide (x11_1 < (l1.length : Int)) = true := decide_eq_true c7
        clear c7
        replace H := oA H
        obtain ⟨t103, A8, H⟩ := H
        (try dsimp only at H)
        by_cases c9 : t103 = 0
        ·rw [if_pos c9] at H
         have c9b0 : (t103 == 0) = true := beq_iff_eq.mpr c9
         have c9b1 : (t103 != 0) = false := bne_eq_false_iff_eq.mpr c9
         clear c9
         have H' := Aside0.mk H
         clear H
         have p101 : 0 ≤ (x11_1 : Int) := oD
         have q101 : x11_1 < (l0.length : Int) := oD
         obtain ⟨ad101, e101, hx101_0⟩ := Kd.at_int HR0.out x11_1 p101 q101
         cases e101
         replace p101 := eq_true p101
         replace q101 := eq_true q101
         have p102 : 0 ≤ (x11_1 : Int) := oD
         have q102 : x11_1 < (l1.length : Int) := oD
         obtain ⟨ad102, e102, hx102_0⟩ := Kd.at_int HR1.out x11_1 p102 q102
         cases e102
         replace p102 := eq_true p102
         replace q102 := eq_true q102
         go_wp2_with (first | ((with_reducible refine gate_callee (f := 219) rfl ?_); refine gL 26 Tryz.func219 #[.int .i64 (rd l0 x11_1), .int .i64 (rd l1 x11_1)] ?_; (with_reducible refine (cmp_Compare_int.calls (rd l0 x11_1) (rd l1 x11_1) t103 _ A8.out).mono ?_); rintro e w' ⟨rfl, ⟨nd, rfl⟩⟩; refine ⟨_, rfl, ?_⟩))
         go_roundg k1
         case measure => have := HK1.out; omega
         case rel => exact ⟨(wrap64 (x11_1 + 1)), gR, H', ⟨by have := HK1.out; omega⟩, dS⟩
        ·rw [if_neg c9] at H
         have c9b0 : (t103 == 0) = false := beq_eq_false_iff_ne.mpr c9
         have c9b1 : (t103 != 0) = true := bne_iff_ne.mpr c9
         obtain rfl := Option.some.inj H
         have p101 : 0 ≤ (x11_1 : Int) := oD
         have q101 : x11_1 < (l0.length : Int) := oD
         obtain ⟨ad101, e101, hx101_0⟩ := Kd.at_int HR0.out x11_1 p101 q101
         cases e101
         replace p101 := eq_true p101
         replace q101 := eq_true q101
         have p102 : 0 ≤ (x11_1 : Int) := oD
         have q102 : x11_1 < (l1.length : Int) := oD
         obtain ⟨ad102, e102, hx102_0⟩ := Kd.at_int HR1.out x11_1 p102 q102
         cases e102
         replace p102 := eq_true p102
         replace q102 := eq_true q102
         go_wp2_with (first | ((with_reducible refine gate_callee (f := 219) rfl ?_); refine gL 26 Tryz.func219 #[.int .i64 (rd l0 x11_1), .int .i64 (rd l1 x11_1)] ?_; (with_reducible refine (cmp_Compare_int.calls (rd l0 x11_1) (rd l1 x11_1) t103 _ A8.out).mono ?_); rintro e w' ⟨rfl, ⟨nd, rfl⟩⟩; refine ⟨_, rfl, ?_⟩))
         go_ret
         exact ⟨by first | rfl | (simp; done) | (simp [*]; done), dS⟩
       ·rw [if_neg c7] at H
        exact absurd H (by simp)
     ·rw [if_neg c5] at H
      exact absurd H (by simp)
    ·rw [if_neg c4] at H
     exact absurd H (by simp)
   ·rw [if_neg c3] at H
    have c3b0 : decide (x11_1 < (l0.length : Int)) = false := decide_eq_false c3
    clear c3
    by_cases c10 : (l0.length : Int) < (l1.length : Int)
    ·rw [if_pos c10] at H
     have c10b0 : decide ((l0.length : Int) < (l1.length : Int)) = true := decide_eq_true c10
     have c10b1 : decide (l0.length < l1.length) = true := decide_eq_true (Int.ofNat_lt.mp c10)
     clear c10
     obtain rfl := Option.some.inj H
     go_wp2
     go_ret
     exact ⟨by first | rfl | (simp; done) | (simp [*]; done), dS⟩
    ·rw [if_neg c10] at H
     have c10b0 : decide ((l0.length : Int) < (l1.length : Int)) = false := decide_eq_false c10
     have c10b1 : decide (l0.length < l1.length) = false := decide_eq_false (fun h => c10 (Int.ofNat_lt.mpr h))
     clear c10
     obtain rfl := Option.some.inj H
     go_wp2
     go_ret
     exact ⟨by first | rfl | (simp; done) | (simp [*]; done), dS⟩
def impl_setOf.l0 : Nat → Int → List Int → Int → Option (List Int)
 | 0, _, _, _ => none
 | k + 1, x0, x3, x4 => if 0 ≤ x4 then (if (shr .i64 x0 x4) > 0 then (if (Go.bits .and .i64 (shr .i64 x0 x4) 1) = 1 then (if x3.length < 17592186044416 then (impl_setOf.l0 k x0 (x3 ++ [x4]) (wrap64 (x4 + 1))) else (none)) else (impl_setOf.l0 k x0 x3 (wrap64 (x4 + 1)))) else (some x3)) else (none)
def impl_setOf.f (k : Nat) (a0 : Int) : Option (List Int) := impl_setOf.l0 k a0 (([] : List Int)) 0
theorem impl_setOf.calls (k : Nat) (a0 : Int) (r : List Int) (w : World) (h : impl_setOf.f k a0 = some r) :
  Calls Tryz.prog 209 #[.int .i64 a0] w fun e w' => ∃ v0_ : Value, e = .returned (v0_) ∧ Kd.R (Kd.int .i64) 3 w' w.heap.size (fun _ => True) v0_ r ∧ Below w.heap.size w w' := by
 have HB := Aside0.mk (Below.refl w.heap.size w)
 have H : (impl_setOf.l0 k a0 (([] : List Int)) 0) = some r := h
 clear h
 obtain ⟨y101, hy101⟩ : ∃ y_ : List Int, y_ = (([] : List Int)) := ⟨_, rfl⟩
 replace H : (impl_setOf.l0 k a0 y101 0) = some r := by first | (rw [hy101]; with_reducible exact H) | (have H2_ := (Option.bind_some _ _).symm.trans H; rw [hy101]; with_reducible exact H2_) | (have H2_ := (Option.bind_some _ _).symm.trans H; with_reducible exact H2_) | with_reducible exact H | (rw [hy101]; exact H) | exact H
 have Ny101 := Aside0.mk hy101
 clear hy101
 have H' := Aside0.mk H
 clear H
 go_enter Tryz.func209, Tryz.ntmps209
 go_wp2_with (first | ((with_reducible refine gate_dst (N := 5) rfl ?_); refine Kd.R_lit (Kd.int .i64) _ 3 ?hg (N := 5) ?hd (xs := ([] : List Int)) (inner := []) (ok := fun _ => True) (okp := fun _ => True) ?hr ?hp (fun _ hk => hk) trivial (Below.refl _ _) (Nat.le_refl _) (by simp) ?_; (case hd => rfl); (case hg => rfl); (case hr => first | (go_simp; done) | (go_simp; rfl)); (case hp => exact (Reps.none _ _)); intro v102 w2 ho3 hb hg_ hnew_; clear hg_ hnew_; (first | rw [← Ny101.out] at ho3 | (simp only [Int.reduceToNat] at ho3; rw [← Ny101.out] at ho3)); have HO103 := Aside0.mk (Kd.R_lower ho3 (below_size HB.out)); replace HB := sB HB hb; clear hb ho3))
 go_loopg [3, 4] k (fun kq v3 v4 w' => ∃ (x3_1 : List Int) (x4_1 : Int), v4 = .int .i64 x4_1 ∧ Aside0 (impl_setOf.l0 kq a0 x3_1 x4_1 = some r) ∧ Aside0 (kq ≤ k) ∧ Aside0 (Kd.R (Kd.int .i64) 3 w' w.heap.size (fun _ => True) v3 x3_1) ∧ Aside0 (Below w.heap.size w w'))
 case atStart => exact ⟨(y101), (0), gR, H', ⟨Nat.le_refl _⟩, ⟨by exact HO103.out⟩, ⟨wB⟩⟩
 case round =>
  clear H'
  (try clear c2); (try clear p2)
  obtain ⟨x3_1, x4_1, rfl, HA, HK1, HO_3, HB⟩ := hrel
  cases gk with
  | zero => exact absurd HA.out (by simp [impl_setOf.l0])
  | succ k1 =>
   have H := HA.out
   clear HA
   simp only [impl_setOf.l0] at H
   by_cases c4 : 0 ≤ x4_1
   ·rw [if_pos c4] at H
    have c4b0 := eq_true c4
    have c4b1 : decide (0 ≤ x4_1) = true := decide_eq_true c4
    clear c4
    obtain ⟨ji5, hji5⟩ : ∃ j_ : Int, (shr .i64 a0 x4_1) = j_ := ⟨_, rfl⟩
    replace H : (if (ji5) > 0 then (if (Go.bits .and .i64 (ji5) 1) = 1 then (if x3_1.length < 17592186044416 then (impl_setOf.l0 k1 a0 (x3_1 ++ [x4_1]) (wrap64 (x4_1 + 1))) else (none)) else (impl_setOf.l0 k1 a0 x3_1 (wrap64 (x4_1 + 1)))) else (some x3_1)) = some r := by first | (rw [hji5] at H; exact H) | (simp only [hji5] at H ⊢; exact H)
    have hji5_ : (a0 / 2 ^ min x4_1.toNat 64) = ji5 := hji5
    have hji5z : x4_1 ≤ 64 → (a0 / 2 ^ x4_1.toNat) = ji5 := shr_small hji5
    by_cases c6 : (ji5) > 0
    ·rw [if_pos c6] at H
     have c6b0 : decide (0 < (ji5)) = true := decide_eq_true c6
     clear c6
     have c7b0 := eq_true (oD : 0 ≤ x4_1)
     by_cases c9 : (Go.bits .and .i64 (ji5) 1) = 1
     ·rw [if_pos c9] at H
      have c9b0 : ((Go.bits .and .i64 (ji5) 1) == 1) = true := beq_iff_eq.mpr c9
      have c9b1 : ((Go.bits .and .i64 (ji5) 1) != 1) = false := bne_eq_false_iff_eq.mpr c9
      clear c9
      by_cases c10 : x3_1.length < 17592186044416
      ·rw [if_pos c10] at H
       have LMc10 := Aside0.mk c10
       clear c10
       obtain ⟨y104, hy104⟩ : ∃ y_ : List Int, y_ = (x3_1 ++ [x4_1]) := ⟨_, rfl⟩
       replace H : (impl_setOf.l0 k1 a0 y104 (wrap64 (x4_1 + 1))) = some r := by first | (rw [hy104]; with_reducible exact H) | (have H2_ := (Option.bind_some _ _).symm.trans H; rw [hy104]; with_reducible exact H2_) | (have H2_ := (Option.bind_some _ _).symm.trans H; with_reducible exact H2_) | with_reducible exact H | (rw [hy104]; exact H) | exact H
       have Ny104 := Aside0.mk hy104
       clear hy104
       have H' := Aside0.mk H
       clear H
       go_wp2_with (first | ((with_reducible refine gate_builtin (b := .append) (xs := #[.tmp 17, .tmp 19]) rfl ?_); at_builtin; refine Kd.R_append (Kd.int .i64) (w0 := w) w.heap.size rfl (.tmp 17) (.tmp 19) 24 3 (.int .i64 0) 8 rfl Tryz.underlying24 info3 rfl (by decide) (by omega) u3 x3_1 x4_1 [.int .i64 x4_1] (fun _ => True) (fun _ => False) rfl rfl ?aP (fun _ hk => hk.elim) ?aF ?aO ?aB ?aS ?aL ?_; (case aP => exact rfl); (case aB => exact HB.out); (case aF => exact (fun _ _ => trivial)); (case aO => exact HO_3.out); (case aS => exact (below_size HB.out)); (case aL => have := LMc10.out; omega); intro v105 w11 ho hb hg hat; rw [← Ny104.out] at ho; have HO106 := Aside0.mk (ho); replace HB := Aside0.mk (hb); clear ho hb hg hat))
       go_roundg k1
       case measure => have := HK1.out; omega
       case rel => exact ⟨(y104), (wrap64 (x4_1 + 1)), gR, H', ⟨by have := HK1.out; omega⟩, ⟨by exact HO106.out⟩, ⟨wB⟩⟩
      ·rw [if_neg c10] at H
       exact absurd H (by simp)
     ·rw [if_neg c9] at H
      have c9b0 : ((Go.bits .and .i64 (ji5) 1) == 1) = false := beq_eq_false_iff_ne.mpr c9
      have c9b1 : ((Go.bits .and .i64 (ji5) 1) != 1) = true := bne_iff_ne.mpr c9
      have H' := Aside0.mk H
      clear H
      go_wp2
      go_roundg k1
      case measure => have := HK1.out; omega
      case rel => exact ⟨(x3_1), (wrap64 (x4_1 + 1)), gR, H', ⟨by have := HK1.out; omega⟩, ⟨by exact HO_3.out⟩, ⟨wB⟩⟩
    ·rw [if_neg c6] at H
     have c6b0 : decide (0 < (ji5)) = false := decide_eq_false c6
     clear c6
     obtain rfl := Option.some.inj H
     go_wp2
     go_ret
     exact ⟨_, by first | rfl | (simp <;> rfl) | (simp only [← hji5]; first | rfl | (simp <;> rfl)) | (simp [*] <;> rfl), by exact HO_3.out, wB⟩
   ·rw [if_neg c4] at H
    exact absurd H (by simp)
open Go.Proofs.YtamfpkefnhcngaaGreatM in
theorem impl_votes_sets.cmp_v (a b : Int) : cmp_Compare_int.f a b = some (if a < b then -1 else if b < a then 1 else 0) := by
 have h : ∀ x : Int, cmp_isNaN_int.f x = some false := fun x => by simp [cmp_isNaN_int.f]
 simp only [cmp_Compare_int.f, h, Option.bind_some, Bool.false_eq_true, if_false]
 by_cases h1 : a < b
 ·rw [if_pos h1, if_pos h1]
 ·by_cases h2 : b < a
  ·rw [if_neg h1, if_pos h2, if_neg h1, if_pos h2]
  ·rw [if_neg h1, if_neg h2, if_neg h1, if_neg h2]
open Go.Proofs.YtamfpkefnhcngaaGreatM in
theorem impl_votes_sets.cmp_ev_l (a b : List Int) (ha : a.length ≤ 9223372036854775807) : ∀ (d i : Nat), i + d = a.length → i ≤ b.length → a.take i = b.take i → Ev (fun k => slices_Compare_int_int.l0 k a b a (a.length : Int) (i : Int)) (Go.Proofs.YtamfpkefnhcngaaGreatM.cmpL (a.drop i) (b.drop i)) := by
 intro d
 induction d with
 | zero =>
  intro i h hb _
  refine ev_step ?_
  simp only [slices_Compare_int_int.l0]
  rw [ev_neg (by omega), List.drop_of_length_le (by omega)]
  by_cases hc : (a.length : Int) < (b.length : Int)
  ·rw [ev_pos hc, ev_now, List.drop_eq_getElem_cons (by omega)]
   rfl
  ·rw [ev_neg hc, ev_now, List.drop_of_length_le (by omega)]
   rfl
 | succ d ih =>
  intro i h hb ht
  refine ev_step ?_
  simp only [slices_Compare_int_int.l0]
  have hi : i < a.length := by omega
  rw [ev_pos (by omega), ev_pos (by omega), ev_pos (by omega)]
  by_cases hc : (i : Int) ≥ (b.length : Int)
  ·rw [ev_pos hc, ev_now, List.drop_eq_getElem_cons hi, List.drop_of_length_le (by omega : b.length ≤ i)]
   rfl
  ·have hib : i < b.length := by omega
   rw [ev_neg hc, ev_pos (by omega), rd_lt a i hi, rd_lt b i hib, ev_bind (ev_of (impl_votes_sets.cmp_v _ _)), w64i (n := a.length) (by omega) (by omega) ha, List.drop_eq_getElem_cons hi, List.drop_eq_getElem_cons hib]
   simp only [Go.Proofs.YtamfpkefnhcngaaGreatM.cmpL]
   by_cases h1 : a[i] < b[i]
   ·rw [if_pos h1, ev_neg (by decide), ev_now, if_pos h1]
   ·by_cases h2 : b[i] < a[i]
    ·rw [if_neg h1, if_pos h2, ev_neg (by decide), ev_now, if_neg h1, if_pos h2]
    ·rw [if_neg h1, if_neg h2, ev_pos rfl, if_neg h1, if_neg h2]
     refine ih (i + 1) (by omega) (by omega) ?_
     rw [List.take_succ_eq_append_getElem hi, List.take_succ_eq_append_getElem hib, ht, show a[i] = b[i] by omega]
open Go.Proofs.YtamfpkefnhcngaaGreatM in
theorem impl_votes_sets.cmp_ev (a b : List Int) (ha : a.length ≤ 9223372036854775807) : Ev (fun k => slices_Compare_int_int.f k a b) (Go.Proofs.YtamfpkefnhcngaaGreatM.cmpL a b) := impl_votes_sets.cmp_ev_l a b ha a.length 0 (by omega) (by omega) (by simp)
def impl_votes_sets.l0 : Nat → (Int → Option Bool) → List Bool → List (List Int) → Int → Option (List (List Int))
 | 0, _, _, _, _ => none
 | k + 1, p, ws, out, x => if x < (ws.length : Int) then ((p x).bind fun b => if b = true then ((impl_setOf.f k x).bind fun s => if out.length < 5000000000000 then impl_votes_sets.l0 k p ws (out ++ [s]) (wrap64 (x + 1)) else none) else impl_votes_sets.l0 k p ws out (wrap64 (x + 1))) else some out
def impl_votes_sets.g (k : Nat) (ws : List Bool) (p : Int → Option Bool) : Option (List (List Int)) := (impl_votes_sets.l0 k p ws [] 0).bind fun out => if out.length < 5000000000000 then some (Go.Proofs.YtamfpkefnhcngaaGreatS.sortL out) else none
theorem impl_votes_sets.hof (k : Nat) (a0 : Int) (A1 : Option Addr) (c1 : Nat) (ws : List Bool) (p : Int → Option Bool) (g : Nat) (fb lb : Array Value) (r : List (List Int)) (w : World) (hr1 : Kd.C Kd.bool w A1 ws.length ws) (eg : ∀ args w, (callFunc g args).run Tryz.prog w = .ok (.enter g args) w)
  (hp : ∀ (W : World) (x : Int) (b : Bool), Below w.heap.size w W → 0 ≤ x → x < (ws.length : Int) → p x = some b → Calls Tryz.prog g (fb ++ #[.int .i64 x] ++ lb) W fun e W' => e = .returned (.bool b) ∧ Below W.heap.size W W') (h : impl_votes_sets.g k ws p = some r) :
  Calls Tryz.prog 144 #[.agg #[.int .i64 a0, .slice A1 ws.length c1], .func (.func g) fb lb] w fun e w' => ∃ v0_ : Value, e = .returned (v0_) ∧ Kd.S (Kd.slice 3 (Kd.int .i64)) 24 w' w.heap.size (fun _ => True) v0_ r ∧ Below w.heap.size w w' := by
 have egC : ∀ args w, (callFunc 211 args).run Tryz.prog w = .ok (.enter 211 args) w := enters_of Tryz.func211 (by kernel_rfl) rfl
 have huV := Tryz.underlying87
 obtain ⟨OUT, hout, hr⟩ := oB h
 by_cases hlo : OUT.length < 5000000000000
 case neg => rw [if_neg hlo] at hr; cases hr
 rw [if_pos hlo] at hr
 obtain rfl := Option.some.inj hr
 have HLO := Aside0.mk hlo
 have HN := Aside0.mk (Kd.C_max hr1)
 have HR := Aside0.mk hr1
 have HP := Aside0.mk hp
 have H' := Aside0.mk hout
 have HB := Aside0.mk (Below.refl w.heap.size w)
 clear hr1 h hout hr hlo hp
 go_enter Tryz.func144, Tryz.ntmps144
 go_wp2_with (first | ((with_reducible refine gate_dst (N := 2) rfl ?_); refine xE (N := 2) (cs := #[.int .i64 a0, .slice A1 ws.length c1]) (t := 87) ?_; intro gb hg w7 BK hb; replace HB := sB HB hb; clear hb hg) | ((with_reducible refine gate_dst (N := 7) rfl ?_); refine Kd.S_lit (Kd.slice 3 (Kd.int .i64)) _ 24 ?hg (N := 7) ?hd (xs := ([] : List (List Int))) (inner := []) (ok := fun _ => True) (okp := fun _ => True) ?hr ?hp (fun _ hk => hk) trivial (Below.refl _ _) (Nat.le_refl _) (by simp) ?_; (case hd => rfl); (case hg => rfl); (case hr => first | (go_simp; done) | (go_simp; rfl)); (case hp => exact (Reps.none _ _)); intro v102 w8 ho hb hg_ hnew_; clear hg_ hnew_; have n0_ := Aside0.mk (Kd.S_lower ho (below_size HB.out)); have n1_ := bB BK hb; have n2_ := sB HB hb; clear HB BK; have HO := n0_; have BK := n1_; have HB := n2_; clear n0_ n1_ n2_; clear hb ho; obtain ⟨Ao9, co9, eo9⟩ := Kd.S_slice HO.out; subst eo9; have hcz1 := cZ BK 1))
 go_loopg [5, 11] k (fun kq v5 v11 w' => ∃ (out : List (List Int)) (x : Int), v11 = .int .i64 x ∧ Aside0 (impl_votes_sets.l0 kq p ws out x = some OUT) ∧ Aside0 (kq ≤ k) ∧ Aside0 (0 ≤ x) ∧ Aside0 (Kd.S (Kd.slice 3 (Kd.int .i64)) 24 w' w.heap.size (fun _ => True) v5 out) ∧ Aside0 (w'.heap[gb]? = some (.cells #[.int .i64 a0, .slice A1 ws.length c1] 87 (0, 0))) ∧ Aside0 (Below w.heap.size w w'))
 case atStart => exact ⟨[], 0, gR, H', ⟨Nat.le_refl _⟩, ⟨Int.le_refl _⟩, ⟨by exact HO.out⟩, ⟨by exact BK.out⟩, ⟨HB.out⟩⟩
 case round =>
  clear H' HB BK HO
  (try clear hcz1)
  obtain ⟨out, x, rfl, HA, HK1, HX0, HO, BK, HB⟩ := hrel
  cases gk with
  | zero => exact absurd HA.out (by simp [impl_votes_sets.l0])
  | succ k1 =>
   have H := HA.out
   clear HA
   simp only [impl_votes_sets.l0] at H
   by_cases c1 : x < (ws.length : Int)
   ·rw [if_pos c1] at H
    obtain ⟨b, A5, H⟩ := oB H
    have hcall := HP.out wr x b HB.out HX0.out c1 A5
    have HXW : Aside0 (0 ≤ wrap64 (x + 1)) := ⟨by have h1_ := HX0.out; have h2_ := HN.out; unfold wrap64; omega⟩
    have c1b0 : decide (x < (ws.length : Int)) = true := decide_eq_true c1
    clear c1
    cases b with
    | true =>
     rw [if_pos rfl] at H
     obtain ⟨s, A6, H⟩ := oB H
     have A6 := Aside0.mk A6
     by_cases c3 : out.length < 5000000000000
     ·rw [if_pos c3] at H
      obtain ⟨y, hy⟩ : ∃ y_ : List (List Int), y_ = (out ++ [s]) := ⟨_, rfl⟩
      rw [← hy] at H
      have NY := Aside0.mk hy
      have LM := Aside0.mk c3
      have H' := Aside0.mk H
      clear hy c3 H
      go_wp2_with fail
      refine hcall.mono ?_
      rintro e w' ⟨rfl, hb⟩
      have n0_ := tB HO hb
      have n1_ := bB BK hb
      have n2_ := Aside0.mk (HB.out.trans (hb.mono HB.out.size))
      clear HO BK HB hb hcall
      have HO := n0_
      have BK := n1_
      have HB := n2_
      clear n0_ n1_ n2_
      go_wp2_with (first | ((with_reducible refine gate_callee (f := 209) rfl ?_); refine gL 19 Tryz.func209 #[.int .i64 x] ?_; (with_reducible refine (impl_setOf.calls k1 x s _ A6.out).mono ?_); rintro e w22 ⟨v111, rfl, ho0, hb⟩; refine ⟨_, rfl, ?_⟩; have n0_ := Aside0.mk (Kd.S_elder' HO.out (Kd.R_base ho0) hb); have n1_ := Aside0.mk (Kd.R_lower ho0 (below_size HB.out)); have n2_ := sB HB hb; have n3_ := bB BK hb; clear HO HB BK; have HO := n0_; have HOs := n1_; have HB := n2_; have BK := n3_; clear n0_ n1_ n2_ n3_ hb ho0; obtain ⟨Ao24, co24, eo24⟩ := Kd.R_slice HOs.out; subst eo24) | ((with_reducible refine gate_builtin (b := .append) (xs := #[.tmp 17, .tmp 20]) rfl ?_); at_builtin; refine Kd.S_append (Kd.slice 3 (Kd.int .i64)) (w0 := w) w.heap.size rfl (.tmp 17) (.tmp 20) 45 24 (.slice none 0 0) 24 rfl Tryz.underlying45 info24 rfl (by decide) (by omega) u5 out s [.slice Ao24 s.length co24] (fun _ => True) (fun k_ => some k_ = (.slice Ao24 s.length co24 : Value).ownBlock) rfl rfl ?aP (fun k_ hk_ => (Kd.R_mono (ok' := fun k_ => True ∧ nb u5 k_) (Kd.R_apart' HOs.out (Kd.S_typed HO.out) (by decide)) (fun k_ hk => ⟨trivial, hk.2⟩)).1 k_ hk_.symm) ?aF ?aO ?aB ?aS ?aL ?_; (case aP => exact Kd.M_row (Kd.R_mono (Kd.R_tight rfl (Kd.R_mono (ok' := fun k_ => True ∧ nb u5 k_) (Kd.R_apart' HOs.out (Kd.S_typed HO.out) (by decide)) (fun k_ hk => ⟨trivial, hk.2⟩))) (fun _ h_ => h_))); (case aB => exact HB.out); (case aF => exact (fun _ _ => trivial)); (case aO => exact (by exact Kd.S_mono HO.out (fun k_ hk => ⟨trivial, fun e_ => hk.2 e_⟩))); (case aS => exact (below_size HB.out)); (case aL => have := LM.out; omega); intro v114 w23 ho hb hg hat; rw [← NY.out] at ho; have n0_ := Aside0.mk (blk_grown BK.out hg (Kd.S_ne HO.out BK.out (by decide))); have n1_ := Aside0.mk hb; have n2_ := Aside0.mk ho; clear BK HB HO HOs; have BK := n0_; have HB := n1_; have HO := n2_; clear n0_ n1_ n2_ ho hb hg hat))
      go_roundg k1
      case measure => have := HK1.out; omega
      case rel => exact ⟨y, (wrap64 (x + 1)), gR, H', ⟨by have := HK1.out; omega⟩, HXW, ⟨by exact HO.out⟩, ⟨by exact BK.out⟩, ⟨HB.out⟩⟩
     ·rw [if_neg c3] at H
      exact absurd H (by simp)
    | false =>
     rw [if_neg (by decide)] at H
     have H' := Aside0.mk H
     clear H
     go_wp2_with fail
     refine hcall.mono ?_
     rintro e w' ⟨rfl, hb⟩
     have n0_ := tB HO hb
     have n1_ := bB BK hb
     have n2_ := Aside0.mk (HB.out.trans (hb.mono HB.out.size))
     clear HO BK HB hb hcall
     have HO := n0_
     have BK := n1_
     have HB := n2_
     clear n0_ n1_ n2_
     go_wp2
     go_roundg k1
     case measure => have := HK1.out; omega
     case rel => exact ⟨out, (wrap64 (x + 1)), gR, H', ⟨by have := HK1.out; omega⟩, HXW, ⟨by exact HO.out⟩, ⟨by exact BK.out⟩, ⟨HB.out⟩⟩
   ·rw [if_neg c1] at H
    obtain rfl := Option.some.inj H
    have c1b0 : decide (x < (ws.length : Int)) = false := decide_eq_false c1
    clear c1 H
    obtain ⟨Ao, co, eo⟩ := Kd.S_slice HO.out
    subst eo
    go_wp2_with fail
    have hs := Go.Proofs.YtamfpkefnhcngaaGreatS.sort_rows Go.Proofs.YtamfpkefnhcngaaGreatL.sortLL (Kd.slice 3 (Kd.int .i64)) rfl Go.Proofs.YtamfpkefnhcngaaGreatM.cmpL Go.Proofs.YtamfpkefnhcngaaGreatS.swoL 211 egC HO.out (by have := HLO.out; omega) (fun W a b u v _ _ ha hb => by
     obtain ⟨A1_, c1_, e1_, hl1, hC1⟩ := ha
     obtain ⟨A2_, c2_, e2_, hl2, hC2⟩ := hb
     obtain rfl := (List.cons.inj e1_).1
     obtain rfl := (List.cons.inj e2_).1
     obtain ⟨K, hK⟩ := impl_votes_sets.cmp_ev a b (Kd.C_max hC1)
     refine (slices_Compare_int_int.calls K A1_ c1_ a A2_ c2_ b _ W hC1 hl1 hC2 hl2 (hK K (Nat.le_refl _))).mono ?_
     rintro e W' ⟨rfl, ⟨q, rfl⟩⟩
     exact ⟨rfl, q, rfl⟩)
    change Calls Tryz.prog 210 _ _ _ at hs
    refine hs.mono ?_
    rintro e w' ⟨rfl, ys, hperm, hsd, hS, hg⟩
    obtain rfl := Go.Proofs.YtamfpkefnhcngaaGreatS.sortL_of hperm hsd
    have HS := Aside0.mk hS
    have HBN := Aside0.mk (HB.out.grown hg HB.out.size (fun k_ hk_ => Kd.S_base HO.out k_ hk_))
    clear hS hg hs HO HB
    go_wp2
    go_ret
    exact ⟨_, rfl, by exact HS.out, HBN.out⟩
def impl_votes_least.f (k : Nat) (a0_0 : Int) (l0_1 : List Bool) : Option (List (List Int)) := impl_votes_sets.g k l0_1 (fun x => impl_votes_isLeast.f k a0_0 l0_1 x)
theorem impl_votes_least.calls (k : Nat) (a0_0 : Int) (A0_1 : Option Addr) (c0_1 : Nat) (l0_1 : List Bool) (r : List (List Int)) (w : World) (hr0_1 : Kd.C Kd.bool w A0_1 l0_1.length l0_1) (hc0_1 : l0_1.length ≤ c0_1) (h : impl_votes_least.f k a0_0 l0_1 = some r) :
  Calls Tryz.prog 143 #[.agg #[.int .i64 a0_0, .slice A0_1 l0_1.length c0_1]] w fun e w' => ∃ v0_ : Value, e = .returned (v0_) ∧ Kd.S (Kd.slice 3 (Kd.int .i64)) 24 w' w.heap.size (fun _ => True) v0_ r ∧ Below w.heap.size w w' := by
 have eg : ∀ args w, (callFunc 208 args).run Tryz.prog w = .ok (.enter 208 args) w := enters_of Tryz.func208 (by kernel_rfl) rfl
 have hmf : ∀ (fn : Fn) (first cap : Array Value) (w : World), (Instr.makeFunc fn first cap).run Tryz.prog w = .ok (.func fn first cap) w := fun _ _ _ _ => rfl
 have huV := Tryz.underlying87
 have HR := Aside0.mk hr0_1
 have HC := Aside0.mk hc0_1
 have H := Aside0.mk h
 clear hr0_1 hc0_1 h
 go_enter Tryz.func143, Tryz.ntmps143
 go_wp2_with fail
 have hB1 : Below w.heap.size w (w.alloc (.cells #[.int .i64 a0_0, .slice A0_1 l0_1.length c0_1] 87)) := (Below.refl _ _).alloc (Nat.le_refl _) _
 refine (impl_votes_sets.hof k a0_0 A0_1 c0_1 l0_1 (fun x => impl_votes_isLeast.f k a0_0 l0_1 x) 208 #[.agg #[.int .i64 a0_0, .slice A0_1 l0_1.length c0_1]] #[] r _ (Kd.C_below HR.out hB1) eg ?_ H.out).mono ?_
 ·intro W x b hb _ _ hx
  exact impl_votes_isLeast.calls k a0_0 A0_1 c0_1 l0_1 x b W (Kd.C_below HR.out (hB1.trans (hb.mono hB1.size))) HC.out hx
 ·rintro e w' ⟨v1, rfl, hS, hb⟩
  have HS := Aside0.mk (Kd.S_lower hS hB1.size)
  have HBN := Aside0.mk (hB1.trans (hb.mono hB1.size))
  clear hS hb hB1
  go_wp2
  go_ret
  exact ⟨_, rfl, HS.out, HBN.out⟩
def impl_LeastWinning.f (k : Nat) (a0_0 : Int) (l0_1 : List Int) : Option ((List (List Int)) × Bool) := (impl_IsCommittee.f k a0_0 l0_1).bind fun t102 => (if t102 = true then ((impl_Committee_votes.f k a0_0 l0_1).bind fun bt103 => ((impl_votes_least.f k bt103.1 bt103.2).bind fun t107 => (some (t107, true)))) else (some (([] : List (List Int)), false)))
theorem impl_LeastWinning.calls (k : Nat) (a0_0 : Int) (A0_1 : Option Addr) (c0_1 : Nat) (l0_1 : List Int) (r1 : List (List Int)) (r2 : Bool) (w : World) (hr0_1 : Kd.C (Kd.int .i64) w A0_1 l0_1.length l0_1) (hc0_1 : l0_1.length ≤ c0_1) (h : impl_LeastWinning.f k a0_0 l0_1 = some (r1, r2)) :
  Calls Tryz.prog 36 #[.agg #[.int .i64 a0_0, .slice A0_1 l0_1.length c0_1]] w fun e w' => ∃ v0_ : Value, e = .returned (.tuple #[v0_, .bool r2]) ∧ Kd.S (Kd.slice 3 (Kd.int .i64)) 24 w' w.heap.size (fun _ => True) v0_ r1 ∧ Below w.heap.size w w' := by
 have hu26 := Tryz.underlying26
 have HR0_1 := Aside0.mk hr0_1
 have HC0_1 := Aside0.mk hc0_1
 clear hr0_1 hc0_1
 have HB := Aside0.mk (Below.refl w.heap.size w)
 have H : ((impl_IsCommittee.f k a0_0 l0_1).bind fun t102 => (if t102 = true then ((impl_Committee_votes.f k a0_0 l0_1).bind fun bt103 => ((impl_votes_least.f k bt103.1 bt103.2).bind fun t107 => (some (t107, true)))) else (some (([] : List (List Int)), false)))) = some (r1, r2) := h
 clear h
 replace H := oA H
 obtain ⟨t102, A2, H⟩ := H
 (try dsimp only at H)
 by_cases c3 : t102 = true
 ·subst c3
  replace H := iT H
  replace H := oB H
  obtain ⟨⟨t103, t104⟩, A40, H⟩ := H
  (try dsimp only at H)
  have A4 := Aside0.mk A40
  clear A40
  replace H := oA H
  obtain ⟨t107, A5, H⟩ := H
  (try dsimp only at H)
  simp only [Option.some.injEq, Prod.mk.injEq] at H
  obtain ⟨rfl, rfl⟩ := H
  go_enter Tryz.func36, Tryz.ntmps36
  go_wp2_with (first | ((with_reducible refine gate_dst (N := 1) rfl ?_); refine xE (N := 1) (cs := #[.int .i64 a0_0, .slice A0_1 l0_1.length c0_1]) (t := 26) ?_; intro gb101 hg w6 BK101 hb; have GW101 := gS hg HB; have GE101 := gS hg HB; replace HB := sB HB hb; clear hb hg; have hcz7_0 := cZ BK101 0; have hcz7_1 := cZ BK101 1; have hfz7_0 := fZ BK101 0; have hfz7_1 := fZ BK101 1) | ((with_reducible refine gate_callee (f := 20) rfl ?_); refine gL 5 Tryz.func20 #[.agg #[.int .i64 a0_0, .slice A0_1 l0_1.length c0_1]] ?_; (with_reducible refine (impl_IsCommittee.calls k a0_0 _ _ l0_1 true _ (Kd.C_below HR0_1.out HB.out) HC0_1.out A2.out).mono ?_); rintro e w8 ⟨rfl, hb⟩; refine ⟨_, rfl, ?_⟩; replace BK101 := bB BK101 hb; replace HB := sB HB hb; (try clear hb); (try clear hcz7_0 hcz7_1 hfz7_0 hfz7_1); have hcz9_0 := cZ BK101 0; have hcz9_1 := cZ BK101 1; have hfz9_0 := fZ BK101 0; have hfz9_1 := fZ BK101 1) | ((with_reducible refine gate_callee (f := 135) rfl ?_); refine gL 8 Tryz.func135 #[.agg #[.int .i64 a0_0, .slice A0_1 l0_1.length c0_1]] ?_; (with_reducible refine (impl_Committee_votes.calls k a0_0 _ _ l0_1 t103 t104 _ (Kd.C_below HR0_1.out HB.out) HC0_1.out A4.out).mono ?_); rintro e w10 ⟨v105, rfl, ho0, hb⟩; refine ⟨_, rfl, ?_⟩; have HO106 := Aside0.mk (Kd.R_lower ho0 (below_size HB.out)); replace BK101 := bB BK101 hb; replace HB := sB HB hb; (try clear hb); (try clear ho0); obtain ⟨Ao11, co11, eo11⟩ := Kd.R_slice HO106.out; subst eo11) | ((with_reducible refine gate_callee (f := 143) rfl ?_); refine gL 9 Tryz.func143 #[.agg #[.int .i64 t103, .slice Ao11 t104.length co11]] ?_; (with_reducible refine (impl_votes_least.calls k t103 _ _ t104 t107 _ ?side1 ?side2 A5.out).mono ?_); (case side1 => have hx_ := (Kd.R_reads' HO106.out).2.2; exact cC); (case side2 => exact (Kd.R_reads' HO106.out).2.1); rintro e w12 ⟨v108, rfl, ho0, hb⟩; refine ⟨_, rfl, ?_⟩; have HO109 := Aside0.mk (Kd.S_lower ho0 (below_size HB.out)); replace HO106 := rB HO106 hb; replace BK101 := bB BK101 hb; replace HB := sB HB hb; (try clear hb); (try clear ho0)))
  go_ret2
  exact ⟨_, fR, by exact HO109.out, wB⟩
 ·replace c3 := Bool.eq_false_iff.mpr c3
  subst c3
  replace H := iF H
  simp only [Option.some.injEq, Prod.mk.injEq] at H
  obtain ⟨rfl, rfl⟩ := H
  go_enter Tryz.func36, Tryz.ntmps36
  go_wp2_with (first | ((with_reducible refine gate_dst (N := 1) rfl ?_); refine xE (N := 1) (cs := #[.int .i64 a0_0, .slice A0_1 l0_1.length c0_1]) (t := 26) ?_; intro gb101 hg w13 BK101 hb; have GW101 := gS hg HB; have GE101 := gS hg HB; replace HB := sB HB hb; clear hb hg; (try clear hcz9_0 hcz9_1 hfz9_0 hfz9_1); have hcz14_0 := cZ BK101 0; have hcz14_1 := cZ BK101 1; have hfz14_0 := fZ BK101 0; have hfz14_1 := fZ BK101 1) | ((with_reducible refine gate_callee (f := 20) rfl ?_); refine gL 5 Tryz.func20 #[.agg #[.int .i64 a0_0, .slice A0_1 l0_1.length c0_1]] ?_; (with_reducible refine (impl_IsCommittee.calls k a0_0 _ _ l0_1 false _ (Kd.C_below HR0_1.out HB.out) HC0_1.out A2.out).mono ?_); rintro e w15 ⟨rfl, hb⟩; refine ⟨_, rfl, ?_⟩; replace BK101 := bB BK101 hb; replace HB := sB HB hb; (try clear hb)))
  go_ret2
  exact ⟨_, fR, by first | exact Kd.S_nil _ _ _ _ _ | exact Kd.N_nil _ _ _ _ _ | exact Kd.V_nil _ _ _ _ _ | exact Kd.Q_nil _ _ _ _ _ | exact Kd.R_nil _ _ _ _ _, wB⟩
def spec_l1In.f (a0 : Int) (a1 : Int) (a2 : Int) : Option (Bool) := if a0 ≥ a1 then (some (decide (a0 ≤ a2))) else (some false)
theorem spec_l1In.calls (a0 : Int) (a1 : Int) (a2 : Int) (r : Bool) (w : World) (h : spec_l1In.f a0 a1 a2 = some r) :
  Calls Tryz.prog 156 #[.int .i64 a0, .int .i64 a1, .int .i64 a2] w fun e w' => e = .returned (.bool r) ∧ Drawn0 w w' := by
 have H : (if a0 ≥ a1 then (some (decide (a0 ≤ a2))) else (some false)) = some r := h
 clear h
 by_cases c4 : a0 ≥ a1
 ·rw [if_pos c4] at H
  have c4b0 : decide (a1 ≤ a0) = true := decide_eq_true c4
  clear c4
  obtain rfl := Option.some.inj H
  go_enter Tryz.func156, Tryz.ntmps156
  go_wp2
  go_ret
  exact ⟨by first | rfl | (simp; done) | (simp [*]; done), dS⟩
 ·rw [if_neg c4] at H
  have c4b0 : decide (a1 ≤ a0) = false := decide_eq_false c4
  clear c4
  obtain rfl := Option.some.inj H
  go_enter Tryz.func156, Tryz.ntmps156
  go_wp2
  go_ret
  exact ⟨by first | rfl | (simp; done) | (simp [*]; done), dS⟩
def spec_l1All.l0 : Nat → Int → Int → List Int → Int → Int → Option (Bool)
 | 0, _, _, _, _, _ => none
 | k + 1, x1, x2, x9, x10, x11 => if x11 < x10 then (if 0 ≤ x11 then (if x11 < (x9.length : Int) then ((spec_l1In.f (rd x9 x11) x1 x2).bind fun t102 => (if t102 = true then (spec_l1All.l0 k x1 x2 x9 x10 (wrap64 (x11 + 1))) else (some false))) else (none)) else (none)) else (some true)
def spec_l1All.f (k : Nat) (l0 : List Int) (a1 : Int) (a2 : Int) : Option (Bool) := spec_l1All.l0 k a1 a2 l0 (l0.length : Int) 0
theorem spec_l1All.calls (k : Nat) (A0 : Option Addr) (c0 : Nat) (l0 : List Int) (a1 : Int) (a2 : Int) (r : Bool) (w : World) (hr0 : Kd.C (Kd.int .i64) w A0 l0.length l0) (hc0 : l0.length ≤ c0) (h : spec_l1All.f k l0 a1 a2 = some r) :
  Calls Tryz.prog 198 #[.slice A0 l0.length c0, .int .i64 a1, .int .i64 a2] w fun e w' => e = .returned (.bool r) ∧ Drawn0 w w' := by
 have HR0 := Aside0.mk hr0
 have HC0 := Aside0.mk hc0
 clear hr0 hc0
 have H : (spec_l1All.l0 k a1 a2 l0 (l0.length : Int) 0) = some r := h
 clear h
 have H' := Aside0.mk H
 clear H
 go_enter Tryz.func198, Tryz.ntmps198
 go_wp2
 go_loopg [11] k (fun kq v11 w' => ∃ (x11_1 : Int), v11 = .int .i64 x11_1 ∧ Aside0 (spec_l1All.l0 kq a1 a2 l0 (l0.length : Int) x11_1 = some r) ∧ Aside0 (kq ≤ k) ∧ Drawn0 w w')
 case atStart => exact ⟨(0), gR, H', ⟨Nat.le_refl _⟩, dS⟩
 case round =>
  clear H'
  (try clear c1); (try clear p2)
  obtain ⟨x11_1, rfl, HA, HK1, ⟨m1, rfl⟩⟩ := hrel
  cases gk with
  | zero => exact absurd HA.out (by simp [spec_l1All.l0])
  | succ k1 =>
   have H := HA.out
   clear HA
   simp only [spec_l1All.l0] at H
   by_cases c4 : x11_1 < (l0.length : Int)
   ·rw [if_pos c4] at H
    have c4b0 : decide (x11_1 < (l0.length : Int)) = true := decide_eq_true c4
    clear c4
    by_cases c5 : 0 ≤ x11_1
    ·rw [if_pos c5] at H
     have c5b0 : decide (0 ≤ x11_1) = true := decide_eq_true c5
     clear c5
     by_cases c6 : x11_1 < (l0.length : Int)
     ·rw [if_pos c6] at H
      have c6b0 : decide (x11_1 < (l0.length : Int)) = true := decide_eq_true c6
      clear c6
      replace H := oA H
      obtain ⟨t102, A7, H⟩ := H
      (try dsimp only at H)
      by_cases c8 : t102 = true
      ·subst c8
       replace H := iT H
       have H' := Aside0.mk H
       clear H
       have p101 : 0 ≤ (x11_1 : Int) := oD
       have q101 : x11_1 < (l0.length : Int) := oD
       obtain ⟨ad101, e101, hx101_0⟩ := Kd.at_int HR0.out x11_1 p101 q101
       cases e101
       replace p101 := eq_true p101
       replace q101 := eq_true q101
       go_wp2_with (first | ((with_reducible refine gate_callee (f := 156) rfl ?_); refine gL 18 Tryz.func156 #[.int .i64 (rd l0 x11_1), .int .i64 a1, .int .i64 a2] ?_; (with_reducible refine (spec_l1In.calls (rd l0 x11_1) a1 a2 true _ A7.out).mono ?_); rintro e w' ⟨rfl, ⟨nd, rfl⟩⟩; refine ⟨_, rfl, ?_⟩))
       go_roundg k1
       case measure => have := HK1.out; omega
       case rel => exact ⟨(wrap64 (x11_1 + 1)), gR, H', ⟨by have := HK1.out; omega⟩, dS⟩
      ·replace c8 := Bool.eq_false_iff.mpr c8
       subst c8
       replace H := iF H
       obtain rfl := Option.some.inj H
       have p101 : 0 ≤ (x11_1 : Int) := oD
       have q101 : x11_1 < (l0.length : Int) := oD
       obtain ⟨ad101, e101, hx101_0⟩ := Kd.at_int HR0.out x11_1 p101 q101
       cases e101
       replace p101 := eq_true p101
       replace q101 := eq_true q101
       go_wp2_with (first | ((with_reducible refine gate_callee (f := 156) rfl ?_); refine gL 18 Tryz.func156 #[.int .i64 (rd l0 x11_1), .int .i64 a1, .int .i64 a2] ?_; (with_reducible refine (spec_l1In.calls (rd l0 x11_1) a1 a2 false _ A7.out).mono ?_); rintro e w' ⟨rfl, ⟨nd, rfl⟩⟩; refine ⟨_, rfl, ?_⟩))
       go_ret
       exact ⟨by first | rfl | (simp; done) | (simp [*]; done), dS⟩
     ·rw [if_neg c6] at H
      exact absurd H (by simp)
    ·rw [if_neg c5] at H
     exact absurd H (by simp)
   ·rw [if_neg c4] at H
    have c4b0 : decide (x11_1 < (l0.length : Int)) = false := decide_eq_false c4
    clear c4
    obtain rfl := Option.some.inj H
    go_wp2
    go_ret
    exact ⟨by first | rfl | (simp; done) | (simp [*]; done), dS⟩
def spec_voGood.j0 : Nat → Bool → Int → List Int → Option (Bool)
 | 0, _, _, _ => none
 | k + 1, x13, x102000, x102001 => if x13 = true then (some false) else ((spec_voSum.f k x102001).bind fun t104 => ((spec_l1In.f x102000 1 t104).bind fun t105 => (some t105)))
def spec_voGood.f (k : Nat) (a0_0 : Int) (l0_1 : List Int) : Option (Bool) := (spec_l1In.f (l0_1.length : Int) 1 9).bind fun t102 => (if t102 = true then ((spec_l1All.f k l0_1 0 1000).bind fun t103 => (spec_voGood.j0 k (!t103) a0_0 l0_1)) else (spec_voGood.j0 k true a0_0 l0_1))
theorem spec_voGood.calls (k : Nat) (a0_0 : Int) (A0_1 : Option Addr) (c0_1 : Nat) (l0_1 : List Int) (r : Bool) (w : World) (hr0_1 : Kd.C (Kd.int .i64) w A0_1 l0_1.length l0_1) (hc0_1 : l0_1.length ≤ c0_1) (h : spec_voGood.f k a0_0 l0_1 = some r) :
  Calls Tryz.prog 129 #[.agg #[.int .i64 a0_0, .slice A0_1 l0_1.length c0_1]] w fun e w' => e = .returned (.bool r) ∧ Below w.heap.size w w' := by
 have hu26 := Tryz.underlying26
 have HR0_1 := Aside0.mk hr0_1
 have HC0_1 := Aside0.mk hc0_1
 clear hr0_1 hc0_1
 have HB := Aside0.mk (Below.refl w.heap.size w)
 have H : ((spec_l1In.f (l0_1.length : Int) 1 9).bind fun t102 => (if t102 = true then ((spec_l1All.f k l0_1 0 1000).bind fun t103 => (spec_voGood.j0 k (!t103) a0_0 l0_1)) else (spec_voGood.j0 k true a0_0 l0_1))) = some r := h
 clear h
 have HC2 := Aside0.mk H
 clear H
 go_enter Tryz.func129, Tryz.ntmps129
 go_upto_region 1 with (first | ((with_reducible refine gate_dst (N := 1) rfl ?_); refine xE (N := 1) (cs := #[.int .i64 a0_0, .slice A0_1 l0_1.length c0_1]) (t := 26) ?_; intro gb101 hg w3 BK101 hb; have GW101 := gS hg HB; have GE101 := gS hg HB; replace HB := sB HB hb; clear hb hg))
 repeat (go_quiet (first | ((with_reducible refine gate_dst (N := 1) rfl ?_); refine xE (N := 1) (cs := #[.int .i64 a0_0, .slice A0_1 l0_1.length c0_1]) (t := 26) ?_; intro gb101 hg w3 BK101 hb; have GW101 := gS hg HB; have GE101 := gS hg HB; replace HB := sB HB hb; clear hb hg)); go_upto_region 1 with (first | ((with_reducible refine gate_dst (N := 1) rfl ?_); refine xE (N := 1) (cs := #[.int .i64 a0_0, .slice A0_1 l0_1.length c0_1]) (t := 26) ?_; intro gb101 hg w3 BK101 hb; have GW101 := gS hg HB; have GE101 := gS hg HB; replace HB := sB HB hb; clear hb hg)))
 (try simp only [Act.put, sA, sZ, sS])
 go_cut [13] (fun v13 wc => ∃ (kq : Nat) (x13_1 : Bool), v13 = .bool x13_1 ∧ Aside0 (spec_voGood.j0 kq x13_1 a0_0 l0_1 = some r) ∧ Aside0 (kq ≤ k) ∧ Aside0 (wc.heap[gb101]? = some (.cells #[.int .i64 a0_0, (.slice A0_1 l0_1.length c0_1)] 26 (0, 0))) ∧ Aside0 (Below w.heap.size w wc))
 case first =>
  have H := HC2.out
  clear HC2
  replace H := oA H
  obtain ⟨t102, A4, H⟩ := H
  (try dsimp only at H)
  by_cases c5 : t102 = true
  ·subst c5
   replace H := iT H
   replace H := oA H
   obtain ⟨t103, A6, H⟩ := H
   (try dsimp only at H)
   have H' := Aside0.mk H
   clear H
   have hcz7_0 := cZ BK101 0
   have hcz7_1 := cZ BK101 1
   have hfz7_0 := fZ BK101 0
   have hfz7_1 := fZ BK101 1
   go_wp2_with (first | (go_at_call 156; (with_reducible refine (spec_l1In.calls (l0_1.length : Int) 1 9 true _ A4.out).mono ?_); rintro e w' ⟨rfl, ⟨nd, rfl⟩⟩; (try exact dR)) | (go_at_call 198; (with_reducible refine (spec_l1All.calls k _ _ l0_1 0 1000 t103 _ ?side1 ?side2 A6.out).mono ?_); (case side1 =>  repeat (first | exact (Kd.C_below HR0_1.out (by repeat (first | exact HB.out | apply ba | apply bd | apply be | refine bs ?_ GE101.out))) | (with_reducible refine Kd.C_alloc ?_ _) | (with_reducible refine Kd.C_drewN ?_ _) | (with_reducible refine Kd.C_drew ?_))); (case side2 => exact HC0_1.out); rintro e w' ⟨rfl, ⟨nd, rfl⟩⟩; (try exact dR)))
   repeat (go_quiet (first | (go_at_call 156; (with_reducible refine (spec_l1In.calls (l0_1.length : Int) 1 9 true _ A4.out).mono ?_); rintro e w' ⟨rfl, ⟨nd, rfl⟩⟩; (try exact dR)) | (go_at_call 198; (with_reducible refine (spec_l1All.calls k _ _ l0_1 0 1000 t103 _ ?side1 ?side2 A6.out).mono ?_); (case side1 =>  repeat (first | exact (Kd.C_below HR0_1.out (by repeat (first | exact HB.out | apply ba | apply bd | apply be | refine bs ?_ GE101.out))) | (with_reducible refine Kd.C_alloc ?_ _) | (with_reducible refine Kd.C_drewN ?_ _) | (with_reducible refine Kd.C_drew ?_))); (case side2 => exact HC0_1.out); rintro e w' ⟨rfl, ⟨nd, rfl⟩⟩; (try exact dR))); try go_wp2_with (first | (go_at_call 156; (with_reducible refine (spec_l1In.calls (l0_1.length : Int) 1 9 true _ A4.out).mono ?_); rintro e w' ⟨rfl, ⟨nd, rfl⟩⟩; (try exact dR)) | (go_at_call 198; (with_reducible refine (spec_l1All.calls k _ _ l0_1 0 1000 t103 _ ?side1 ?side2 A6.out).mono ?_); (case side1 =>  repeat (first | exact (Kd.C_below HR0_1.out (by repeat (first | exact HB.out | apply ba | apply bd | apply be | refine bs ?_ GE101.out))) | (with_reducible refine Kd.C_alloc ?_ _) | (with_reducible refine Kd.C_drewN ?_ _) | (with_reducible refine Kd.C_drew ?_))); (case side2 => exact HC0_1.out); rintro e w' ⟨rfl, ⟨nd, rfl⟩⟩; (try exact dR))))
   go_meet
   case rel => exact ⟨_, (!t103), gR, H', ⟨by first | omega | exact Nat.le_refl _⟩, ⟨bQ BK101⟩, ⟨wB⟩⟩
  ·replace c5 := Bool.eq_false_iff.mpr c5
   subst c5
   replace H := iF H
   have H' := Aside0.mk H
   clear H
   (try clear hcz7_0 hcz7_1 hfz7_0 hfz7_1)
   have hcz8_0 := cZ BK101 0
   have hcz8_1 := cZ BK101 1
   have hfz8_0 := fZ BK101 0
   have hfz8_1 := fZ BK101 1
   go_wp2_with (first | (go_at_call 156; (with_reducible refine (spec_l1In.calls (l0_1.length : Int) 1 9 false _ A4.out).mono ?_); rintro e w' ⟨rfl, ⟨nd, rfl⟩⟩; (try exact dR)))
   repeat (go_quiet (first | (go_at_call 156; (with_reducible refine (spec_l1In.calls (l0_1.length : Int) 1 9 false _ A4.out).mono ?_); rintro e w' ⟨rfl, ⟨nd, rfl⟩⟩; (try exact dR))); try go_wp2_with (first | (go_at_call 156; (with_reducible refine (spec_l1In.calls (l0_1.length : Int) 1 9 false _ A4.out).mono ?_); rintro e w' ⟨rfl, ⟨nd, rfl⟩⟩; (try exact dR))))
   go_meet
   case rel => exact ⟨_, (true), gR, H', ⟨by first | omega | exact Nat.le_refl _⟩, ⟨bQ BK101⟩, ⟨wB⟩⟩
 case rest =>
  clear HC2
  (try clear c1); (try clear p2); (try clear c5); (try clear hcz8_0); (try clear hcz8_1); (try clear hfz8_0); (try clear hfz8_1)
  obtain ⟨kq, x13_1, rfl, HA, HJ1, BK101, HB⟩ := hcut
  cases kq with
  | zero => exact absurd HA.out (by simp [spec_voGood.j0])
  | succ kj1 =>
   have H := HA.out
   clear HA
   simp only [spec_voGood.j0] at H
   by_cases c9 : x13_1 = true
   ·subst c9
    replace H := iT H
    obtain rfl := Option.some.inj H
    go_wp2
    repeat (go_quiet (fail); try go_wp2)
    go_ret
    exact ⟨fR, wB⟩
   ·replace c9 := Bool.eq_false_iff.mpr c9
    subst c9
    replace H := iF H
    replace H := oA H
    obtain ⟨t104, A10, H⟩ := H
    (try dsimp only at H)
    replace H := oA H
    obtain ⟨t105, A11, H⟩ := H
    (try dsimp only at H)
    obtain rfl := Option.some.inj H
    have hcz12_0 := cZ BK101 0
    have hcz12_1 := cZ BK101 1
    have hfz12_0 := fZ BK101 0
    have hfz12_1 := fZ BK101 1
    go_wp2_with (first | (go_at_call 128; (with_reducible refine (spec_voSum.calls kj1 _ _ l0_1 t104 _ (Kd.C_below HR0_1.out HB.out) HC0_1.out A10.out).mono ?_); rintro e w' ⟨rfl, ⟨nd, rfl⟩⟩; (try exact dR)) | (go_at_call 156; (with_reducible refine (spec_l1In.calls a0_0 1 t104 t105 _ A11.out).mono ?_); rintro e w' ⟨rfl, ⟨nd, rfl⟩⟩; (try exact dR)))
    repeat (go_quiet (first | (go_at_call 128; (with_reducible refine (spec_voSum.calls kj1 _ _ l0_1 t104 _ ?side1 ?side2 A10.out).mono ?_); (case side1 => have hx_ := (Kd.C_below HR0_1.out HB.out); exact cC); (case side2 => exact HC0_1.out); rintro e w' ⟨rfl, ⟨nd, rfl⟩⟩; (try exact dR)) | (go_at_call 156; (with_reducible refine (spec_l1In.calls a0_0 1 t104 t105 _ A11.out).mono ?_); rintro e w' ⟨rfl, ⟨nd, rfl⟩⟩; (try exact dR))); try go_wp2_with (first | (go_at_call 128; (with_reducible refine (spec_voSum.calls kj1 _ _ l0_1 t104 _ ?side1 ?side2 A10.out).mono ?_); (case side1 => have hx_ := (Kd.C_below HR0_1.out HB.out); exact cC); (case side2 => exact HC0_1.out); rintro e w' ⟨rfl, ⟨nd, rfl⟩⟩; (try exact dR)) | (go_at_call 156; (with_reducible refine (spec_l1In.calls a0_0 1 t104 t105 _ A11.out).mono ?_); rintro e w' ⟨rfl, ⟨nd, rfl⟩⟩; (try exact dR))))
    go_ret
    exact ⟨fR, wB⟩
def spec_voList.l0 : Nat → Int → List Int → Int → Option (List Int)
 | 0, _, _, _ => none
 | k + 1, x0, x3, x4 => if 0 ≤ x4 then (if (shr .i64 x0 x4) > 0 then (if (Int.tmod (shr .i64 x0 x4) 2) = 1 then (if x3.length < 17592186044416 then (spec_voList.l0 k x0 (x3 ++ [x4]) (wrap64 (x4 + 1))) else (none)) else (spec_voList.l0 k x0 x3 (wrap64 (x4 + 1)))) else (some x3)) else (none)
def spec_voList.f (k : Nat) (a0 : Int) : Option (List Int) := spec_voList.l0 k a0 ([] : List Int) 0
theorem spec_voList.calls (k : Nat) (a0 : Int) (r : List Int) (w : World) (h : spec_voList.f k a0 = some r) :
  Calls Tryz.prog 146 #[.int .i64 a0] w fun e w' => ∃ v0_ : Value, e = .returned (v0_) ∧ Kd.R (Kd.int .i64) 3 w' w.heap.size (fun _ => True) v0_ r ∧ Below w.heap.size w w' := by
 have HB := Aside0.mk (Below.refl w.heap.size w)
 have H : (spec_voList.l0 k a0 ([] : List Int) 0) = some r := h
 clear h
 have H' := Aside0.mk H
 clear H
 go_enter Tryz.func146, Tryz.ntmps146
 go_wp2
 go_loopg [3, 4] k (fun kq v3 v4 w' => ∃ (x3_1 : List Int) (x4_1 : Int), v4 = .int .i64 x4_1 ∧ Aside0 (spec_voList.l0 kq a0 x3_1 x4_1 = some r) ∧ Aside0 (kq ≤ k) ∧ Aside0 (Kd.R (Kd.int .i64) 3 w' w.heap.size (fun _ => True) v3 x3_1) ∧ Aside0 (Below w.heap.size w w'))
 case atStart => exact ⟨(([] : List Int)), (0), gR, H', ⟨Nat.le_refl _⟩, ⟨by first | exact Kd.R_nil _ _ _ _ _ | exact Kd.N_nil _ _ _ _ _ | exact Kd.V_nil _ _ _ _ _ | exact Kd.Q_nil _ _ _ _ _ | exact Kd.S_nil _ _ _ _ _⟩, ⟨wB⟩⟩
 case round =>
  clear H'
  (try clear c1)
  obtain ⟨x3_1, x4_1, rfl, HA, HK1, HO_3, HB⟩ := hrel
  cases gk with
  | zero => exact absurd HA.out (by simp [spec_voList.l0])
  | succ k1 =>
   have H := HA.out
   clear HA
   simp only [spec_voList.l0] at H
   by_cases c2 : 0 ≤ x4_1
   ·rw [if_pos c2] at H
    have c2b0 := eq_true c2
    have c2b1 : decide (0 ≤ x4_1) = true := decide_eq_true c2
    clear c2
    obtain ⟨ji3, hji3⟩ : ∃ j_ : Int, (shr .i64 a0 x4_1) = j_ := ⟨_, rfl⟩
    replace H : (if (ji3) > 0 then (if (Int.tmod (ji3) 2) = 1 then (if x3_1.length < 17592186044416 then (spec_voList.l0 k1 a0 (x3_1 ++ [x4_1]) (wrap64 (x4_1 + 1))) else (none)) else (spec_voList.l0 k1 a0 x3_1 (wrap64 (x4_1 + 1)))) else (some x3_1)) = some r := by first | (rw [hji3] at H; exact H) | (simp only [hji3] at H ⊢; exact H)
    have hji3_ : (a0 / 2 ^ min x4_1.toNat 64) = ji3 := hji3
    have hji3z : x4_1 ≤ 64 → (a0 / 2 ^ x4_1.toNat) = ji3 := shr_small hji3
    by_cases c4 : (ji3) > 0
    ·rw [if_pos c4] at H
     have c4b0 : decide (0 < (ji3)) = true := decide_eq_true c4
     clear c4
     have c5b0 := eq_true (oD : 0 ≤ x4_1)
     by_cases c7 : (Int.tmod (ji3) 2) = 1
     ·rw [if_pos c7] at H
      have c7b0 : ((Int.tmod (ji3) 2) == 1) = true := beq_iff_eq.mpr c7
      have c7b1 : ((Int.tmod (ji3) 2) != 1) = false := bne_eq_false_iff_eq.mpr c7
      clear c7
      by_cases c8 : x3_1.length < 17592186044416
      ·rw [if_pos c8] at H
       have LMc8 := Aside0.mk c8
       clear c8
       obtain ⟨y101, hy101⟩ : ∃ y_ : List Int, y_ = (x3_1 ++ [x4_1]) := ⟨_, rfl⟩
       replace H : (spec_voList.l0 k1 a0 y101 (wrap64 (x4_1 + 1))) = some r := by first | (rw [hy101]; with_reducible exact H) | (have H2_ := (Option.bind_some _ _).symm.trans H; rw [hy101]; with_reducible exact H2_) | (have H2_ := (Option.bind_some _ _).symm.trans H; with_reducible exact H2_) | with_reducible exact H | (rw [hy101]; exact H) | exact H
       have Ny101 := Aside0.mk hy101
       clear hy101
       have H' := Aside0.mk H
       clear H
       go_wp2_with (first | ((with_reducible refine gate_builtin (b := .append) (xs := #[.tmp 16, .tmp 18]) rfl ?_); at_builtin; refine Kd.R_append (Kd.int .i64) (w0 := w) w.heap.size rfl (.tmp 16) (.tmp 18) 24 3 (.int .i64 0) 8 rfl Tryz.underlying24 info3 rfl (by decide) (by omega) u3 x3_1 x4_1 [.int .i64 x4_1] (fun _ => True) (fun _ => False) rfl rfl ?aP (fun _ hk => hk.elim) ?aF ?aO ?aB ?aS ?aL ?_; (case aP => exact rfl); (case aB => exact HB.out); (case aF => exact (fun _ _ => trivial)); (case aO => exact HO_3.out); (case aS => exact (below_size HB.out)); (case aL => have := LMc8.out; omega); intro v102 w9 ho hb hg hat; rw [← Ny101.out] at ho; have HO103 := Aside0.mk (ho); replace HB := Aside0.mk (hb); clear ho hb hg hat))
       go_roundg k1
       case measure => have := HK1.out; omega
       case rel => exact ⟨(y101), (wrap64 (x4_1 + 1)), gR, H', ⟨by have := HK1.out; omega⟩, ⟨by exact HO103.out⟩, ⟨wB⟩⟩
      ·rw [if_neg c8] at H
       exact absurd H (by simp)
     ·rw [if_neg c7] at H
      have c7b0 : ((Int.tmod (ji3) 2) == 1) = false := beq_eq_false_iff_ne.mpr c7
      have c7b1 : ((Int.tmod (ji3) 2) != 1) = true := bne_iff_ne.mpr c7
      have H' := Aside0.mk H
      clear H
      go_wp2
      go_roundg k1
      case measure => have := HK1.out; omega
      case rel => exact ⟨(x3_1), (wrap64 (x4_1 + 1)), gR, H', ⟨by have := HK1.out; omega⟩, ⟨by exact HO_3.out⟩, ⟨wB⟩⟩
    ·rw [if_neg c4] at H
     have c4b0 : decide (0 < (ji3)) = false := decide_eq_false c4
     clear c4
     obtain rfl := Option.some.inj H
     go_wp2
     go_ret
     exact ⟨_, by first | rfl | (simp <;> rfl) | (simp only [← hji3]; first | rfl | (simp <;> rfl)) | (simp [*] <;> rfl), by exact HO_3.out, wB⟩
   ·rw [if_neg c2] at H
    exact absurd H (by simp)
mutual
def spec_voBefore.l0 : Nat → List Int → List Int → Int → Option (Bool)
 | 0, _, _, _ => none
 | k + 1, x0, x1, x5 => if x5 < (x0.length : Int) then (spec_voBefore.j1 k x0 x1 x5 (decide (x5 < (x1.length : Int)))) else (spec_voBefore.j1 k x0 x1 x5 false)
def spec_voBefore.j1 : Nat → List Int → List Int → Int → Bool → Option (Bool)
 | 0, _, _, _, _ => none
 | k + 1, x0, x1, x5, x15 => if x15 = true then (if 0 ≤ x5 then (if x5 < (x0.length : Int) then (if x5 < (x1.length : Int) then (if (rd x0 x5) = (rd x1 x5) then (spec_voBefore.l0 k x0 x1 (wrap64 (x5 + 1))) else (some (decide ((rd x0 x5) < (rd x1 x5))))) else (none)) else (none)) else (none)) else (some (decide ((x0.length : Int) < (x1.length : Int))))
end
def spec_voBefore.f (k : Nat) (l0 : List Int) (l1 : List Int) : Option (Bool) := spec_voBefore.l0 k l0 l1 0
theorem spec_voBefore.calls (k : Nat) (A0 : Option Addr) (c0 : Nat) (l0 : List Int) (A1 : Option Addr) (c1 : Nat) (l1 : List Int) (r : Bool) (w : World) (hr0 : Kd.C (Kd.int .i64) w A0 l0.length l0) (hc0 : l0.length ≤ c0) (hr1 : Kd.C (Kd.int .i64) w A1 l1.length l1) (hc1 : l1.length ≤ c1) (h : spec_voBefore.f k l0 l1 = some r) :
  Calls Tryz.prog 212 #[.slice A0 l0.length c0, .slice A1 l1.length c1] w fun e w' => e = .returned (.bool r) ∧ Drawn0 w w' := by
 have HR0 := Aside0.mk hr0
 have HC0 := Aside0.mk hc0
 clear hr0 hc0
 have HR1 := Aside0.mk hr1
 have HC1 := Aside0.mk hc1
 clear hr1 hc1
 have H : (spec_voBefore.l0 k l0 l1 0) = some r := h
 clear h
 have H' := Aside0.mk H
 clear H
 go_enter Tryz.func212, Tryz.ntmps212
 go_wp2
 repeat (go_quiet (fail); try go_wp2)
 go_loopg [5] k (fun kq v5 w' => ∃ (x5_1 : Int), v5 = .int .i64 x5_1 ∧ Aside0 (spec_voBefore.l0 kq l0 l1 x5_1 = some r) ∧ Aside0 (kq ≤ k) ∧ Drawn0 w w')
 case atStart => exact ⟨(0), gR, H', ⟨Nat.le_refl _⟩, dS⟩
 case round =>
  clear H'
  (try clear c1); (try clear c2); (try clear p2)
  obtain ⟨x5_1, rfl, HA, HK1, ⟨m1, rfl⟩⟩ := hrel
  cases gk with
  | zero => exact absurd HA.out (by simp [spec_voBefore.l0])
  | succ k1 =>
   have H := HA.out
   clear HA
   simp only [spec_voBefore.l0] at H
   have HC3 := Aside0.mk H
   clear H
   go_upto_region 2 with (fail)
   repeat (go_quiet (fail); go_upto_region 2 with (fail))
   go_cut [15] (fun v15 wc => ∃ (kq : Nat) (x15_2 : Bool), v15 = .bool x15_2 ∧ Aside0 (spec_voBefore.j1 kq l0 l1 x5_1 x15_2 = some r) ∧ Aside0 (kq ≤ k1) ∧ Drawn0 w wc)
   case first =>
    have H := HC3.out
    clear HC3
    by_cases c4 : x5_1 < (l0.length : Int)
    ·rw [if_pos c4] at H
     have c4b0 : decide (x5_1 < (l0.length : Int)) = true := decide_eq_true c4
     clear c4
     (first | rw [c4b0] | (simp only [i64_w, i32_w]; rw [c4b0]) | skip)
     have H' := Aside0.mk H
     clear H
     go_wp2
     repeat (go_quiet (fail); try go_wp2)
     go_meet
     case rel => exact ⟨_, (decide (x5_1 < (l1.length : Int))), gR, H', ⟨oN'⟩, dS⟩
    ·rw [if_neg c4] at H
     have c4b0 : decide (x5_1 < (l0.length : Int)) = false := decide_eq_false c4
     clear c4
     (first | rw [c4b0] | (simp only [i64_w, i32_w]; rw [c4b0]) | skip)
     have H' := Aside0.mk H
     clear H
     go_wp2
     repeat (go_quiet (fail); try go_wp2)
     go_meet
     case rel => exact ⟨_, (false), gR, H', ⟨oN'⟩, dS⟩
   case rest =>
    clear HC3
    (try clear c1); (try clear c2); (try clear p2); (try clear c4); (try clear c4b0); (try clear p2)
    obtain ⟨kq, x15_2, rfl, HA, HJ2, ⟨mc2, rfl⟩⟩ := hcut
    cases kq with
    | zero => exact absurd HA.out (by simp [spec_voBefore.j1])
    | succ kj2 =>
     have H := HA.out
     clear HA
     simp only [spec_voBefore.j1] at H
     by_cases c5 : x15_2 = true
     ·subst c5
      replace H := iT H
      by_cases c6 : 0 ≤ x5_1
      ·rw [if_pos c6] at H
       have c6b0 : decide (0 ≤ x5_1) = true := decide_eq_true c6
       clear c6
       by_cases c7 : x5_1 < (l0.length : Int)
       ·rw [if_pos c7] at H
        have c7b0 : decide (x5_1 < (l0.length : Int)) = true := decide_eq_true c7
        clear c7
        by_cases c8 : x5_1 < (l1.length : Int)
        ·rw [if_pos c8] at H
         have c8b0 : decide (x5_1 < (l1.length : Int)) = true := decide_eq_true c8
         clear c8
         by_cases c9 : (rd l0 x5_1) = (rd l1 x5_1)
         ·rw [if_pos c9] at H
          have c9b0 : ((rd l0 x5_1) == (rd l1 x5_1)) = true := beq_iff_eq.mpr c9
          have c9b1 : ((rd l0 x5_1) != (rd l1 x5_1)) = false := bne_eq_false_iff_eq.mpr c9
          clear c9
          have H' := Aside0.mk H
          clear H
          have p101 : 0 ≤ (x5_1 : Int) := oD
          have q101 : x5_1 < (l0.length : Int) := oD
          obtain ⟨ad101, e101, hx101_0⟩ := Kd.at_int HR0.out x5_1 p101 q101
          cases e101
          replace p101 := eq_true p101
          replace q101 := eq_true q101
          have p102 : 0 ≤ (x5_1 : Int) := oD
          have q102 : x5_1 < (l1.length : Int) := oD
          obtain ⟨ad102, e102, hx102_0⟩ := Kd.at_int HR1.out x5_1 p102 q102
          cases e102
          replace p102 := eq_true p102
          replace q102 := eq_true q102
          go_wp2
          repeat (go_quiet (fail); try go_wp2)
          go_roundg kj2
          case measure => have := HK1.out; have := HJ2.out; omega
          case rel => exact ⟨(wrap64 (x5_1 + 1)), gR, H', ⟨by have := HK1.out; have := HJ2.out; omega⟩, dS⟩
         ·rw [if_neg c9] at H
          have c9b0 : ((rd l0 x5_1) == (rd l1 x5_1)) = false := beq_eq_false_iff_ne.mpr c9
          have c9b1 : ((rd l0 x5_1) != (rd l1 x5_1)) = true := bne_iff_ne.mpr c9
          obtain rfl := Option.some.inj H
          have p101 : 0 ≤ (x5_1 : Int) := oD
          have q101 : x5_1 < (l0.length : Int) := oD
          obtain ⟨ad101, e101, hx101_0⟩ := Kd.at_int HR0.out x5_1 p101 q101
          cases e101
          replace p101 := eq_true p101
          replace q101 := eq_true q101
          have p102 : 0 ≤ (x5_1 : Int) := oD
          have q102 : x5_1 < (l1.length : Int) := oD
          obtain ⟨ad102, e102, hx102_0⟩ := Kd.at_int HR1.out x5_1 p102 q102
          cases e102
          replace p102 := eq_true p102
          replace q102 := eq_true q102
          have p103 : 0 ≤ (x5_1 : Int) := oD
          have q103 : x5_1 < (l0.length : Int) := oD
          obtain ⟨ad103, e103, hx103_0⟩ := Kd.at_int HR0.out x5_1 p103 q103
          obtain rfl : ad101 = ad103 := (by injection e103)
          replace p103 := eq_true p103
          replace q103 := eq_true q103
          have p104 : 0 ≤ (x5_1 : Int) := oD
          have q104 : x5_1 < (l1.length : Int) := oD
          obtain ⟨ad104, e104, hx104_0⟩ := Kd.at_int HR1.out x5_1 p104 q104
          obtain rfl : ad102 = ad104 := (by injection e104)
          replace p104 := eq_true p104
          replace q104 := eq_true q104
          go_wp2
          repeat (go_quiet (fail); try go_wp2)
          go_ret
          exact ⟨by first | rfl | (simp; done) | (simp [*]; done), dS⟩
        ·rw [if_neg c8] at H
         exact absurd H (by simp)
       ·rw [if_neg c7] at H
        exact absurd H (by simp)
      ·rw [if_neg c6] at H
       exact absurd H (by simp)
     ·replace c5 := Bool.eq_false_iff.mpr c5
      subst c5
      replace H := iF H
      obtain rfl := Option.some.inj H
      go_wp2
      repeat (go_quiet (fail); try go_wp2)
      go_ret
      exact ⟨by first | rfl | (simp; done) | (simp [*]; done), dS⟩
mutual
def spec_voSorted.l0 : Nat → List (List Int) → List (List Int) → Int → Option (List (List Int))
 | 0, _, _, _ => none
 | k + 1, out, l, x => if x < (l.length : Int) then (if 0 ≤ x then spec_voSorted.l1 k out l x (rdOf [] l x) 0 else none) else some out
def spec_voSorted.l1 : Nat → List (List Int) → List (List Int) → Int → List Int → Int → Option (List (List Int))
 | 0, _, _, _, _, _ => none
 | k + 1, out, l, x, s, y => if y < (out.length : Int) then ((spec_voBefore.f k (rdOf [] out y) s).bind fun t => if t = true then spec_voSorted.l1 k out l x s (wrap64 (y + 1)) else (if out.length < 5000000000000 then spec_voSorted.l0 k (out.take y.toNat ++ s :: out.drop y.toNat) l (wrap64 (x + 1)) else none)) else (if out.length < 5000000000000 then spec_voSorted.l0 k (out.take y.toNat ++ s :: out.drop y.toNat) l (wrap64 (x + 1)) else none)
end
def spec_voSorted.f (k : Nat) (l0 : List (List Int)) : Option (List (List Int)) := spec_voSorted.l0 k [] l0 0
theorem spec_voSorted.next {k : Nat} {l0 : List (List Int)} {ys : List (Fin l0.length)} {x y : Int} {p : Fin l0.length} {z : List Int} {r : List (List Int)} (h0 : 0 ≤ x) (hl : x < (l0.length : Int)) (hn : l0.length ≤ 9223372036854775807) (hp : p.1 = x.toNat) (hz : z = l0[p]) (h : spec_voSorted.l0 k ((ys.map fun i => l0[i]).take y.toNat ++ z :: (ys.map fun i => l0[i]).drop y.toNat) l0 (wrap64 (x + 1)) = some r) : spec_voSorted.l0 k (([] ++ ys.take y.toNat ++ [p] ++ ys.drop y.toNat).map fun i => l0[i]) l0 (wrap64 (x + 1)) = some r := by
 rw [← h]
 congr 1
 simp [hz, List.map_take, List.map_drop]
theorem spec_voSorted.perm {n : Nat} {ys : List (Fin n)} {x y : Int} {p : Fin n} (h0 : 0 ≤ x) (hl : x < (n : Int)) (hn : n ≤ 9223372036854775807) (hp : p.1 = x.toNat) (hy : y.toNat ≤ ys.length) (h : ys.Perm ((List.finRange n).take x.toNat)) : ([] ++ ys.take y.toNat ++ [p] ++ ys.drop y.toNat).Perm ((List.finRange n).take (wrap64 (x + 1)).toNat) := by
 have e1 : (wrap64 (x + 1)).toNat = x.toNat + 1 := by unfold wrap64; omega
 have hx : x.toNat < (List.finRange n).length := by rw [List.length_finRange]; omega
 have e2 : (List.finRange n)[x.toNat] = p := by apply Fin.ext; simp [hp]
 rw [e1, List.take_succ_eq_append_getElem hx, e2, List.nil_append, List.append_assoc, List.singleton_append]
 refine List.perm_middle.trans ?_
 rw [List.take_append_drop]
 exact (List.Perm.cons p h).trans (List.perm_append_singleton p _).symm
theorem spec_voSorted.calls (k : Nat) (base : Nat) (A0 : Option Addr) (c0 : Nat) (l0 : List (List Int)) (r : List (List Int)) (w : World) (hS : Kd.S (Kd.slice 3 (Kd.int .i64)) 24 w base (fun _ => True) (.slice A0 l0.length c0) l0) (hbase : base ≤ w.heap.size) (h : spec_voSorted.f k l0 = some r) :
  Calls Tryz.prog 147 #[.slice A0 l0.length c0] w fun e w' => ∃ v0_ : Value, e = .returned (v0_) ∧ Kd.S (Kd.slice 3 (Kd.int .i64)) 24 w' base (fun _ => True) v0_ r ∧ Below w.heap.size w w' := by
 obtain ⟨enc, h1, hR, hK, hfin⟩ := Go.Proofs.YtamfpkefnhcngaaGreatS.S_open rfl hS
 obtain ⟨A', c', hv, hcc, hC⟩ := Kd.R_reads hR
 rw [List.length_finRange] at hv hcc hC
 injection hv with f1 f2 f3
 subst f1
 subst f3
 have HN := Aside0.mk (Kd.C_max hC)
 have HF := Aside0.mk hfin
 have HK := Aside0.mk hK
 have HC := Aside0.mk hC
 have HBASE := Aside0.mk hbase
 have HB := Aside0.mk (Below.refl w.heap.size w)
 have H' : Aside0 (spec_voSorted.l0 k (([] : List (Fin l0.length)).map fun i => l0[i]) l0 0 = some r) := ⟨h⟩
 clear h hS hR hK hfin hC hbase hcc f2
 go_enter Tryz.func147, Tryz.ntmps147
 go_wp2
 go_loopg [3, 10] k (fun kq v3 v10 w' => ∃ (ys : List (Fin l0.length)) (x : Int), v10 = .int .i64 x ∧ Aside0 (spec_voSorted.l0 kq (ys.map fun i => l0[i]) l0 x = some r) ∧ Aside0 (kq ≤ k) ∧ Aside0 (0 ≤ x) ∧ Aside0 ((Kd.scalar enc h1).R 24 w' w.heap.size (fun _ => True) v3 ys) ∧ Aside0 (ys.Perm ((List.finRange l0.length).take x.toNat)) ∧ Aside0 (Below w.heap.size w w'))
 case atStart => exact ⟨[], 0, gR, H', ⟨Nat.le_refl _⟩, ⟨Int.le_refl _⟩, ⟨Kd.R_nil _ _ _ _ _⟩, ⟨by simp⟩, HB⟩
 case round =>
  clear H' HB
  obtain ⟨ys, x, rfl, HA, HK1, HX0, HO, HP, HB⟩ := hrel
  obtain ⟨Ao, co, rfl, hco, hCo⟩ := Kd.R_reads HO.out
  have HCO := Aside0.mk hco
  clear hco hCo
  cases gk with
  | zero => exact absurd HA.out (by simp [spec_voSorted.l0])
  | succ k1 =>
   have H := HA.out
   clear HA
   simp only [spec_voSorted.l0] at H
   by_cases c1 : x < (l0.length : Int)
   ·rw [if_pos c1, if_pos HX0.out] at H
    have HXL := Aside0.mk c1
    have hx0' := HX0.out
    obtain ⟨p, hp⟩ : ∃ p : Fin l0.length, p.1 = x.toNat := ⟨⟨x.toNat, by omega⟩, rfl⟩
    have HPX := Aside0.mk hp
    obtain ⟨z, hz⟩ : ∃ z : List Int, z = l0[p]'(p.2) := ⟨_, rfl⟩
    have HZ := Aside0.mk hz
    have hzr : rdOf [] l0 x = z := by rw [hz]; simp [rdOf, ← hp]
    rw [hzr] at H
    have H' := Aside0.mk H
    obtain ⟨ad, cc, e1, _, hKx, hcell⟩ := Kd.C_get HC.out p x hx0' c1
    have hKx' : cc = [enc p] := by
     have h_ : cc = [enc ((List.finRange l0.length).getD x.toNat p)] := hKx
     rw [h_, ← hp]
     simp
    have hx0 : w.cell? (ad.add (x.toNat * 1 + 0)) = some (enc p) := hcell 0 _ (by rw [hKx']; rfl)
    rw [Nat.mul_one, Nat.add_zero] at hx0
    obtain ⟨A5, c5, e5, hle5, hC5⟩ := HK.out p
    rw [← hz] at e5 hle5 hC5
    have e5' : enc p = .slice A5 z.length c5 := (List.cons.inj e5).1
    have HEP := Aside0.mk e5'
    have HC5 := Aside0.mk hC5
    have HL5 := Aside0.mk hle5
    rw [e5'] at hx0
    replace hx0 := (HB.out.cell (World.block_lt_of_cell? w _ hx0)).trans hx0
    cases e1
    clear hp hz hzr H hKx hKx' hcell e5 e5' hle5 hC5
    have c1b0 : decide (x < (l0.length : Int)) = true := decide_eq_true c1
    replace c1 := eq_true c1
    replace hx0' := eq_true hx0'
    go_wp2
    go_loopg [6] k1 (fun kq v6 w' => ∃ (y : Int), v6 = .int .i64 y ∧ Aside0 (spec_voSorted.l1 kq (ys.map fun i => l0[i]) l0 x z y = some r) ∧ Aside0 (kq ≤ k1) ∧ Aside0 (0 ≤ y) ∧ Aside0 (y ≤ (ys.length : Int)) ∧ Aside0 ((Kd.scalar enc h1).R 24 w' w.heap.size (fun _ => True) (.slice Ao ys.length co) ys) ∧ Aside0 (Below w.heap.size w w'))
    case atStart => exact ⟨0, gR, H', ⟨Nat.le_refl _⟩, ⟨Int.le_refl _⟩, ⟨by omega⟩, ⟨by exact HO.out⟩, ⟨wB⟩⟩
    case round =>
     clear H' HB HO
     (try clear hx0)
     try clear hx0'
     (try clear c1); (try clear c1b0)
     obtain ⟨y, rfl, HA, HK2, HY0, HYL, HO, HB⟩ := hrel
     cases gk with
     | zero => exact absurd HA.out (by simp [spec_voSorted.l1])
     | succ k2 =>
      have H := HA.out
      clear HA
      simp only [spec_voSorted.l1] at H
      obtain ⟨Ao', co', eo', _, hCo⟩ := Kd.R_reads HO.out
      injection eo' with g1 g2 g3
      subst g1
      have HCo := Aside0.mk hCo
      have HYB := Aside0.mk (Kd.C_max hCo)
      clear hCo g2 g3
      have HR := Aside0.mk (Below.refl wr.heap.size wr)
      have HNL := HN
      by_cases c2 : y < ((ys.map fun i => l0[i]).length : Int)
      ·rw [if_pos c2] at H
       obtain ⟨t, A7, H⟩ := oB H
       rw [List.length_map] at c2
       have hy0 := HY0.out
       have hyl : y.toNat < ys.length := by omega
       obtain ⟨q, hq⟩ : ∃ q : Fin l0.length, q = ys[y.toNat] := ⟨_, rfl⟩
       obtain ⟨zq, hzq⟩ : ∃ z : List Int, z = l0[q]'(q.2) := ⟨_, rfl⟩
       have hzr : rdOf [] (ys.map fun i => l0[i]) y = zq := by rw [hzq, hq]; simp [rdOf, hyl]
       rw [hzr] at A7
       have A8 := Aside0.mk A7
       obtain ⟨ad2, cc2, e2, _, hKy, hcell⟩ := Kd.C_get HCo.out q y hy0 c2
       have hKy' : cc2 = [enc q] := by
        have h_ : cc2 = [enc (ys.getD y.toNat q)] := hKy
        rw [h_, hq]
        simp [hyl]
       have hy1 : wr.cell? (ad2.add (y.toNat * 1 + 0)) = some (enc q) := hcell 0 _ (by rw [hKy']; rfl)
       rw [Nat.mul_one, Nat.add_zero] at hy1
       obtain ⟨Aq, cq, eq, hleq, hCq⟩ := HK.out q
       rw [← hzq] at eq hleq hCq
       rw [(List.cons.inj eq).1] at hy1
       have HCQ := Aside0.mk hCq
       have HLQ := Aside0.mk hleq
       cases e2
       clear hq hzq hzr A7 hKy hKy' hcell eq hleq hCq hyl
       have c2b0 : decide (y < (ys.length : Int)) = true := decide_eq_true c2
       replace c2 := eq_true c2
       replace hy0 := eq_true hy0
       cases t with
       | true =>
        rw [if_pos rfl] at H
        have H' := Aside0.mk H
        clear H
        go_wp2_with (go_at_call 212; refine (spec_voBefore.calls k2 _ _ zq _ _ z true _ (Kd.C_below HCQ.out HB.out) HLQ.out (Kd.C_below HC5.out HB.out) HL5.out A8.out).mono ?_; rintro e w' ⟨rfl, ⟨nd, rfl⟩⟩)
        go_roundg k2
        case measure => have := HK2.out; omega
        case rel => exact ⟨wrap64 (y + 1), gR, H', ⟨by have := HK2.out; omega⟩, ⟨by have h1_ : y < (ys.length : Int) := of_eq_true c2; have h2_ := HYB.out; have := HY0.out; unfold wrap64; omega⟩, ⟨by have h1_ : y < (ys.length : Int) := of_eq_true c2; have h2_ := HYB.out; have := HY0.out; unfold wrap64; omega⟩, ⟨by (with_reducible repeat (first | apply qA | apply qN | apply qD)); exact HO.out⟩, ⟨wB⟩⟩
       | false =>
        rw [if_neg (by decide)] at H
        by_cases c9 : (ys.map fun i => l0[i]).length < 5000000000000
        ·rw [if_pos c9] at H
         rw [List.length_map] at c9
         have LM := Aside0.mk c9
         have hyl : y ≤ (ys.length : Int) := HYL.out
         obtain ⟨i0, hi0, _, hsz0, _⟩ := info_parts info24
         have hcutT := cut_to (P := Tryz.prog) 45 24 .i64 Tryz.underlying45 hi0 (some ad2) ys.length co y HY0.out hyl HCO.out
         have hcutF := cut_from (P := Tryz.prog) 45 24 .i64 Tryz.underlying45 hi0 1 hsz0 (some ad2) ys.length co y HY0.out hyl
         rw [Nat.mul_one] at hcutF
         obtain ⟨AF, hAF⟩ : ∃ AF : Option Addr, AF = (if co = y.toNat then (some ad2) else (some ad2 : Option Addr).map (·.add y.toNat)) := ⟨_, rfl⟩
         rw [← hAF] at hcutF
         have HAF := Aside0.mk hAF
         clear hAF
         have hyn : y.toNat ≤ ys.length := by omega
         have HYN := Aside0.mk hyn
         clear c9 hyl hyn hi0 hsz0
         go_wp2_with (first | (go_at_call 212; refine (spec_voBefore.calls k2 _ _ zq _ _ z false _ (Kd.C_below HCQ.out HB.out) HLQ.out (Kd.C_below HC5.out HB.out) HL5.out A8.out).mono ?_; rintro e w' ⟨rfl, ⟨nd, rfl⟩⟩) | ((with_reducible refine gate_dst (N := 28) rfl ?_); refine Kd.R_lit (Kd.scalar enc h1) _ 24 ?hg (N := 28) ?hd (xs := []) (inner := []) (ok := fun _ => True) (okp := fun _ => True) ?hr ?hp (fun _ hk => hk) trivial (Below.refl _ _) (Nat.le_refl _) (by simp) ?_; (case hd => rfl); (case hg => rfl); (case hr => first | (go_simp; done) | (go_simp; rfl)); (case hp => exact (Reps.none _ _)); intro v28 w28 ho hb hg_ hnew_; clear hg_ hnew_; have HE := Aside0.mk (Kd.R_lower ho (below_size (by repeat (first | (with_reducible first | exact HR.out | apply ba | apply bd | apply be) | exact HR.out)))); replace HR := Aside0.mk (below_step (by repeat (first | (with_reducible first | exact HR.out | apply ba | apply bd | apply be) | exact HR.out)) hb); clear hb ho) | ((with_reducible refine gate_builtin (b := .append) (xs := #[.tmp 28, .tmp 31]) rfl ?_); at_builtin; refine Kd.R_append_rows (Kd.scalar enc h1) (w0 := wr) wr.heap.size rfl (.tmp 28) (.tmp 31) 45 24 (.slice none 0 0) 24 rfl Tryz.underlying45 info24 rfl Nat.zero_lt_one (by omega) v28 [] (ys.take y.toNat) (some ad2) y.toNat co (fun _ => True) (fun _ => False) rfl rfl ?aO ?aR (fun _ _ h => h) (fun _ h => h.elim) ?aF ?aB ?aS ?aL ?_; (case aR => exact (by have h_ := Kd.C_take (m := y.toNat) (Kd.C_below HCo.out (by repeat (first | (with_reducible first | exact HR.out | apply ba | apply bd | apply be) | exact HR.out))) HYN.out; rw [show (ys.take y.toNat).length = y.toNat from by rw [List.length_take]; exact Nat.min_eq_left HYN.out] at h_; exact h_)); (case aB => exact (by repeat (first | (with_reducible first | exact HR.out | apply ba | apply bd | apply be) | exact HR.out))); (case aF => exact (fun _ _ => trivial)); (case aO => exact (by (with_reducible repeat (first | apply qA | apply qN | apply qD)); exact HE.out)); (case aS => exact (below_size (by repeat (first | (with_reducible first | exact HR.out | apply ba | apply bd | apply be) | exact HR.out)))); (case aL => have h1_ := LM.out; have h2_ := HYN.out; simp only [List.length_append, List.length_take, List.length_nil, List.length_cons]; omega); intro v32 w32 ho hb hg hat; replace HR := Aside0.mk hb; replace HE := Aside0.mk ho; clear ho hb hg hat) | ((with_reducible refine gate_builtin (b := .append) (xs := #[.tmp 32, .tmp 34]) rfl ?_); at_builtin; refine Kd.R_append (Kd.scalar enc h1) (w0 := wr) wr.heap.size rfl (.tmp 32) (.tmp 34) 45 24 (.slice none 0 0) 24 rfl Tryz.underlying45 info24 rfl Nat.zero_lt_one (by omega) v32 ([] ++ ys.take y.toNat) p [.slice A5 z.length c5] (fun _ => True) (fun _ => False) rfl rfl ?aP (fun _ hk => hk.elim) ?aF ?aO ?aB ?aS ?aL ?_; (case aP => exact (show [Value.slice A5 z.length c5] = [enc p] from by rw [HEP.out])); (case aB => exact (by repeat (first | (with_reducible first | exact HR.out | apply ba | apply bd | apply be) | exact HR.out))); (case aF => exact (fun _ _ => trivial)); (case aO => exact (by (with_reducible repeat (first | apply qA | apply qN | apply qD)); exact HE.out)); (case aS => exact (below_size (by repeat (first | (with_reducible first | exact HR.out | apply ba | apply bd | apply be) | exact HR.out)))); (case aL => have h1_ := LM.out; have h2_ := HYN.out; simp only [List.length_append, List.length_take, List.length_nil, List.length_cons]; omega); intro v35 w35 ho hb hg hat; replace HR := Aside0.mk hb; replace HE := Aside0.mk ho; clear ho hb hg hat) | ((with_reducible refine gate_builtin (b := .append) (xs := #[.tmp 36, .tmp 39]) rfl ?_); at_builtin; refine Kd.R_append_rows (Kd.scalar enc h1) (w0 := wr) wr.heap.size rfl (.tmp 36) (.tmp 39) 45 24 (.slice none 0 0) 24 rfl Tryz.underlying45 info24 rfl Nat.zero_lt_one (by omega) v35 ([] ++ ys.take y.toNat ++ [p]) (ys.drop y.toNat) _ _ _ (fun _ => True) (fun _ => False) rfl rfl ?aO ?aR (fun _ _ h => h) (fun _ h => h.elim) ?aF ?aB ?aS ?aL ?_; (case aR => exact (by have h_ : (Kd.scalar enc h1).C _ (if co = y.toNat then (some ad2) else (some ad2 : Option Addr).map (·.add (y.toNat * 1))) (ys.drop y.toNat).length (ys.drop y.toNat) := Kd.C_drop (m := y.toNat) (Kd.C_below HCo.out (by repeat (first | (with_reducible first | exact HR.out | apply ba | apply bd | apply be) | exact HR.out))) HYN.out HCO.out; rw [List.length_drop, Nat.mul_one, ← HAF.out] at h_; exact h_)); (case aB => exact (by repeat (first | (with_reducible first | exact HR.out | apply ba | apply bd | apply be) | exact HR.out))); (case aF => exact (fun _ _ => trivial)); (case aO => exact (by (with_reducible repeat (first | apply qA | apply qN | apply qD)); exact HE.out)); (case aS => exact (below_size (by repeat (first | (with_reducible first | exact HR.out | apply ba | apply bd | apply be) | exact HR.out)))); (case aL => have h1_ := LM.out; have h2_ := HYN.out; simp only [List.length_append, List.length_take, List.length_nil, List.length_cons]; omega); intro v40 w40 ho hb hg hat; replace HR := Aside0.mk hb; replace HE := Aside0.mk ho; clear ho hb hg hat))
         go_roundg k2
         case measure => have := HK1.out; have := HK2.out; omega
         case rel => exact ⟨[] ++ ys.take y.toNat ++ [p] ++ ys.drop y.toNat, wrap64 (x + 1), gR, ⟨spec_voSorted.next HX0.out HXL.out HNL.out HPX.out HZ.out H⟩, ⟨by have := HK1.out; have := HK2.out; omega⟩, ⟨by have := HX0.out; have := HXL.out; have := HNL.out; unfold wrap64; omega⟩, ⟨by (with_reducible repeat (first | apply qA | apply qN | apply qD)); exact Kd.R_lower HE.out (below_size HB.out)⟩, ⟨spec_voSorted.perm HX0.out HXL.out HNL.out HPX.out HYN.out HP.out⟩, ⟨HB.out.trans (HR.out.mono (below_size HB.out))⟩⟩
        ·rw [if_neg c9] at H
         exact absurd H (by simp)
      ·rw [if_neg c2] at H
       rw [List.length_map] at c2
       have c2b0 : decide (y < (ys.length : Int)) = false := decide_eq_false c2
       clear c2
       by_cases c9 : (ys.map fun i => l0[i]).length < 5000000000000
       ·rw [if_pos c9] at H
        rw [List.length_map] at c9
        have LM := Aside0.mk c9
        have hyl : y ≤ (ys.length : Int) := HYL.out
        obtain ⟨i0, hi0, _, hsz0, _⟩ := info_parts info24
        have hcutT := cut_to (P := Tryz.prog) 45 24 .i64 Tryz.underlying45 hi0 Ao ys.length co y HY0.out hyl HCO.out
        have hcutF := cut_from (P := Tryz.prog) 45 24 .i64 Tryz.underlying45 hi0 1 hsz0 Ao ys.length co y HY0.out hyl
        rw [Nat.mul_one] at hcutF
        obtain ⟨AF, hAF⟩ : ∃ AF : Option Addr, AF = (if co = y.toNat then Ao else Ao.map (·.add y.toNat)) := ⟨_, rfl⟩
        rw [← hAF] at hcutF
        have HAF := Aside0.mk hAF
        clear hAF
        have hyn : y.toNat ≤ ys.length := by omega
        have HYN := Aside0.mk hyn
        clear c9 hyl hyn hi0 hsz0
        go_wp2_with (first | ((with_reducible refine gate_dst (N := 28) rfl ?_); refine Kd.R_lit (Kd.scalar enc h1) _ 24 ?hg (N := 28) ?hd (xs := []) (inner := []) (ok := fun _ => True) (okp := fun _ => True) ?hr ?hp (fun _ hk => hk) trivial (Below.refl _ _) (Nat.le_refl _) (by simp) ?_; (case hd => rfl); (case hg => rfl); (case hr => first | (go_simp; done) | (go_simp; rfl)); (case hp => exact (Reps.none _ _)); intro v28 w28 ho hb hg_ hnew_; clear hg_ hnew_; have HE := Aside0.mk (Kd.R_lower ho (below_size (by repeat (first | (with_reducible first | exact HR.out | apply ba | apply bd | apply be) | exact HR.out)))); replace HR := Aside0.mk (below_step (by repeat (first | (with_reducible first | exact HR.out | apply ba | apply bd | apply be) | exact HR.out)) hb); clear hb ho) | ((with_reducible refine gate_builtin (b := .append) (xs := #[.tmp 28, .tmp 31]) rfl ?_); at_builtin; refine Kd.R_append_rows (Kd.scalar enc h1) (w0 := wr) wr.heap.size rfl (.tmp 28) (.tmp 31) 45 24 (.slice none 0 0) 24 rfl Tryz.underlying45 info24 rfl Nat.zero_lt_one (by omega) v28 [] (ys.take y.toNat) Ao y.toNat co (fun _ => True) (fun _ => False) rfl rfl ?aO ?aR (fun _ _ h => h) (fun _ h => h.elim) ?aF ?aB ?aS ?aL ?_; (case aR => exact (by have h_ := Kd.C_take (m := y.toNat) (Kd.C_below HCo.out (by repeat (first | (with_reducible first | exact HR.out | apply ba | apply bd | apply be) | exact HR.out))) HYN.out; rw [show (ys.take y.toNat).length = y.toNat from by rw [List.length_take]; exact Nat.min_eq_left HYN.out] at h_; exact h_)); (case aB => exact (by repeat (first | (with_reducible first | exact HR.out | apply ba | apply bd | apply be) | exact HR.out))); (case aF => exact (fun _ _ => trivial)); (case aO => exact (by (with_reducible repeat (first | apply qA | apply qN | apply qD)); exact HE.out)); (case aS => exact (below_size (by repeat (first | (with_reducible first | exact HR.out | apply ba | apply bd | apply be) | exact HR.out)))); (case aL => have h1_ := LM.out; have h2_ := HYN.out; simp only [List.length_append, List.length_take, List.length_nil, List.length_cons]; omega); intro v32 w32 ho hb hg hat; replace HR := Aside0.mk hb; replace HE := Aside0.mk ho; clear ho hb hg hat) | ((with_reducible refine gate_builtin (b := .append) (xs := #[.tmp 32, .tmp 34]) rfl ?_); at_builtin; refine Kd.R_append (Kd.scalar enc h1) (w0 := wr) wr.heap.size rfl (.tmp 32) (.tmp 34) 45 24 (.slice none 0 0) 24 rfl Tryz.underlying45 info24 rfl Nat.zero_lt_one (by omega) v32 ([] ++ ys.take y.toNat) p [.slice A5 z.length c5] (fun _ => True) (fun _ => False) rfl rfl ?aP (fun _ hk => hk.elim) ?aF ?aO ?aB ?aS ?aL ?_; (case aP => exact (show [Value.slice A5 z.length c5] = [enc p] from by rw [HEP.out])); (case aB => exact (by repeat (first | (with_reducible first | exact HR.out | apply ba | apply bd | apply be) | exact HR.out))); (case aF => exact (fun _ _ => trivial)); (case aO => exact (by (with_reducible repeat (first | apply qA | apply qN | apply qD)); exact HE.out)); (case aS => exact (below_size (by repeat (first | (with_reducible first | exact HR.out | apply ba | apply bd | apply be) | exact HR.out)))); (case aL => have h1_ := LM.out; have h2_ := HYN.out; simp only [List.length_append, List.length_take, List.length_nil, List.length_cons]; omega); intro v35 w35 ho hb hg hat; replace HR := Aside0.mk hb; replace HE := Aside0.mk ho; clear ho hb hg hat) | ((with_reducible refine gate_builtin (b := .append) (xs := #[.tmp 36, .tmp 39]) rfl ?_); at_builtin; refine Kd.R_append_rows (Kd.scalar enc h1) (w0 := wr) wr.heap.size rfl (.tmp 36) (.tmp 39) 45 24 (.slice none 0 0) 24 rfl Tryz.underlying45 info24 rfl Nat.zero_lt_one (by omega) v35 ([] ++ ys.take y.toNat ++ [p]) (ys.drop y.toNat) _ _ _ (fun _ => True) (fun _ => False) rfl rfl ?aO ?aR (fun _ _ h => h) (fun _ h => h.elim) ?aF ?aB ?aS ?aL ?_; (case aR => exact (by have h_ : (Kd.scalar enc h1).C _ (if co = y.toNat then Ao else Ao.map (·.add (y.toNat * 1))) (ys.drop y.toNat).length (ys.drop y.toNat) := Kd.C_drop (m := y.toNat) (Kd.C_below HCo.out (by repeat (first | (with_reducible first | exact HR.out | apply ba | apply bd | apply be) | exact HR.out))) HYN.out HCO.out; rw [List.length_drop, Nat.mul_one, ← HAF.out] at h_; exact h_)); (case aB => exact (by repeat (first | (with_reducible first | exact HR.out | apply ba | apply bd | apply be) | exact HR.out))); (case aF => exact (fun _ _ => trivial)); (case aO => exact (by (with_reducible repeat (first | apply qA | apply qN | apply qD)); exact HE.out)); (case aS => exact (below_size (by repeat (first | (with_reducible first | exact HR.out | apply ba | apply bd | apply be) | exact HR.out)))); (case aL => have h1_ := LM.out; have h2_ := HYN.out; simp only [List.length_append, List.length_take, List.length_nil, List.length_cons]; omega); intro v40 w40 ho hb hg hat; replace HR := Aside0.mk hb; replace HE := Aside0.mk ho; clear ho hb hg hat))
        go_roundg k2
        case measure => have := HK1.out; have := HK2.out; omega
        case rel => exact ⟨[] ++ ys.take y.toNat ++ [p] ++ ys.drop y.toNat, wrap64 (x + 1), gR, ⟨spec_voSorted.next HX0.out HXL.out HNL.out HPX.out HZ.out H⟩, ⟨by have := HK1.out; have := HK2.out; omega⟩, ⟨by have := HX0.out; have := HXL.out; have := HNL.out; unfold wrap64; omega⟩, ⟨by (with_reducible repeat (first | apply qA | apply qN | apply qD)); exact Kd.R_lower HE.out (below_size HB.out)⟩, ⟨spec_voSorted.perm HX0.out HXL.out HNL.out HPX.out HYN.out HP.out⟩, ⟨HB.out.trans (HR.out.mono (below_size HB.out))⟩⟩
       ·rw [if_neg c9] at H
        exact absurd H (by simp)
   ·rw [if_neg c1] at H
    obtain rfl := Option.some.inj H
    have hpm := HP.out
    rw [List.take_of_length_le (by rw [List.length_finRange]; omega)] at hpm
    have HPM := Aside0.mk hpm
    have c1b0 : decide (x < (l0.length : Int)) = false := decide_eq_false c1
    clear c1 H hpm
    go_wp2
    go_ret
    exact ⟨_, rfl, HF.out _ _ ys (by repeat (first | exact HB.out | apply ba | apply bd | apply be)) HPM.out HBASE.out (by (with_reducible repeat (first | apply qA | apply qN | apply qD)); exact HO.out), wB⟩
mutual
def spec_voLeast.l0 : Nat → List Bool → List (List Int) → List Bool → Int → Int → Option ((List (List Int)))
 | 0, _, _, _, _, _ => none
 | k + 1, x0, x3, x9, x10, x11 => if x11 < x10 then (if 0 ≤ x11 then (if x11 < (x9.length : Int) then (if rdOf false x9 x11 = true then ((spec_voList.f k x11).bind fun t105 => (spec_voLeast.l1 k x0 x3 x11 true x9 x10 x11 t105 (t105.length : Int) 0)) else (spec_voLeast.l0 k x0 x3 x9 x10 (wrap64 (x11 + 1)))) else (none)) else (none)) else ((spec_voSorted.f k x3).bind fun t101 => (some t101))
def spec_voLeast.l1 : Nat → List Bool → List (List Int) → Int → Bool → List Bool → Int → Int → List Int → Int → Int → Option ((List (List Int)))
 | 0, _, _, _, _, _, _, _, _, _, _ => none
 | k + 1, x0, x3, x4, x6, x9, x10, x11, x19, x20, x21 => if x21 < x20 then (if 0 ≤ x21 then (if x21 < (x19.length : Int) then (if x6 = true then (if 0 ≤ (rd x19 x21) then (if 0 ≤ (wrap64 (x4 - (shl .i64 1 (rd x19 x21)))) then (if (wrap64 (x4 - (shl .i64 1 (rd x19 x21)))) < (x0.length : Int) then (spec_voLeast.l1 k x0 x3 x4 (!(rdOf false x0 (wrap64 (x4 - (shl .i64 1 (rd x19 x21)))))) x9 x10 x11 x19 x20 (wrap64 (x21 + 1))) else (none)) else (none)) else (none)) else (spec_voLeast.l1 k x0 x3 x4 false x9 x10 x11 x19 x20 (wrap64 (x21 + 1)))) else (none)) else (none)) else (if x6 = true then ((spec_voList.f k x4).bind fun t110 => (if x3.length < 5864062014805 then (spec_voLeast.l0 k x0 (x3 ++ [t110]) x9 x10 (wrap64 (x11 + 1))) else (none))) else (spec_voLeast.l0 k x0 x3 x9 x10 (wrap64 (x11 + 1))))
end
def spec_voLeast.f (k : Nat) (l0 : List Bool) : Option ((List (List Int))) := spec_voLeast.l0 k l0 ([] : List (List Int)) l0 (l0.length : Int) 0
theorem spec_voLeast.calls (k : Nat) (A0 : Option Addr) (c0 : Nat) (l0 : List Bool) (r : List (List Int)) (w : World) (hr0 : Kd.C Kd.bool w A0 l0.length l0) (hc0 : l0.length ≤ c0) (h : spec_voLeast.f k l0 = some r) :
  Calls Tryz.prog 140 #[.slice A0 l0.length c0] w fun e w' => ∃ v0_ : Value, e = .returned (v0_) ∧ Kd.S (Kd.slice 3 (Kd.int .i64)) 24 w' w.heap.size (fun _ => True) v0_ r ∧ Below w.heap.size w w' := by
 have HR0 := Aside0.mk hr0
 have HC0 := Aside0.mk hc0
 clear hr0 hc0
 have HB := Aside0.mk (Below.refl w.heap.size w)
 have H : (spec_voLeast.l0 k l0 ([] : List (List Int)) l0 (l0.length : Int) 0) = some r := h
 clear h
 have H' := Aside0.mk H
 clear H
 go_enter Tryz.func140, Tryz.ntmps140
 go_wp2
 go_loopg [3, 11] k (fun kq v3 v11 w' => ∃ (x3_1 : List (List Int)) (x11_1 : Int), v11 = .int .i64 x11_1 ∧ Aside0 (spec_voLeast.l0 kq l0 x3_1 l0 (l0.length : Int) x11_1 = some r) ∧ Aside0 (kq ≤ k) ∧ Aside0 (Kd.S (Kd.slice 3 (Kd.int .i64)) 24 w' w.heap.size (fun _ => True) v3 x3_1) ∧ Aside0 (Below w.heap.size w w'))
 case atStart => exact ⟨(([] : List (List Int))), (0), gR, H', ⟨Nat.le_refl _⟩, ⟨by first | exact Kd.S_nil _ _ _ _ _ | exact Kd.N_nil _ _ _ _ _ | exact Kd.V_nil _ _ _ _ _ | exact Kd.Q_nil _ _ _ _ _ | exact Kd.R_nil _ _ _ _ _⟩, ⟨wB⟩⟩
 case round =>
  clear H'
  (try clear c1)
  obtain ⟨x3_1, x11_1, rfl, HA, HK1, HO_3, HB⟩ := hrel
  cases gk with
  | zero => exact absurd HA.out (by simp [spec_voLeast.l0])
  | succ k1 =>
   have H := HA.out
   clear HA
   simp only [spec_voLeast.l0] at H
   by_cases c2 : x11_1 < (l0.length : Int)
   ·rw [if_pos c2] at H
    have c2b0 : decide (x11_1 < (l0.length : Int)) = true := decide_eq_true c2
    clear c2
    by_cases c3 : 0 ≤ x11_1
    ·rw [if_pos c3] at H
     have c3b0 : decide (0 ≤ x11_1) = true := decide_eq_true c3
     clear c3
     by_cases c4 : x11_1 < (l0.length : Int)
     ·rw [if_pos c4] at H
      have c4b0 : decide (x11_1 < (l0.length : Int)) = true := decide_eq_true c4
      clear c4
      obtain ⟨bq5, hbq5⟩ : ∃ b_ : Bool, b_ = (rdOf false l0 x11_1) := ⟨_, rfl⟩
      replace H : (if bq5 = true then ((spec_voList.f k1 x11_1).bind fun t105 => (spec_voLeast.l1 k1 l0 x3_1 x11_1 true l0 (l0.length : Int) x11_1 t105 (t105.length : Int) 0)) else (spec_voLeast.l0 k1 l0 x3_1 l0 (l0.length : Int) (wrap64 (x11_1 + 1)))) = some r := by rw [← hbq5] at H; exact H
      have Nbq5 := Aside0.mk hbq5
      clear hbq5
      by_cases c6 : bq5 = true
      ·subst c6
       replace H := iT H
       replace H := oA H
       obtain ⟨t105, A7, H⟩ := H
       (try dsimp only at H)
       have H' := Aside0.mk H
       clear H
       have p104 : 0 ≤ (x11_1 : Int) := oD
       have q104 : x11_1 < (l0.length : Int) := oD
       obtain ⟨ad104, e104, hx104_0⟩ := Kd.at_bool HR0.out x11_1 p104 q104
       (try rw [← Nbq5.out] at hx104_0)
       cases e104
       replace hx104_0 := (HB.out.cell (World.block_lt_of_cell? w _ hx104_0)).trans hx104_0
       replace p104 := eq_true p104
       replace q104 := eq_true q104
       go_wp2_with (first | ((with_reducible refine gate_callee (f := 146) rfl ?_); refine gL 19 Tryz.func146 #[.int .i64 x11_1] ?_; (with_reducible refine (spec_voList.calls k1 x11_1 t105 _ A7.out).mono ?_); rintro e w8 ⟨v106, rfl, ho0, hb⟩; refine ⟨_, rfl, ?_⟩; have HO107 := Aside0.mk (Kd.R_lower ho0 (below_size HB.out)); replace HO_3 := tE HO_3 (Kd.R_base ho0) hb; replace HB := sB HB hb; (try clear hb); (try clear ho0); obtain ⟨Ao9, co9, eo9⟩ := Kd.R_slice HO107.out; subst eo9))
       go_loopg [6, 21] k1 (fun kq v6 v21 w' => ∃ (x6_2 : Bool) (x21_2 : Int), v6 = .bool x6_2 ∧ v21 = .int .i64 x21_2 ∧ Aside0 (spec_voLeast.l1 kq l0 x3_1 x11_1 x6_2 l0 (l0.length : Int) x11_1 t105 (t105.length : Int) x21_2 = some r) ∧ Aside0 (kq ≤ k1) ∧ Aside0 (Kd.S (Kd.slice 3 (Kd.int .i64)) 24 w' w.heap.size (fun k_ => nb (.slice Ao9 t105.length co9) k_) u3 x3_1) ∧ Aside0 (Kd.R (Kd.int .i64) 3 w' w.heap.size (fun _ => True) (.slice Ao9 t105.length co9) t105) ∧ Aside0 (Below w.heap.size w w'))
       case atStart => exact ⟨(true), (0), gR, gR, H', ⟨Nat.le_refl _⟩, ⟨by exact Kd.S_mono HO_3.out (fun _ hk => hk.2)⟩, ⟨by exact HO107.out⟩, ⟨wB⟩⟩
       case round =>
        clear H'
        (try clear c1); (try clear p1); (try clear q1); (try clear hx1); (try clear c2); (try clear c2b0); (try clear p2); (try clear c3); (try clear c3b0); (try clear c4); (try clear c4b0); (try clear q5); (try clear c6); (try clear p6); (try clear hx104_0); (try clear p104); (try clear q104)
        obtain ⟨x6_2, x21_2, rfl, rfl, HA, HK2, HO_3, HO_19, HB⟩ := hrel
        cases gk with
        | zero => exact absurd HA.out (by simp [spec_voLeast.l1])
        | succ k2 =>
         have H := HA.out
         clear HA
         simp only [spec_voLeast.l1] at H
         by_cases c10 : x21_2 < (t105.length : Int)
         ·rw [if_pos c10] at H
          have c10b0 : decide (x21_2 < (t105.length : Int)) = true := decide_eq_true c10
          clear c10
          by_cases c11 : 0 ≤ x21_2
          ·rw [if_pos c11] at H
           have c11b0 : decide (0 ≤ x21_2) = true := decide_eq_true c11
           clear c11
           by_cases c12 : x21_2 < (t105.length : Int)
           ·rw [if_pos c12] at H
            have c12b0 : decide (x21_2 < (t105.length : Int)) = true := decide_eq_true c12
            clear c12
            by_cases c13 : x6_2 = true
            ·subst c13
             replace H := iT H
             by_cases c14 : 0 ≤ (rd t105 x21_2)
             ·rw [if_pos c14] at H
              have c14b0 := eq_true c14
              have c14b1 : decide (0 ≤ (rd t105 x21_2)) = true := decide_eq_true c14
              clear c14
              obtain ⟨ji15, hji15⟩ : ∃ j_ : Int, (shl .i64 1 (rd t105 x21_2)) = j_ := ⟨_, rfl⟩
              replace H : (if 0 ≤ (wrap64 (x11_1 - (ji15))) then (if (wrap64 (x11_1 - (ji15))) < (l0.length : Int) then (spec_voLeast.l1 k2 l0 x3_1 x11_1 (!(rdOf false l0 (wrap64 (x11_1 - (ji15))))) l0 (l0.length : Int) x11_1 t105 (t105.length : Int) (wrap64 (x21_2 + 1))) else (none)) else (none)) = some r := by first | (rw [hji15] at H; exact H) | (simp only [hji15] at H ⊢; exact H)
              have hji15_ : (IntKind.i64.wrap (1 * 2 ^ min (rd t105 x21_2).toNat 64)) = ji15 := hji15
              have hji15z : (rd t105 x21_2) ≤ 64 → (IntKind.i64.wrap (1 * 2 ^ (rd t105 x21_2).toNat)) = ji15 := shl_small hji15
              have hji15u : (IntKind.i64.wrap (2 ^ min (rd t105 x21_2).toNat 64)) = ji15 := by have h_ := hji15_; rw [Int.one_mul] at h_; exact h_
              have hji15v : (rd t105 x21_2) ≤ 64 → (IntKind.i64.wrap (2 ^ (rd t105 x21_2).toNat)) = ji15 := fun hle_ => by have h_ := hji15z hle_; rw [Int.one_mul] at h_; exact h_
              have hji15y : (wrap64 (1 * 2 ^ min (rd t105 x21_2).toNat 64)) = ji15 := (i64_w _).symm.trans hji15_
              have hji15x : (rd t105 x21_2) ≤ 64 → (wrap64 (1 * 2 ^ (rd t105 x21_2).toNat)) = ji15 := fun h_ => (i64_w _).symm.trans (hji15z h_)
              obtain ⟨ji16, hji16⟩ : ∃ j_ : Int, (wrap64 (x11_1 - (ji15))) = j_ := ⟨_, rfl⟩
              replace H : (if 0 ≤ (ji16) then (if (ji16) < (l0.length : Int) then (spec_voLeast.l1 k2 l0 x3_1 x11_1 (!(rdOf false l0 (ji16))) l0 (l0.length : Int) x11_1 t105 (t105.length : Int) (wrap64 (x21_2 + 1))) else (none)) else (none)) = some r := by first | (rw [hji16] at H; exact H) | (simp only [hji16] at H ⊢; exact H)
              have hji16w : (IntKind.i64.wrap (x11_1 - (ji15))) = ji16 := (i64_w _).trans hji16
              by_cases c17 : 0 ≤ (ji16)
              ·rw [if_pos c17] at H
               have c17b0 : decide (0 ≤ (ji16)) = true := decide_eq_true c17
               clear c17
               by_cases c18 : (ji16) < (l0.length : Int)
               ·rw [if_pos c18] at H
                have c18b0 : decide ((ji16) < (l0.length : Int)) = true := decide_eq_true c18
                clear c18
                have H' := Aside0.mk H
                clear H
                have p108 : 0 ≤ (x21_2 : Int) := oD
                have q108 : x21_2 < (t105.length : Int) := oD
                obtain ⟨ad108, e108, hx108_0⟩ := Kd.at_int (Kd.R_reads' HO_19.out).2.2 x21_2 p108 q108
                cases e108
                replace p108 := eq_true p108
                replace q108 := eq_true q108
                have p109 : 0 ≤ ((ji16) : Int) := oD
                have q109 : (ji16) < (l0.length : Int) := oD
                obtain ⟨ad109, e109, hx109_0⟩ := Kd.at_bool HR0.out (ji16) p109 q109
                (try rw [← Nbq5.out] at hx109_0)
                obtain rfl : ad104 = ad109 := (by injection e109)
                replace hx109_0 := (HB.out.cell (World.block_lt_of_cell? w _ hx109_0)).trans hx109_0
                replace p109 := eq_true p109
                replace q109 := eq_true q109
                go_wp2
                go_roundg k2
                case measure => have := HK1.out; have := HK2.out; omega
                case rel => exact ⟨(!(rdOf false l0 (ji16))), (wrap64 (x21_2 + 1)), (by first | rfl | (simp; done) | (simp only [← hji16] <;> (first | rfl | simp)) | (simp [*]; done)), gR, H', ⟨by have := HK1.out; have := HK2.out; omega⟩, ⟨by exact HO_3.out⟩, ⟨by exact HO_19.out⟩, ⟨wB⟩⟩
               ·rw [if_neg c18] at H
                exact absurd H (by simp)
              ·rw [if_neg c17] at H
               exact absurd H (by simp)
             ·rw [if_neg c14] at H
              exact absurd H (by simp)
            ·replace c13 := Bool.eq_false_iff.mpr c13
             subst c13
             replace H := iF H
             have H' := Aside0.mk H
             clear H
             have p108 : 0 ≤ (x21_2 : Int) := oD
             have q108 : x21_2 < (t105.length : Int) := oD
             obtain ⟨ad108, e108, hx108_0⟩ := Kd.at_int (Kd.R_reads' HO_19.out).2.2 x21_2 p108 q108
             cases e108
             replace p108 := eq_true p108
             replace q108 := eq_true q108
             go_wp2
             go_roundg k2
             case measure => have := HK1.out; have := HK2.out; omega
             case rel => exact ⟨(false), (wrap64 (x21_2 + 1)), gR, gR, H', ⟨by have := HK1.out; have := HK2.out; omega⟩, ⟨by exact HO_3.out⟩, ⟨by exact HO_19.out⟩, ⟨wB⟩⟩
           ·rw [if_neg c12] at H
            exact absurd H (by simp)
          ·rw [if_neg c11] at H
           exact absurd H (by simp)
         ·rw [if_neg c10] at H
          have c10b0 : decide (x21_2 < (t105.length : Int)) = false := decide_eq_false c10
          clear c10
          by_cases c19 : x6_2 = true
          ·subst c19
           replace H := iT H
           replace H := oA H
           obtain ⟨t110, A20, H⟩ := H
           (try dsimp only at H)
           by_cases c21 : x3_1.length < 5864062014805
           ·rw [if_pos c21] at H
            have LMc21 := Aside0.mk c21
            clear c21
            obtain ⟨y113, hy113⟩ : ∃ y_ : List (List Int), y_ = (x3_1 ++ [t110]) := ⟨_, rfl⟩
            replace H : (spec_voLeast.l0 k2 l0 y113 l0 (l0.length : Int) (wrap64 (x11_1 + 1))) = some r := by first | (rw [hy113]; with_reducible exact H) | (have H2_ := (Option.bind_some _ _).symm.trans H; rw [hy113]; with_reducible exact H2_) | (have H2_ := (Option.bind_some _ _).symm.trans H; with_reducible exact H2_) | with_reducible exact H | (rw [hy113]; exact H) | exact H
            have Ny113 := Aside0.mk hy113
            clear hy113
            have H' := Aside0.mk H
            clear H
            go_wp2_with (first | ((with_reducible refine gate_callee (f := 146) rfl ?_); refine gL 40 Tryz.func146 #[.int .i64 x11_1] ?_; (with_reducible refine (spec_voList.calls k2 x11_1 t110 _ A20.out).mono ?_); rintro e w22 ⟨v111, rfl, ho0, hb⟩; refine ⟨_, rfl, ?_⟩; have HO112 := Aside0.mk (Kd.R_lower (Kd.R_new' ho0 (Kd.R_lt HO_19.out)) (below_size HB.out)); replace HO_3 := tE HO_3 (Kd.R_base ho0) hb; replace HO_19 := rE HO_19 (Kd.R_base ho0) hb; replace HB := sB HB hb; (try clear hb); (try clear ho0); obtain ⟨Ao24, co24, eo24⟩ := Kd.R_slice HO112.out; subst eo24) | ((with_reducible refine gate_builtin (b := .append) (xs := #[.tmp 38, .tmp 41]) rfl ?_); at_builtin; refine Kd.S_append (Kd.slice 3 (Kd.int .i64)) (w0 := w) w.heap.size rfl (.tmp 38) (.tmp 41) 45 24 (.slice none 0 0) 24 rfl Tryz.underlying45 info24 rfl (by decide) (by omega) u3 x3_1 t110 [.slice Ao24 t110.length co24] (fun k_ => nb (.slice Ao9 t105.length co9) k_) (fun k_ => some k_ = (.slice Ao24 t110.length co24 : Value).ownBlock) rfl rfl ?aP (fun k_ hk_ => ((Kd.R_mono (ok' := fun k_ => ((fun k_ => nb (.slice Ao9 t105.length co9) k_)) k_ ∧ nb u3 k_) (Kd.R_apart' (HO112.out) (Kd.S_typed HO_3.out) (by decide)) (fun k_ hk => ⟨hk.1.2, hk.2⟩))).1 k_ hk_.symm) ?aF ?aO ?aB ?aS ?aL ?_; (case aP => exact Kd.M_row (Kd.R_mono (Kd.R_tight rfl (Kd.R_mono (ok' := fun k_ => ((fun k_ => nb (.slice Ao9 t105.length co9) k_)) k_ ∧ nb u3 k_) (Kd.R_apart' (HO112.out) (Kd.S_typed HO_3.out) (by decide)) (fun k_ hk => ⟨hk.1.2, hk.2⟩))) (fun _ h_ => h_))); (case aB => exact HB.out); (case aF => exact (fun k_ hk => Kd.fresh' (Kd.R_lt HO_19.out) k_ hk)); (case aO => exact (by exact Kd.S_mono HO_3.out (fun k_ hk => ⟨hk.1, fun e_ => hk.2 e_⟩))); (case aS => exact (below_size HB.out)); (case aL => have := LMc21.out; omega); intro v114 w23 ho hb hg hat; rw [← Ny113.out] at ho; have HO115 := Aside0.mk (ho); replace HO_19 := Aside0.mk (Kd.R_over' HO_19.out (Kd.S_typed HO_3.out) (by decide) hg); replace HB := Aside0.mk (hb); clear ho hb hg hat))
            go_roundg k2
            case measure => have := HK1.out; have := HK2.out; omega
            case rel => exact ⟨(y113), (wrap64 (x11_1 + 1)), gR, H', ⟨by have := HK1.out; have := HK2.out; omega⟩, ⟨by exact Kd.S_mono HO115.out (fun _ hk => trivial)⟩, ⟨wB⟩⟩
           ·rw [if_neg c21] at H
            exact absurd H (by simp)
          ·replace c19 := Bool.eq_false_iff.mpr c19
           subst c19
           replace H := iF H
           have H' := Aside0.mk H
           clear H
           go_wp2
           go_roundg k2
           case measure => have := HK1.out; have := HK2.out; omega
           case rel => exact ⟨(x3_1), (wrap64 (x11_1 + 1)), gR, H', ⟨by have := HK1.out; have := HK2.out; omega⟩, ⟨by exact Kd.S_mono HO_3.out (fun _ hk => trivial)⟩, ⟨wB⟩⟩
      ·replace c6 := Bool.eq_false_iff.mpr c6
       subst c6
       replace H := iF H
       have H' := Aside0.mk H
       clear H
       have p104 : 0 ≤ (x11_1 : Int) := oD
       have q104 : x11_1 < (l0.length : Int) := oD
       obtain ⟨ad104, e104, hx104_0⟩ := Kd.at_bool HR0.out x11_1 p104 q104
       (try rw [← Nbq5.out] at hx104_0)
       cases e104
       replace hx104_0 := (HB.out.cell (World.block_lt_of_cell? w _ hx104_0)).trans hx104_0
       replace p104 := eq_true p104
       replace q104 := eq_true q104
       go_wp2
       go_roundg k1
       case measure => have := HK1.out; omega
       case rel => exact ⟨(x3_1), (wrap64 (x11_1 + 1)), gR, H', ⟨by have := HK1.out; omega⟩, ⟨by exact HO_3.out⟩, ⟨wB⟩⟩
     ·rw [if_neg c4] at H
      exact absurd H (by simp)
    ·rw [if_neg c3] at H
     exact absurd H (by simp)
   ·rw [if_neg c2] at H
    have c2b0 : decide (x11_1 < (l0.length : Int)) = false := decide_eq_false c2
    clear c2
    replace H := oA H
    obtain ⟨t101, A25, H⟩ := H
    (try dsimp only at H)
    obtain rfl := Option.some.inj H
    obtain ⟨Ao26, co26, eo26⟩ := Kd.S_slice HO_3.out
    subst eo26
    go_wp2_with (first | ((with_reducible refine gate_callee (f := 147) rfl ?_); refine gL 45 Tryz.func147 #[.slice Ao26 x3_1.length co26] ?_; (with_reducible refine (spec_voSorted.calls k1 w.heap.size _ _ x3_1 t101 _ (by exact Kd.S_mono HO_3.out (fun _ _ => trivial)) (below_size HB.out) A25.out).mono ?_); rintro e w27 ⟨v102, rfl, ho0, hb⟩; refine ⟨_, rfl, ?_⟩; have n1_ := Aside0.mk ho0; have n2_ := sB HB hb; clear HO_3; clear HB; have HO103 := n1_; have HB := n2_; clear n1_ n2_; (try clear hb); (try clear ho0)))
    go_ret
    exact ⟨_, fR, by exact Kd.S_mono HO103.out (fun _ hk => trivial), wB⟩
end Go.Proofs.YtamfpkefnhcngaaGreat.Q
