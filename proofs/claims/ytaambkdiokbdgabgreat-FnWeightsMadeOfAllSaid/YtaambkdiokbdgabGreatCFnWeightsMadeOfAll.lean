/- The law FnWeightsMadeOfAll holds: for every input the call returns true, and each argument reads afterwards as it read before. Conditions: none. -/
import Derived.Test.YtaambkdiokbdgabGreatRows
import Derived.Test.YtaambkdiokbdgabGreatGWeightsMadeOfAllx5
import Derived.Test.YtaambkdiokbdgabGreatGWeightsMadeOfAllx6
import Derived.Test.YtaambkdiokbdgabGreatGWeightsMadeOfAllx1
import Derived.WalkKit
import Derived.ProofKit
import Derived.OpenShut
import Derived.ShutString
import Derived.ChangeOld
import Derived.Below
import Derived.SizedLaws
import Derived.Lib.SmallJoins
namespace Go.Proofs.YtaambkdiokbdgabGreat.fnWeightsMadeOfAll
open Go.ChangeShapes Go.WideShapes Go.ChangeAt Go.RowKit
open Go.ChangeMaps (open_string shut_string)
set_option linter.unusedVariables false
theorem own : ownKnob Tryz.prog.godebug = none := by kernel_rfl
theorem laidOut : laidOutB Tryz.prog = true := by kernel_rfl
set_option maxRecDepth 100000 in
theorem lifted (os : Os) (started : os.Started) (H : Type) (enc : TypeId × Value → H) :
    ReturnsInHanded {} Tryz.checked os 3 .any (Rows.fnWeightsMadeOfAllSpec.pre6 enc Tryz.prog Tryz.f3 Rows.fnWeightsMadeOfAllRow.domain false) (Rows.fnWeightsMadeOfAllSpec.post enc Tryz.prog Tryz.f3 false true false false) := by
  refine returnsInHanded_of_change_sized (C := Tryz.checked) own started (by kernel_rfl) Tryz.func3
    (ChangeSpec.witness6 (enc := enc) (C := Tryz.checked) false ⟨#[], #[.agg #[.int .i64 0, .slice none 0 0], .int .i64 0, .agg #[.int .i64 0, .slice none 0 0], .int .i64 0, .int .i64 0, .agg #[.int .i64 0, .slice none 0 0]], []⟩ 8 (by kernel_rfl) (by kernel_rfl) (by kernel_rfl) (by kernel_rfl)) ?_
  intro W base args ds gs before hval0 hW hcnd hsz0 _
  have hsz : (DataW.weightsEach Tryz.prog (Tryz.f3.params.toList ++ Rows.fnWeightsMadeOfAllSpec.plain.varTypes Tryz.prog) (ds ++ gs)).all (· ≤ reachBytes) = true := hsz0
  have hval : ∀ (j : Nat) t v, Tryz.f3.params[j]? = some t → args[j]? = some v → Value.okWide Tryz.prog W .any base t v := hval0
  have hW' := hW
  obtain ⟨p, q, hA0, hV, rfl, hfz, hnd⟩ := hW
  have hA : DataW.TrodAll enc Tryz.prog W 0 (fun _ => true) true Tryz.f3.params.toList args.toList ds p := hA0
  rw [Tryz.params3] at hA hval hsz
  obtain ⟨v0, vs0, d0, ds0, p0, q0, hargs, rfl, rfl, h0, r0⟩ := trodAll_cons hA
  obtain ⟨v1, vs1, d1, ds1, p1, q1, rfl, rfl, rfl, h1, r1⟩ := trodAll_cons r0
  obtain ⟨v2, vs2, d2, ds2, p2, q2, rfl, rfl, rfl, h2, r2⟩ := trodAll_cons r1
  obtain ⟨v3, vs3, d3, ds3, p3, q3, rfl, rfl, rfl, h3, r3⟩ := trodAll_cons r2
  obtain ⟨v4, vs4, d4, ds4, p4, q4, rfl, rfl, rfl, h4, r4⟩ := trodAll_cons r3
  obtain ⟨v5, vs5, d5, ds5, p5, q5, rfl, rfl, rfl, h5, r5⟩ := trodAll_cons r4
  obtain ⟨rfl, rfl, rfl⟩ := trodAll_nil r5
  obtain rfl : args = #[v0, v1, v2, v3, v4, v5] := by cases args; simp_all
  obtain ⟨rfl, rfl⟩ := trodVars_none hV
  have k0 := h0
  have lt0 : ∀ x ∈ p0, x.block < W.heap.size := by obtain ⟨m, hm⟩ := k0; exact DataW.trod_lt m _ _ _ hm
  obtain ⟨e0_0, e0_1, y0_0, y0_1, m0, rfl, rfl, rfl, hy0_0, hy0_1⟩ := Go.Joins.open_agg2 Tryz.underlying24 (by kernel_rfl) (by kernel_rfl) (hval 0 24 v0 rfl rfl) h0
  obtain ⟨a0_0, ea0_0, ok0_0⟩ := (Go.Proofs.YtaambkdiokbdgabGreatO.reads_int Tryz.underlying3) _ _ _ hy0_0
  obtain rfl : e0_0 = .int .i64 a0_0 := (List.cons.inj ea0_0).1
  obtain ⟨l0_1, ⟨A0_1, c0_1, ea0_1, hc0_1, hr0_1⟩, ok0_1⟩ := (Go.Proofs.YtaambkdiokbdgabGreatO.reads_slice Tryz.underlying22 (by kernel_rfl) rfl (Go.Proofs.YtaambkdiokbdgabGreatO.reads_int Tryz.underlying3)) _ _ _ hy0_1
  obtain rfl : e0_1 = .slice A0_1 l0_1.length c0_1 := (List.cons.inj ea0_1).1
  obtain ⟨a1, rfl, rfl, rfl, ok1⟩ := open_int Tryz.underlying3 (hval 1 3 v1 rfl rfl) h1
  have k2 := h2
  have lt2 : ∀ x ∈ p2, x.block < W.heap.size := by obtain ⟨m, hm⟩ := k2; exact DataW.trod_lt m _ _ _ hm
  obtain ⟨e2_0, e2_1, y2_0, y2_1, m2, rfl, rfl, rfl, hy2_0, hy2_1⟩ := Go.Joins.open_agg2 Tryz.underlying24 (by kernel_rfl) (by kernel_rfl) (hval 2 24 v2 rfl rfl) h2
  obtain ⟨a2_0, ea2_0, ok2_0⟩ := (Go.Proofs.YtaambkdiokbdgabGreatO.reads_int Tryz.underlying3) _ _ _ hy2_0
  obtain rfl : e2_0 = .int .i64 a2_0 := (List.cons.inj ea2_0).1
  obtain ⟨l2_1, ⟨A2_1, c2_1, ea2_1, hc2_1, hr2_1⟩, ok2_1⟩ := (Go.Proofs.YtaambkdiokbdgabGreatO.reads_slice Tryz.underlying22 (by kernel_rfl) rfl (Go.Proofs.YtaambkdiokbdgabGreatO.reads_int Tryz.underlying3)) _ _ _ hy2_1
  obtain rfl : e2_1 = .slice A2_1 l2_1.length c2_1 := (List.cons.inj ea2_1).1
  obtain ⟨a3, rfl, rfl, rfl, ok3⟩ := open_int Tryz.underlying3 (hval 3 3 v3 rfl rfl) h3
  obtain ⟨a4, rfl, rfl, rfl, ok4⟩ := open_int Tryz.underlying3 (hval 4 3 v4 rfl rfl) h4
  have k5 := h5
  have lt5 : ∀ x ∈ p5, x.block < W.heap.size := by obtain ⟨m, hm⟩ := k5; exact DataW.trod_lt m _ _ _ hm
  obtain ⟨e5_0, e5_1, y5_0, y5_1, m5, rfl, rfl, rfl, hy5_0, hy5_1⟩ := Go.Joins.open_agg2 Tryz.underlying24 (by kernel_rfl) (by kernel_rfl) (hval 5 24 v5 rfl rfl) h5
  obtain ⟨a5_0, ea5_0, ok5_0⟩ := (Go.Proofs.YtaambkdiokbdgabGreatO.reads_int Tryz.underlying3) _ _ _ hy5_0
  obtain rfl : e5_0 = .int .i64 a5_0 := (List.cons.inj ea5_0).1
  obtain ⟨l5_1, ⟨A5_1, c5_1, ea5_1, hc5_1, hr5_1⟩, ok5_1⟩ := (Go.Proofs.YtaambkdiokbdgabGreatO.reads_slice Tryz.underlying22 (by kernel_rfl) rfl (Go.Proofs.YtaambkdiokbdgabGreatO.reads_int Tryz.underlying3)) _ _ _ hy5_1
  obtain rfl : e5_1 = .slice A5_1 l5_1.length c5_1 := (List.cons.inj ea5_1).1
  clear hA0 hval0 hsz0 hsz
  obtain ⟨k, h_⟩ := Q.laws_FnWeightsMadeOfAll.law a0_0 l0_1 a1 a2_0 l2_1 a3 a4 a5_0 l5_1 ok0_0 ok0_1 ok1 ok2_0 ok2_1 ok3 ok4 ok5_0 ok5_1
  have h := h_ k (Nat.le_refl _)
  refine (Q.laws_FnWeightsMadeOfAll.calls k a0_0 A0_1 c0_1 l0_1 a1 a2_0 A2_1 c2_1 l2_1 a3 a4 a5_0 A5_1 c5_1 l5_1 true W hr0_1 hc0_1 hr2_1 hc2_1 hr5_1 hc5_1 h).mono fun e W' ⟨he, bel⟩ => ?_
  subst he
  exact ⟨_, rfl, _, _, _, [], _, [], hW', trodAll_mk1 (shut_bool Tryz.underlying4 _), (trodAll_cons_mk (Below.trod laidOut (by kernel_rfl) (of_decide_eq_true (by kernel_rfl)) k0 bel lt0) (trodAll_cons_mk (shut_int Tryz.underlying3 ok1) (trodAll_cons_mk (Below.trod laidOut (by kernel_rfl) (of_decide_eq_true (by kernel_rfl)) k2 bel lt2) (trodAll_cons_mk (shut_int Tryz.underlying3 ok3) (trodAll_cons_mk (shut_int Tryz.underlying3 ok4) (trodAll_cons_mk (Below.trod laidOut (by kernel_rfl) (of_decide_eq_true (by kernel_rfl)) k5 bel lt5) trodAll_mk0)))))), rfl, bel.frame _, fun h => by cases h⟩
theorem over : Rows.fnWeightsMadeOfAllRow.holds Tryz.pinned (OpenSpec.ofChange Rows.fnWeightsMadeOfAllSpec) :=
  OpenClaim.holds_of_wide 3 Tryz.f3 rfl rfl rfl rfl rfl rfl rfl ⟨rfl, rfl, rfl, rfl, rfl⟩ rfl rfl rfl rfl rfl (by kernel_rfl) Tryz.func3 (by kernel_rfl)
    (of_decide_eq_true (by kernel_rfl)) (by unfold Func.isWrapper; first | (rw [if_pos (by decide +kernel)]; kernel_rfl) | (rw [if_neg (by decide +kernel)]; exact ⟨rfl, rfl⟩))
    (fun os started H enc _ => lifted os started H enc)
theorem proved : Rows.FnWeightsMadeOfAllSaid := over
#print axioms proved
end Go.Proofs.YtaambkdiokbdgabGreat.fnWeightsMadeOfAll
namespace Go.Proofs.YtaambkdiokbdgabGreat
/-- The row, under a short name, for the claim. -/
theorem fnWeightsMadeOfAll_holds : Rows.FnWeightsMadeOfAllSaid := fnWeightsMadeOfAll.proved
end Go.Proofs.YtaambkdiokbdgabGreat
