/- The law FnSwingsToldOfAll holds: for every input the call returns true, and each argument reads afterwards as it read before. Conditions: none. -/
import Derived.Test.YtamfpkefnhcngaaGreatRows
import Derived.Test.YtamfpkefnhcngaaGreatGSwingsToldOfAllx4
import Derived.Test.YtamfpkefnhcngaaGreatGSwingsToldOfAllx5
import Derived.Test.YtamfpkefnhcngaaGreatGSwingsToldOfAllx1
import Derived.WalkKit
import Derived.ProofKit
import Derived.OpenShut
import Derived.ShutString
import Derived.ChangeOld
import Derived.Below
import Derived.SizedLaws
import Derived.Lib.SmallJoins
namespace Go.Proofs.YtamfpkefnhcngaaGreat.fnSwingsToldOfAll
open Go.ChangeShapes Go.WideShapes Go.ChangeAt Go.RowKit
open Go.ChangeMaps (open_string shut_string)
set_option linter.unusedVariables false
theorem own : ownKnob Tryz.prog.godebug = none := by kernel_rfl
theorem laidOut : laidOutB Tryz.prog = true := by kernel_rfl
set_option maxRecDepth 100000 in
theorem lifted (os : Os) (started : os.Started) (H : Type) (enc : TypeId × Value → H) :
    ReturnsInHanded {} Tryz.checked os 5 .any (Rows.fnSwingsToldOfAllSpec.pre6 enc Tryz.prog Tryz.f5 Rows.fnSwingsToldOfAllRow.domain false) (Rows.fnSwingsToldOfAllSpec.post enc Tryz.prog Tryz.f5 false true false false) := by
  refine returnsInHanded_of_change_sized (C := Tryz.checked) own started (by kernel_rfl) Tryz.func5
    (ChangeSpec.witness6 (enc := enc) (C := Tryz.checked) false ⟨#[], #[.agg #[.int .i64 0, .slice none 0 0], .agg #[.int .i64 0, .slice none 0 0], .int .i64 0], []⟩ 8 (by kernel_rfl) (by kernel_rfl) (by kernel_rfl) (by kernel_rfl)) ?_
  intro W base args ds gs before hval0 hW hcnd hsz0 _
  have hsz : (DataW.weightsEach Tryz.prog (Tryz.f5.params.toList ++ Rows.fnSwingsToldOfAllSpec.plain.varTypes Tryz.prog) (ds ++ gs)).all (· ≤ reachBytes) = true := hsz0
  have hval : ∀ (j : Nat) t v, Tryz.f5.params[j]? = some t → args[j]? = some v → Value.okWide Tryz.prog W .any base t v := hval0
  have hW' := hW
  obtain ⟨p, q, hA0, hV, rfl, hfz, hnd⟩ := hW
  have hA : DataW.TrodAll enc Tryz.prog W 0 (fun _ => true) true Tryz.f5.params.toList args.toList ds p := hA0
  rw [Tryz.params5] at hA hval hsz
  obtain ⟨v0, vs0, d0, ds0, p0, q0, hargs, rfl, rfl, h0, r0⟩ := trodAll_cons hA
  obtain ⟨v1, vs1, d1, ds1, p1, q1, rfl, rfl, rfl, h1, r1⟩ := trodAll_cons r0
  obtain ⟨v2, vs2, d2, ds2, p2, q2, rfl, rfl, rfl, h2, r2⟩ := trodAll_cons r1
  obtain ⟨rfl, rfl, rfl⟩ := trodAll_nil r2
  obtain rfl : args = #[v0, v1, v2] := by cases args; simp_all
  obtain ⟨rfl, rfl⟩ := trodVars_none hV
  have k0 := h0
  have lt0 : ∀ x ∈ p0, x.block < W.heap.size := by obtain ⟨m, hm⟩ := k0; exact DataW.trod_lt m _ _ _ hm
  obtain ⟨e0_0, e0_1, y0_0, y0_1, m0, rfl, rfl, rfl, hy0_0, hy0_1⟩ := Go.Joins.open_agg2 Tryz.underlying26 (by kernel_rfl) (by kernel_rfl) (hval 0 26 v0 rfl rfl) h0
  obtain ⟨a0_0, ea0_0, ok0_0⟩ := (Go.Proofs.YtamfpkefnhcngaaGreatO.reads_int Tryz.underlying3) _ _ _ hy0_0
  obtain rfl : e0_0 = .int .i64 a0_0 := (List.cons.inj ea0_0).1
  obtain ⟨l0_1, ⟨A0_1, c0_1, ea0_1, hc0_1, hr0_1⟩, ok0_1⟩ := (Go.Proofs.YtamfpkefnhcngaaGreatO.reads_slice Tryz.underlying24 (by kernel_rfl) rfl (Go.Proofs.YtamfpkefnhcngaaGreatO.reads_int Tryz.underlying3)) _ _ _ hy0_1
  obtain rfl : e0_1 = .slice A0_1 l0_1.length c0_1 := (List.cons.inj ea0_1).1
  have k1 := h1
  have lt1 : ∀ x ∈ p1, x.block < W.heap.size := by obtain ⟨m, hm⟩ := k1; exact DataW.trod_lt m _ _ _ hm
  obtain ⟨e1_0, e1_1, y1_0, y1_1, m1, rfl, rfl, rfl, hy1_0, hy1_1⟩ := Go.Joins.open_agg2 Tryz.underlying26 (by kernel_rfl) (by kernel_rfl) (hval 1 26 v1 rfl rfl) h1
  obtain ⟨a1_0, ea1_0, ok1_0⟩ := (Go.Proofs.YtamfpkefnhcngaaGreatO.reads_int Tryz.underlying3) _ _ _ hy1_0
  obtain rfl : e1_0 = .int .i64 a1_0 := (List.cons.inj ea1_0).1
  obtain ⟨l1_1, ⟨A1_1, c1_1, ea1_1, hc1_1, hr1_1⟩, ok1_1⟩ := (Go.Proofs.YtamfpkefnhcngaaGreatO.reads_slice Tryz.underlying24 (by kernel_rfl) rfl (Go.Proofs.YtamfpkefnhcngaaGreatO.reads_int Tryz.underlying3)) _ _ _ hy1_1
  obtain rfl : e1_1 = .slice A1_1 l1_1.length c1_1 := (List.cons.inj ea1_1).1
  obtain ⟨a2, rfl, rfl, rfl, ok2⟩ := open_int Tryz.underlying3 (hval 2 3 v2 rfl rfl) h2
  clear hA0 hval0 hsz0 hsz
  obtain ⟨k, h_⟩ := Q.laws_FnSwingsToldOfAll.law a0_0 l0_1 a1_0 l1_1 a2 ok0_0 ok0_1 ok1_0 ok1_1 ok2
  have h := h_ k (Nat.le_refl _)
  refine (Q.laws_FnSwingsToldOfAll.calls k a0_0 A0_1 c0_1 l0_1 a1_0 A1_1 c1_1 l1_1 a2 true W hr0_1 hc0_1 hr1_1 hc1_1 h).mono fun e W' ⟨he, bel⟩ => ?_
  subst he
  exact ⟨_, rfl, _, _, _, [], _, [], hW', trodAll_mk1 (shut_bool Tryz.underlying4 _), (trodAll_cons_mk (Below.trod laidOut (by kernel_rfl) (of_decide_eq_true (by kernel_rfl)) k0 bel lt0) (trodAll_cons_mk (Below.trod laidOut (by kernel_rfl) (of_decide_eq_true (by kernel_rfl)) k1 bel lt1) (trodAll_cons_mk (shut_int Tryz.underlying3 ok2) trodAll_mk0))), rfl, bel.frame _, fun h => by cases h⟩
theorem over : Rows.fnSwingsToldOfAllRow.holds Tryz.pinned (OpenSpec.ofChange Rows.fnSwingsToldOfAllSpec) :=
  OpenClaim.holds_of_wide 5 Tryz.f5 rfl rfl rfl rfl rfl rfl rfl ⟨rfl, rfl, rfl, rfl, rfl⟩ rfl rfl rfl rfl rfl (by kernel_rfl) Tryz.func5 (by kernel_rfl)
    (of_decide_eq_true (by kernel_rfl)) (by unfold Func.isWrapper; first | (rw [if_pos (by decide +kernel)]; kernel_rfl) | (rw [if_neg (by decide +kernel)]; exact ⟨rfl, rfl⟩))
    (fun os started H enc _ => lifted os started H enc)
theorem proved : Rows.FnSwingsToldOfAllSaid := over
#print axioms proved
end Go.Proofs.YtamfpkefnhcngaaGreat.fnSwingsToldOfAll
namespace Go.Proofs.YtamfpkefnhcngaaGreat
/-- The row, under a short name, for the claim. -/
theorem fnSwingsToldOfAll_holds : Rows.FnSwingsToldOfAllSaid := fnSwingsToldOfAll.proved
end Go.Proofs.YtamfpkefnhcngaaGreat
