/- The law FnCommitteesChangeOfAll holds: for every input the call returns true, and each argument reads afterwards as it read before. Conditions: none. -/
import Derived.Test.YtaambkdiokbdgacGreatDoorCards
import Derived.Test.YtaambkdiokbdgacGreatDoorTie
import Derived.Test.YtaambkdiokbdgacGreatDoorGCommitteesChangeOfAllx3
import Derived.Test.YtaambkdiokbdgacGreatDoorGCommitteesChangeOfAllx4
import Derived.Test.YtaambkdiokbdgacGreatDoorGCommitteesChangeOfAllx1
import Derived.WalkKit
import Derived.ProofKit
import Derived.OpenShut
import Derived.ShutString
import Derived.ChangeOld
import Derived.Below
import Derived.SizedLaws
import Derived.Lib.SmallJoins
import Derived.Deep.DeepHandedRow
import Derived.Lib.LaidTab
import Derived.Stop.LaidErr
import Derived.Shelf.Vars
import Derived.LaidLaws
namespace Go.Proofs.YtaambkdiokbdgacGreatDoor.fnCommitteesChangeOfAll
open Go.ChangeShapes Go.WideShapes Go.ChangeAt Go.RowKit
open Go.ChangeMaps (open_string shut_string)
set_option linter.unusedVariables false
theorem own : ownKnob Tryz.prog.godebug = none := by kernel_rfl
theorem laidOut : laidOutB Tryz.prog = true := by kernel_rfl
theorem star : "*" ++ "errors.errorString" = "*errors.errorString" := by decide
theorem rowES (u : TypeId) (h : Tryz.prog.typeName? 3 u = some "*errors.errorString") : u = 159 :=
  typeName_ptr_named (nm := "errors.errorString") (by rw [star]; kernel_rfl) (by kernel_rfl) (by decide) u (by rw [star]; exact h)
theorem cellsT : Tryz.prog.cellsOf 161 = 1 := by kernel_rfl
theorem cellsS : Tryz.prog.cellsOf 9 = 1 := by kernel_rfl
noncomputable def low : Nat := (World.holding Tryz.prog default ⟨#[], #[], []⟩).heap.size
def lay (cs : Array Value) : Obj → Obj
  | .cells _ t frozen => .cells cs t frozen
  | o => o
/-- A world in which the listed tables hold what their initialisers lay: the witness. -/
noncomputable def laidWorld (os : Os) : World :=
  { World.holding Tryz.prog os ⟨#[], #[], []⟩ with heap := ((((((((World.holding Tryz.prog os ⟨#[.cells #[.string ⟨#[118, 97, 108, 117, 101, 32, 111, 117, 116, 32, 111, 102, 32, 114, 97, 110, 103, 101]⟩] 161, .cells #[.string ⟨#[105, 110, 118, 97, 108, 105, 100, 32, 115, 121, 110, 116, 97, 120]⟩] 161], #[], []⟩).heap.modify 4 (lay #[.int .u8 0, .int .u8 1, .int .u8 28, .int .u8 2, .int .u8 29, .int .u8 14, .int .u8 24, .int .u8 3, .int .u8 30, .int .u8 22, .int .u8 20, .int .u8 15, .int .u8 25, .int .u8 17, .int .u8 4, .int .u8 8, .int .u8 31, .int .u8 27, .int .u8 13, .int .u8 23, .int .u8 21, .int .u8 19, .int .u8 16, .int .u8 7, .int .u8 26, .int .u8 12, .int .u8 18, .int .u8 6, .int .u8 11, .int .u8 5, .int .u8 10, .int .u8 9])).modify 5 (lay #[.int .u8 0, .int .u8 1, .int .u8 56, .int .u8 2, .int .u8 57, .int .u8 49, .int .u8 28, .int .u8 3, .int .u8 61, .int .u8 58, .int .u8 42, .int .u8 50, .int .u8 38, .int .u8 29, .int .u8 17, .int .u8 4, .int .u8 62, .int .u8 47, .int .u8 59, .int .u8 36, .int .u8 45, .int .u8 43, .int .u8 51, .int .u8 22, .int .u8 53, .int .u8 39, .int .u8 33, .int .u8 30, .int .u8 24, .int .u8 18, .int .u8 12, .int .u8 5, .int .u8 63, .int .u8 55, .int .u8 48, .int .u8 27, .int .u8 60, .int .u8 41, .int .u8 37, .int .u8 16, .int .u8 46, .int .u8 35, .int .u8 44, .int .u8 21, .int .u8 52, .int .u8 32, .int .u8 23, .int .u8 11, .int .u8 54, .int .u8 26, .int .u8 40, .int .u8 15, .int .u8 34, .int .u8 20, .int .u8 31, .int .u8 10, .int .u8 25, .int .u8 14, .int .u8 19, .int .u8 9, .int .u8 13, .int .u8 8, .int .u8 7, .int .u8 6])).modify 1 (lay #[.int .u64 1, .int .u64 10, .int .u64 100, .int .u64 1000, .int .u64 10000, .int .u64 100000, .int .u64 1000000, .int .u64 10000000, .int .u64 100000000, .int .u64 1000000000, .int .u64 10000000000, .int .u64 100000000000, .int .u64 1000000000000, .int .u64 10000000000000, .int .u64 100000000000000, .int .u64 1000000000000000, .int .u64 10000000000000000, .int .u64 100000000000000000, .int .u64 1000000000000000000, .int .u64 10000000000000000000])).modify 7 (lay #[.int .u8 128, .int .u8 191, .int .u8 160, .int .u8 191, .int .u8 128, .int .u8 159, .int .u8 144, .int .u8 191, .int .u8 128, .int .u8 143, .int .u8 0, .int .u8 0, .int .u8 0, .int .u8 0, .int .u8 0, .int .u8 0, .int .u8 0, .int .u8 0, .int .u8 0, .int .u8 0, .int .u8 0, .int .u8 0, .int .u8 0, .int .u8 0, .int .u8 0, .int .u8 0, .int .u8 0, .int .u8 0, .int .u8 0, .int .u8 0, .int .u8 0, .int .u8 0])).modify 3 (lay #[.iface 159 (.pointer (some ⟨low, 0, none⟩))])).modify 2 (lay #[.iface 159 (.pointer (some ⟨low + 1, 0, none⟩))])).modify 6 (lay (Go.Pinned.utf8FirstZ.map fun (z : Nat) => Value.int .u8 (z : Int)).toArray)) }
theorem laid_met (os : Os) (args : Array Value) : laidMet Tryz.prog Rows.fnCommitteesChangeOfAllRow.laid ((laidWorld os).forCall (fun _ _ => 0) ⟨#[], args, []⟩).memory := laidMet_of_run' 8 (by kernel_rfl) (by kernel_rfl)
theorem witness_row (os : Os) {H : Type} (enc : TypeId × Value → H) : (OpenSpec.ofChange Rows.fnCommitteesChangeOfAllSpec).preRow enc Tryz.prog Tryz.f3 Rows.fnCommitteesChangeOfAllRow.domain false Rows.fnCommitteesChangeOfAllRow.laid ((laidWorld os).forCall (fun _ _ => 0) ⟨#[], #[.agg #[.int .i64 0, .slice none 0 0], .slice none 0 0, .agg #[.int .i64 0, .slice none 0 0], .int .i64 0, .agg #[.int .i64 0, .slice none 0 0], .agg #[.int .i64 0, .slice none 0 0], .agg #[.int .i64 0, .slice none 0 0], .string ByteArray.empty], []⟩).memory #[.agg #[.int .i64 0, .slice none 0 0], .slice none 0 0, .agg #[.int .i64 0, .slice none 0 0], .int .i64 0, .agg #[.int .i64 0, .slice none 0 0], .agg #[.int .i64 0, .slice none 0 0], .agg #[.int .i64 0, .slice none 0 0], .string ByteArray.empty] := by
  have hw : (DataW.whole enc Tryz.prog ((laidWorld os).forCall (fun _ _ => 0) ⟨#[], #[.agg #[.int .i64 0, .slice none 0 0], .slice none 0 0, .agg #[.int .i64 0, .slice none 0 0], .int .i64 0, .agg #[.int .i64 0, .slice none 0 0], .agg #[.int .i64 0, .slice none 0 0], .agg #[.int .i64 0, .slice none 0 0], .string ByteArray.empty], []⟩).memory Tryz.f3.params.toList Rows.fnCommitteesChangeOfAllSpec.vars false (#[.agg #[.int .i64 0, .slice none 0 0], .slice none 0 0, .agg #[.int .i64 0, .slice none 0 0], .int .i64 0, .agg #[.int .i64 0, .slice none 0 0], .agg #[.int .i64 0, .slice none 0 0], .agg #[.int .i64 0, .slice none 0 0], .string ByteArray.empty] : Array Value).toList 8).map (fun x => (x.1, x.2.1)) = some ([.agg [.lit (.int .i64 0), .nil], .nil, .agg [.lit (.int .i64 0), .nil], .lit (.int .i64 0), .agg [.lit (.int .i64 0), .nil], .agg [.lit (.int .i64 0), .nil], .agg [.lit (.int .i64 0), .nil], .lit (.string [])], []) := by kernel_rfl
  obtain ⟨⟨x1, x2, x3⟩, hx, hx1⟩ := Option.map_eq_some_iff.1 hw
  simp only [Prod.mk.injEq] at hx1
  obtain ⟨rfl, rfl⟩ := hx1
  exact OpenSpec.preRow_of_cond 8 hx (by kernel_rfl) (fun k hk => by cases hk) (by kernel_rfl) (laid_met os _)
set_option maxRecDepth 100000 in
theorem lifted (os : Os) (started : os.Started) (H : Type) (enc : TypeId × Value → H) (F : Stop.Interp) :
    ReturnsInHanded {} Tryz.checked os 3 .any ((OpenSpec.ofChange Rows.fnCommitteesChangeOfAllSpec).preRow enc Tryz.prog Tryz.f3 Rows.fnCommitteesChangeOfAllRow.domain false Rows.fnCommitteesChangeOfAllRow.laid) (((OpenSpec.ofChange Rows.fnCommitteesChangeOfAllSpec).at F).post enc Tryz.prog Tryz.f3 false true false false) := by
  refine returnsInHanded_of_row (C := Tryz.checked) (s := OpenSpec.ofChange Rows.fnCommitteesChangeOfAllSpec) own started (by kernel_rfl) Tryz.func3
    (witness_row_at (enc := enc) (C := Tryz.checked) false (laidWorld os) #[.agg #[.int .i64 0, .slice none 0 0], .slice none 0 0, .agg #[.int .i64 0, .slice none 0 0], .int .i64 0, .agg #[.int .i64 0, .slice none 0 0], .agg #[.int .i64 0, .slice none 0 0], .agg #[.int .i64 0, .slice none 0 0], .string ByteArray.empty] rfl (by kernel_rfl) (by kernel_rfl) (by kernel_rfl) (witness_row os enc)) ?_
  intro W base args ds gs before hval0 hW _ _ hsz0 hL hsh _
  have hsz : (DataW.weightsEach Tryz.prog (Tryz.f3.params.toList ++ (OpenSpec.ofChange Rows.fnCommitteesChangeOfAllSpec).bare.plain.varTypes Tryz.prog) (ds ++ gs)).all (· ≤ reachBytes) = true := hsz0
  have hval : ∀ (j : Nat) t v, Tryz.f3.params[j]? = some t → args[j]? = some v → Value.okWide Tryz.prog W .any base t v := hval0
  have hW' := hW
  obtain ⟨p, q, hA0, hV, rfl, hfz, hnd⟩ := hW
  have hA : DataW.TrodAll enc Tryz.prog W 0 (fun _ => true) true Tryz.f3.params.toList args.toList ds p := hA0
  rw [Tryz.params3] at hA hval hsz
  obtain ⟨v0, vs0, d0, ds0, p0, q0, hargs, rfl, rfl, h0, r0⟩ := trodAll_cons hA
  obtain ⟨v1, vs1, d1, ds1, p1, q1, rfl, rfl, rfl, h1, r1⟩ := trodAll_cons r0
  obtain ⟨v2, vs2, d2, ds2, p2, q2, rfl, rfl, rfl, h2, r2⟩ := trodAll_cons r1
  obtain ⟨v3, vs3, d3, ds3, p3, q3, rfl, rfl, rfl, h3, r3⟩ := trodAll_cons r2
  obtain ⟨v4, vs4, d4, ds4, p4, q4, rfl, rfl, rfl, h4, r4⟩ := trodAll_cons r3
  obtain ⟨v5, vs5, d5, ds5, p5, q5, rfl, rfl, rfl, h5, r5⟩ := trodAll_cons r4
  obtain ⟨v6, vs6, d6, ds6, p6, q6, rfl, rfl, rfl, h6, r6⟩ := trodAll_cons r5
  obtain ⟨v7, vs7, d7, ds7, p7, q7, rfl, rfl, rfl, h7, r7⟩ := trodAll_cons r6
  obtain ⟨rfl, rfl, rfl⟩ := trodAll_nil r7
  obtain rfl : args = #[v0, v1, v2, v3, v4, v5, v6, v7] := by cases args; simp_all
  obtain ⟨rfl, rfl⟩ := trodVars_none hV
  have k0 := h0
  have lt0 : ∀ x ∈ p0, x.block < W.heap.size := by obtain ⟨m, hm⟩ := k0; exact DataW.trod_lt m _ _ _ hm
  obtain ⟨e0_0, e0_1, y0_0, y0_1, m0, rfl, rfl, rfl, hy0_0, hy0_1⟩ := Go.Joins.open_agg2 Tryz.underlying24 (by kernel_rfl) (by kernel_rfl) (hval 0 24 v0 rfl rfl) h0
  obtain ⟨a0_0, ea0_0, ok0_0⟩ := (Go.Proofs.YtaambkdiokbdgacGreatDoorO.reads_int Tryz.underlying3) _ _ _ hy0_0
  obtain rfl : e0_0 = .int .i64 a0_0 := (List.cons.inj ea0_0).1
  obtain ⟨l0_1, ⟨A0_1, c0_1, ea0_1, hc0_1, hr0_1⟩, ok0_1⟩ := (Go.Proofs.YtaambkdiokbdgacGreatDoorO.reads_slice Tryz.underlying22 (by kernel_rfl) rfl (Go.Proofs.YtaambkdiokbdgacGreatDoorO.reads_int Tryz.underlying3)) _ _ _ hy0_1
  obtain rfl : e0_1 = .slice A0_1 l0_1.length c0_1 := (List.cons.inj ea0_1).1
  have k1 := h1
  have lt1 : ∀ x ∈ p1, x.block < W.heap.size := by obtain ⟨m, hm⟩ := k1; exact DataW.trod_lt m _ _ _ hm
  obtain ⟨A1, c1, l1, rfl, hc1, hr1, ok1⟩ := Go.Proofs.YtaambkdiokbdgacGreatDoorO.open_slice_arg Tryz.underlying22 (Go.Proofs.YtaambkdiokbdgacGreatDoorO.reads_slice Tryz.underlying22 (by kernel_rfl) rfl (Go.Proofs.YtaambkdiokbdgacGreatDoorO.reads_int Tryz.underlying3)) (hval 1 22 v1 rfl rfl) h1
  have k2 := h2
  have lt2 : ∀ x ∈ p2, x.block < W.heap.size := by obtain ⟨m, hm⟩ := k2; exact DataW.trod_lt m _ _ _ hm
  obtain ⟨e2_0, e2_1, y2_0, y2_1, m2, rfl, rfl, rfl, hy2_0, hy2_1⟩ := Go.Joins.open_agg2 Tryz.underlying24 (by kernel_rfl) (by kernel_rfl) (hval 2 24 v2 rfl rfl) h2
  obtain ⟨a2_0, ea2_0, ok2_0⟩ := (Go.Proofs.YtaambkdiokbdgacGreatDoorO.reads_int Tryz.underlying3) _ _ _ hy2_0
  obtain rfl : e2_0 = .int .i64 a2_0 := (List.cons.inj ea2_0).1
  obtain ⟨l2_1, ⟨A2_1, c2_1, ea2_1, hc2_1, hr2_1⟩, ok2_1⟩ := (Go.Proofs.YtaambkdiokbdgacGreatDoorO.reads_slice Tryz.underlying22 (by kernel_rfl) rfl (Go.Proofs.YtaambkdiokbdgacGreatDoorO.reads_int Tryz.underlying3)) _ _ _ hy2_1
  obtain rfl : e2_1 = .slice A2_1 l2_1.length c2_1 := (List.cons.inj ea2_1).1
  obtain ⟨a3, rfl, rfl, rfl, ok3⟩ := open_int Tryz.underlying3 (hval 3 3 v3 rfl rfl) h3
  have k4 := h4
  have lt4 : ∀ x ∈ p4, x.block < W.heap.size := by obtain ⟨m, hm⟩ := k4; exact DataW.trod_lt m _ _ _ hm
  obtain ⟨e4_0, e4_1, y4_0, y4_1, m4, rfl, rfl, rfl, hy4_0, hy4_1⟩ := Go.Joins.open_agg2 Tryz.underlying24 (by kernel_rfl) (by kernel_rfl) (hval 4 24 v4 rfl rfl) h4
  obtain ⟨a4_0, ea4_0, ok4_0⟩ := (Go.Proofs.YtaambkdiokbdgacGreatDoorO.reads_int Tryz.underlying3) _ _ _ hy4_0
  obtain rfl : e4_0 = .int .i64 a4_0 := (List.cons.inj ea4_0).1
  obtain ⟨l4_1, ⟨A4_1, c4_1, ea4_1, hc4_1, hr4_1⟩, ok4_1⟩ := (Go.Proofs.YtaambkdiokbdgacGreatDoorO.reads_slice Tryz.underlying22 (by kernel_rfl) rfl (Go.Proofs.YtaambkdiokbdgacGreatDoorO.reads_int Tryz.underlying3)) _ _ _ hy4_1
  obtain rfl : e4_1 = .slice A4_1 l4_1.length c4_1 := (List.cons.inj ea4_1).1
  have k5 := h5
  have lt5 : ∀ x ∈ p5, x.block < W.heap.size := by obtain ⟨m, hm⟩ := k5; exact DataW.trod_lt m _ _ _ hm
  obtain ⟨e5_0, e5_1, y5_0, y5_1, m5, rfl, rfl, rfl, hy5_0, hy5_1⟩ := Go.Joins.open_agg2 Tryz.underlying24 (by kernel_rfl) (by kernel_rfl) (hval 5 24 v5 rfl rfl) h5
  obtain ⟨a5_0, ea5_0, ok5_0⟩ := (Go.Proofs.YtaambkdiokbdgacGreatDoorO.reads_int Tryz.underlying3) _ _ _ hy5_0
  obtain rfl : e5_0 = .int .i64 a5_0 := (List.cons.inj ea5_0).1
  obtain ⟨l5_1, ⟨A5_1, c5_1, ea5_1, hc5_1, hr5_1⟩, ok5_1⟩ := (Go.Proofs.YtaambkdiokbdgacGreatDoorO.reads_slice Tryz.underlying22 (by kernel_rfl) rfl (Go.Proofs.YtaambkdiokbdgacGreatDoorO.reads_int Tryz.underlying3)) _ _ _ hy5_1
  obtain rfl : e5_1 = .slice A5_1 l5_1.length c5_1 := (List.cons.inj ea5_1).1
  have k6 := h6
  have lt6 : ∀ x ∈ p6, x.block < W.heap.size := by obtain ⟨m, hm⟩ := k6; exact DataW.trod_lt m _ _ _ hm
  obtain ⟨e6_0, e6_1, y6_0, y6_1, m6, rfl, rfl, rfl, hy6_0, hy6_1⟩ := Go.Joins.open_agg2 Tryz.underlying24 (by kernel_rfl) (by kernel_rfl) (hval 6 24 v6 rfl rfl) h6
  obtain ⟨a6_0, ea6_0, ok6_0⟩ := (Go.Proofs.YtaambkdiokbdgacGreatDoorO.reads_int Tryz.underlying3) _ _ _ hy6_0
  obtain rfl : e6_0 = .int .i64 a6_0 := (List.cons.inj ea6_0).1
  obtain ⟨l6_1, ⟨A6_1, c6_1, ea6_1, hc6_1, hr6_1⟩, ok6_1⟩ := (Go.Proofs.YtaambkdiokbdgacGreatDoorO.reads_slice Tryz.underlying22 (by kernel_rfl) rfl (Go.Proofs.YtaambkdiokbdgacGreatDoorO.reads_int Tryz.underlying3)) _ _ _ hy6_1
  obtain rfl : e6_1 = .slice A6_1 l6_1.length c6_1 := (List.cons.inj ea6_1).1
  obtain ⟨a7, rfl, rfl, rfl, y7⟩ := open_string Tryz.underlying9 (hval 7 9 v7 rfl rfl) h7
  have ok7 : a7.size ≤ 140737488351232 := by
    have z := sized_string hsz (j := 7) (t := 9) rfl rfl
    rw [Array.length_toList] at z
    exact z
  clear hA0 hval0 hsz0 hsz
  obtain ⟨k, h_⟩ := Q.laws_FnCommitteesChangeOfAll.law a0_0 l0_1 l1 a2_0 l2_1 a3 a4_0 l4_1 a5_0 l5_1 a6_0 l6_1 a7 ok0_0 ok0_1 ok1 ok2_0 ok2_1 ok3 ok4_0 ok4_1 ok5_0 ok5_1 ok6_0 ok6_1 ok7
  have h := h_ k (Nat.le_refl _)
  have hP_ : Lib.TabIs Tryz.prog W "internal/strconv.uint64pow10" .u64 Lib.pow10Tab := Lib.tabIs_of_head (show Tryz.prog.globalNamed "internal/strconv.uint64pow10" = some 1 by kernel_rfl) (show (Tryz.prog.globals[1]?).map (·.type) = some 135 by kernel_rfl) Tryz.underlying135 Tryz.underlying79 (by kernel_rfl) (by kernel_rfl) hL.tail.tail
  obtain ⟨aR_, sR_, hvR_, _, _, _⟩ := laid_sentinel hL.tail.tail.tail.tail (show Tryz.prog.globalNamed "strconv.ErrRange" = some 3 by kernel_rfl) (show (Tryz.prog.globals[3]?).map (·.type) = some 93 by kernel_rfl) Tryz.underlying93 rowES Tryz.underlying159 Tryz.underlying161 rfl rfl Tryz.underlying9 cellsT cellsS
  have hcR_ : W.cell? ⟨3, 0, none⟩ = some (.iface 159 (.pointer (some aR_))) := by simpa using World.var?_cell (show Tryz.prog.globalNamed "strconv.ErrRange" = some 3 by kernel_rfl) hvR_ 0
  obtain ⟨aS_, sS_, hvS_, _, _, _⟩ := laid_sentinel hL.tail.tail.tail.tail.tail (show Tryz.prog.globalNamed "strconv.ErrSyntax" = some 2 by kernel_rfl) (show (Tryz.prog.globals[2]?).map (·.type) = some 93 by kernel_rfl) Tryz.underlying93 rowES Tryz.underlying159 Tryz.underlying161 rfl rfl Tryz.underlying9 cellsT cellsS
  have hcS_ : W.cell? ⟨2, 0, none⟩ = some (.iface 159 (.pointer (some aS_))) := by simpa using World.var?_cell (show Tryz.prog.globalNamed "strconv.ErrSyntax" = some 2 by kernel_rfl) hvS_ 0
  obtain ⟨mx_, hmx_⟩ : ∃ m, W.cell? ⟨0, 0, none⟩ = some (.int .i64 m) := Go.Proofs.cell_of_shapedOpen_int (t := 3) (zero := #[.int .i64 0]) hsh (of_decide_eq_true (by kernel_rfl)) (by kernel_rfl) rfl (by kernel_rfl) (by kernel_rfl) Tryz.underlying3
  have hZ : Go.Proofs.YtaambkdiokbdgacGreatDoorV.Wz W := ⟨⟨mx_, hmx_⟩, ⟨_, _, hcS_⟩, ⟨_, _, hcR_⟩, hP_⟩
  refine (Q.laws_FnCommitteesChangeOfAll.calls k a0_0 A0_1 c0_1 l0_1 A1 c1 l1 a2_0 A2_1 c2_1 l2_1 a3 a4_0 A4_1 c4_1 l4_1 a5_0 A5_1 c5_1 l5_1 a6_0 A6_1 c6_1 l6_1 a7 true W hr0_1 hc0_1 hr1 hc1 hr2_1 hc2_1 hr4_1 hc4_1 hr5_1 hc5_1 hr6_1 hc6_1 h hZ).mono fun e W' ⟨he, bel⟩ => ?_
  subst he
  exact ⟨_, rfl, _, _, _, [], _, [], hW', trodAll_mk1 (shut_bool Tryz.underlying4 _), (trodAll_cons_mk (Below.trod laidOut (by kernel_rfl) (of_decide_eq_true (by kernel_rfl)) k0 bel lt0) (trodAll_cons_mk (Below.trod laidOut (by kernel_rfl) (of_decide_eq_true (by kernel_rfl)) k1 bel lt1) (trodAll_cons_mk (Below.trod laidOut (by kernel_rfl) (of_decide_eq_true (by kernel_rfl)) k2 bel lt2) (trodAll_cons_mk (shut_int Tryz.underlying3 ok3) (trodAll_cons_mk (Below.trod laidOut (by kernel_rfl) (of_decide_eq_true (by kernel_rfl)) k4 bel lt4) (trodAll_cons_mk (Below.trod laidOut (by kernel_rfl) (of_decide_eq_true (by kernel_rfl)) k5 bel lt5) (trodAll_cons_mk (Below.trod laidOut (by kernel_rfl) (of_decide_eq_true (by kernel_rfl)) k6 bel lt6) (trodAll_cons_mk (shut_string Tryz.underlying9 y7) trodAll_mk0)))))))), rfl, bel.frame _, fun h => by cases h⟩
theorem over : Rows.fnCommitteesChangeOfAllRow.holds Tryz.pinned (OpenSpec.ofChange Rows.fnCommitteesChangeOfAllSpec) :=
  OpenClaim.holds_of_cond 3 Tryz.f3 rfl rfl rfl rfl rfl rfl rfl ⟨rfl, rfl, rfl, rfl, rfl⟩ rfl rfl rfl rfl rfl (by kernel_rfl) Tryz.func3 (by kernel_rfl)
    (of_decide_eq_true (by kernel_rfl)) (by unfold Func.isWrapper; first | (rw [if_pos (by decide +kernel)]; kernel_rfl) | (rw [if_neg (by decide +kernel)]; exact ⟨rfl, rfl⟩))
    (fun os started H enc _ F0 => by rw [OpenClaim.pre_eq_preRow]; exact lifted os started H enc F0)
theorem said : Rows.FnCommitteesChangeOfAllSaid := over
/-- No parameter wants a stand-in; what the card asks of the program's own looks. -/
theorem plain (f : FuncId) (fn : Func) (hf : Tryz.pinned.checked.prog.funcNamed "loop.example/g01275/laws.FnCommitteesChangeOfAll" = some f) (hfn : Tryz.pinned.checked.prog.funcs[f]? = some fn) :
    true = Tryz.pinned.checked.prog.looks [] ∧ ∀ (j : Nat) t, fn.params[j]? = some t → Tryz.pinned.checked.prog.wantsStandIn t = false := by
  obtain rfl : f = 3 := Option.some.inj ((show Tryz.prog.funcNamed "loop.example/g01275/laws.FnCommitteesChangeOfAll" = some 3 by kernel_rfl).symm.trans hf) |>.symm
  obtain rfl : fn = Tryz.f3 := (Option.some.inj (Tryz.func3.symm.trans hfn)).symm
  refine ⟨by kernel_rfl, fun j t ht => ?_⟩
  rw [Tryz.params3] at ht
  have hm := Array.mem_of_getElem? ht
  simp only [List.mem_toArray, List.mem_cons, List.mem_nil_iff, or_false] at hm
  rcases hm with rfl | rfl | rfl | rfl | rfl | rfl | rfl | rfl
  · exact (show Tryz.prog.wantsStandIn 24 = false by kernel_rfl)
  · exact (show Tryz.prog.wantsStandIn 22 = false by kernel_rfl)
  · exact (show Tryz.prog.wantsStandIn 24 = false by kernel_rfl)
  · exact (show Tryz.prog.wantsStandIn 3 = false by kernel_rfl)
  · exact (show Tryz.prog.wantsStandIn 24 = false by kernel_rfl)
  · exact (show Tryz.prog.wantsStandIn 24 = false by kernel_rfl)
  · exact (show Tryz.prog.wantsStandIn 24 = false by kernel_rfl)
  · exact (show Tryz.prog.wantsStandIn 9 = false by kernel_rfl)
theorem proved : Rows.FnCommitteesChangeOfAllCardSaid :=
  Claim7.holds_tied_plain_at .later [] _ _ _ _ said (fun _ h => by cases h) (by kernel_rfl) (fun _ h => by cases h) fnCommitteesChangeOfAll_row_tie rfl ⟨rfl, rfl⟩ (by kernel_rfl) rfl plain (by kernel_rfl)
#print axioms proved
end Go.Proofs.YtaambkdiokbdgacGreatDoor.fnCommitteesChangeOfAll
namespace Go.Proofs.YtaambkdiokbdgacGreatDoor
/-- The row, under a short name, for the claim. -/
theorem fnCommitteesChangeOfAll_holds : Rows.FnCommitteesChangeOfAllCardSaid := fnCommitteesChangeOfAll.proved
end Go.Proofs.YtaambkdiokbdgacGreatDoor
