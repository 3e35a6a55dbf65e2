/-
  No cell of these rows narrows 'for every input' (looked for: loops, veiled, ifaces, maps, wideKeys, modest, calm, conditions, laid).
  DERIVED. THE GIVEN ROWS OF THIS SEAT. 6 by the template 'for every input the law returns true; each argument reads behind the call as it read before'; 0 by the template 'total and deterministic' (their statements: YtmhcejaljnibhaaTotals.lean).
  GIVEN WITH THE SEED: the statements are not yours to turn. If you find one false, say at which input.
  Laid BY PROGRAM, IN A SANDBOX (cutbox-rows.mjs): the forced cells as the released guide's own fill.sh prints them over the translation 231d326134d940c3… (all of the seat's roots in one cut). By AI agents, Wed Nov 11 2026. No macro, syntax, notation, axiom, sorry.
-/
import Derived.Test.YtmhcejaljnibhaaChecked
import GoSem.Claim
import GoSem.ClaimJoined
import GoSem.ClaimMapViews
import Derived.JoinedTies
import Derived.KernelRfl
namespace Go.Proofs.Ytmhcejaljnibhaa
/- THE CELL 'sum', in the pinned program and in every row, IS THE sha256 OF THE DUMP (.gsa) THAT YtmhcejaljnibhaaProg.lean LOADS. Nothing in Lean hashes anything: it is a label: what it is worth is what the hold of that sum in a sandbox is worth. -/
noncomputable def Try.pinned : Pinned := { name := "ytmhcejaljnibhaa", sum := "231d326134d940c34feceb06a07861361fb3f56d37163b83df5ab79ec0425316", checked := Try.checked }
namespace Rows
def none {H : Type} : Left H := { results := [], args := [] }

/-- 'laws.FnExactEvenCommittee': WHATEVER THE INPUT: true; the input reads as it did. -/
def fnExactEvenCommitteeSpec : ChangeSpec := { name := "fnExactEvenCommittee", fn := fun _ => fun
  | [d1, d2] => { results := [.lit (.bool true)], args := [d1, d2] }
  | _ => none }
def fnExactEvenCommitteeRow : OpenClaim := { program := "ytmhcejaljnibhaa", sum := "231d326134d940c34feceb06a07861361fb3f56d37163b83df5ab79ec0425316", func := "loop.example/g01275/laws.FnExactEvenCommittee", spec := "fnExactEvenCommittee", apart := false }
def FnExactEvenCommitteeSaid : Prop := fnExactEvenCommitteeRow.holds Try.pinned (OpenSpec.ofChange fnExactEvenCommitteeSpec)

/-- ITS FALSE NEIGHBOUR: 'it returns false'. Refute it at one input. -/
def fnExactEvenCommitteeWrong : ChangeSpec := { name := "fnExactEvenCommittee", fn := fun _ => fun
  | [d1, d2] => { results := [.lit (.bool false)], args := [d1, d2] }
  | _ => none }
def FnExactEvenCommitteeWrongFalsely : Prop := fnExactEvenCommitteeRow.holds Try.pinned (OpenSpec.ofChange fnExactEvenCommitteeWrong)

/-- 'laws.FnExactTimesCommittee': WHATEVER THE INPUT: true; the input reads as it did. -/
def fnExactTimesCommitteeSpec : ChangeSpec := { name := "fnExactTimesCommittee", fn := fun _ => fun
  | [d1, d2] => { results := [.lit (.bool true)], args := [d1, d2] }
  | _ => none }
def fnExactTimesCommitteeRow : OpenClaim := { program := "ytmhcejaljnibhaa", sum := "231d326134d940c34feceb06a07861361fb3f56d37163b83df5ab79ec0425316", func := "loop.example/g01275/laws.FnExactTimesCommittee", spec := "fnExactTimesCommittee", unfollowed := true, recurses := true, apart := false }
def FnExactTimesCommitteeSaid : Prop := fnExactTimesCommitteeRow.holds Try.pinned (OpenSpec.ofChange fnExactTimesCommitteeSpec)

/-- ITS FALSE NEIGHBOUR: 'it returns false'. Refute it at one input. -/
def fnExactTimesCommitteeWrong : ChangeSpec := { name := "fnExactTimesCommittee", fn := fun _ => fun
  | [d1, d2] => { results := [.lit (.bool false)], args := [d1, d2] }
  | _ => none }
def FnExactTimesCommitteeWrongFalsely : Prop := fnExactTimesCommitteeRow.holds Try.pinned (OpenSpec.ofChange fnExactTimesCommitteeWrong)

/-- 'laws.FnExactAddDummy': WHATEVER THE INPUT: true; the input reads as it did. -/
def fnExactAddDummySpec : ChangeSpec := { name := "fnExactAddDummy", fn := fun _ => fun
  | [d] => { results := [.lit (.bool true)], args := [d] }
  | _ => none }
def fnExactAddDummyRow : OpenClaim := { program := "ytmhcejaljnibhaa", sum := "231d326134d940c34feceb06a07861361fb3f56d37163b83df5ab79ec0425316", func := "loop.example/g01275/laws.FnExactAddDummy", spec := "fnExactAddDummy", unfollowed := true, recurses := true, apart := false }
def FnExactAddDummySaid : Prop := fnExactAddDummyRow.holds Try.pinned (OpenSpec.ofChange fnExactAddDummySpec)

/-- ITS FALSE NEIGHBOUR: 'it returns false'. Refute it at one input. -/
def fnExactAddDummyWrong : ChangeSpec := { name := "fnExactAddDummy", fn := fun _ => fun
  | [d] => { results := [.lit (.bool false)], args := [d] }
  | _ => none }
def FnExactAddDummyWrongFalsely : Prop := fnExactAddDummyRow.holds Try.pinned (OpenSpec.ofChange fnExactAddDummyWrong)

/-- 'laws.FnExactAddVeto': WHATEVER THE INPUT: true; the input reads as it did. -/
def fnExactAddVetoSpec : ChangeSpec := { name := "fnExactAddVeto", fn := fun _ => fun
  | [d] => { results := [.lit (.bool true)], args := [d] }
  | _ => none }
def fnExactAddVetoRow : OpenClaim := { program := "ytmhcejaljnibhaa", sum := "231d326134d940c34feceb06a07861361fb3f56d37163b83df5ab79ec0425316", func := "loop.example/g01275/laws.FnExactAddVeto", spec := "fnExactAddVeto", unfollowed := true, recurses := true, apart := false }
def FnExactAddVetoSaid : Prop := fnExactAddVetoRow.holds Try.pinned (OpenSpec.ofChange fnExactAddVetoSpec)

/-- ITS FALSE NEIGHBOUR: 'it returns false'. Refute it at one input. -/
def fnExactAddVetoWrong : ChangeSpec := { name := "fnExactAddVeto", fn := fun _ => fun
  | [d] => { results := [.lit (.bool false)], args := [d] }
  | _ => none }
def FnExactAddVetoWrongFalsely : Prop := fnExactAddVetoRow.holds Try.pinned (OpenSpec.ofChange fnExactAddVetoWrong)

/-- 'laws.FnExactSpareOf': WHATEVER THE INPUT: true; the input reads as it did. -/
def fnExactSpareOfSpec : ChangeSpec := { name := "fnExactSpareOf", fn := fun _ => fun
  | [d] => { results := [.lit (.bool true)], args := [d] }
  | _ => none }
def fnExactSpareOfRow : OpenClaim := { program := "ytmhcejaljnibhaa", sum := "231d326134d940c34feceb06a07861361fb3f56d37163b83df5ab79ec0425316", func := "loop.example/g01275/laws.FnExactSpareOf", spec := "fnExactSpareOf", unfollowed := true, recurses := true, apart := false }
def FnExactSpareOfSaid : Prop := fnExactSpareOfRow.holds Try.pinned (OpenSpec.ofChange fnExactSpareOfSpec)

/-- ITS FALSE NEIGHBOUR: 'it returns false'. Refute it at one input. -/
def fnExactSpareOfWrong : ChangeSpec := { name := "fnExactSpareOf", fn := fun _ => fun
  | [d] => { results := [.lit (.bool false)], args := [d] }
  | _ => none }
def FnExactSpareOfWrongFalsely : Prop := fnExactSpareOfRow.holds Try.pinned (OpenSpec.ofChange fnExactSpareOfWrong)

/-- 'laws.FnExactLowerWeights': WHATEVER THE INPUT: true; the input reads as it did. -/
def fnExactLowerWeightsSpec : ChangeSpec := { name := "fnExactLowerWeights", fn := fun _ => fun
  | [d] => { results := [.lit (.bool true)], args := [d] }
  | _ => none }
def fnExactLowerWeightsRow : OpenClaim := { program := "ytmhcejaljnibhaa", sum := "231d326134d940c34feceb06a07861361fb3f56d37163b83df5ab79ec0425316", func := "loop.example/g01275/laws.FnExactLowerWeights", spec := "fnExactLowerWeights", unfollowed := true, recurses := true, apart := false }
def FnExactLowerWeightsSaid : Prop := fnExactLowerWeightsRow.holds Try.pinned (OpenSpec.ofChange fnExactLowerWeightsSpec)

/-- ITS FALSE NEIGHBOUR: 'it returns false'. Refute it at one input. -/
def fnExactLowerWeightsWrong : ChangeSpec := { name := "fnExactLowerWeights", fn := fun _ => fun
  | [d] => { results := [.lit (.bool false)], args := [d] }
  | _ => none }
def FnExactLowerWeightsWrongFalsely : Prop := fnExactLowerWeightsRow.holds Try.pinned (OpenSpec.ofChange fnExactLowerWeightsWrong)

/- THE SECOND FORM. 'bulk': how many values and letters a reading holds, each counted each time it is reached (what is shared counts as often as it is met; a slice's spare places count too). A statement '..UptoSaid' is the law's where the arguments, and the package variables that the reading takes, are together of bulk at most 1048576: NARROWER than '..Said'. Prove '..Said' where nothing that the law and all that it calls make is longer than what came in: it says more and counts as full. Else prove '..UptoSaid'. A law counts once. -/
mutual
def uptoBulk {H : Type} : DataW H → Nat
  | .lit (.string bytes) => bytes.length + 1
  | .lit _ => 1
  | .nil => 1
  | .ptr d => uptoBulk d + 1
  | .slice elems spare => uptoBulkAll elems + uptoBulkAll spare + 1
  | .agg parts => uptoBulkAll parts + 1
  | .iface _ d => uptoBulk d + 1
  | .map entries => uptoBulkEntries entries + 1
  | .held _ => 1
def uptoBulkAll {H : Type} : List (DataW H) → Nat
  | [] => 0
  | d :: r => uptoBulk d + uptoBulkAll r
def uptoBulkEntries {H : Type} : List (Lit × DataW H) → Nat
  | [] => 0
  | x :: r => uptoBulkEntry x + uptoBulkEntries r
def uptoBulkEntry {H : Type} : Lit × DataW H → Nat
  | (.string bytes, d) => bytes.length + uptoBulk d + 1
  | (_, d) => uptoBulk d + 1
 end
def uptoSmall : (H : Type) → List (DataW H) → Bool := fun _ ds => decide (uptoBulkAll ds ≤ 1048576)
def OpenSpec.upto (s : _root_.Go.ChangeSpec) : _root_.Go.OpenSpec := { _root_.Go.OpenSpec.ofChange s with cond := some uptoSmall }

/-- 'laws.FnExactEvenCommittee', WHERE WHAT IT READS IS OF BULK AT MOST 1048576: true; the input reads as it did. -/
def fnExactEvenCommitteeUptoRow : OpenClaim := { program := "ytmhcejaljnibhaa", sum := "231d326134d940c34feceb06a07861361fb3f56d37163b83df5ab79ec0425316", func := "loop.example/g01275/laws.FnExactEvenCommittee", spec := "fnExactEvenCommittee", apart := false, narrowed := true }
def FnExactEvenCommitteeUptoSaid : Prop := fnExactEvenCommitteeUptoRow.holds Try.pinned (OpenSpec.upto fnExactEvenCommitteeSpec)

/-- 'laws.FnExactTimesCommittee', WHERE WHAT IT READS IS OF BULK AT MOST 1048576: true; the input reads as it did. -/
def fnExactTimesCommitteeUptoRow : OpenClaim := { program := "ytmhcejaljnibhaa", sum := "231d326134d940c34feceb06a07861361fb3f56d37163b83df5ab79ec0425316", func := "loop.example/g01275/laws.FnExactTimesCommittee", spec := "fnExactTimesCommittee", unfollowed := true, recurses := true, apart := false, narrowed := true }
def FnExactTimesCommitteeUptoSaid : Prop := fnExactTimesCommitteeUptoRow.holds Try.pinned (OpenSpec.upto fnExactTimesCommitteeSpec)

/-- 'laws.FnExactAddDummy', WHERE WHAT IT READS IS OF BULK AT MOST 1048576: true; the input reads as it did. -/
def fnExactAddDummyUptoRow : OpenClaim := { program := "ytmhcejaljnibhaa", sum := "231d326134d940c34feceb06a07861361fb3f56d37163b83df5ab79ec0425316", func := "loop.example/g01275/laws.FnExactAddDummy", spec := "fnExactAddDummy", unfollowed := true, recurses := true, apart := false, narrowed := true }
def FnExactAddDummyUptoSaid : Prop := fnExactAddDummyUptoRow.holds Try.pinned (OpenSpec.upto fnExactAddDummySpec)

/-- 'laws.FnExactAddVeto', WHERE WHAT IT READS IS OF BULK AT MOST 1048576: true; the input reads as it did. -/
def fnExactAddVetoUptoRow : OpenClaim := { program := "ytmhcejaljnibhaa", sum := "231d326134d940c34feceb06a07861361fb3f56d37163b83df5ab79ec0425316", func := "loop.example/g01275/laws.FnExactAddVeto", spec := "fnExactAddVeto", unfollowed := true, recurses := true, apart := false, narrowed := true }
def FnExactAddVetoUptoSaid : Prop := fnExactAddVetoUptoRow.holds Try.pinned (OpenSpec.upto fnExactAddVetoSpec)

/-- 'laws.FnExactSpareOf', WHERE WHAT IT READS IS OF BULK AT MOST 1048576: true; the input reads as it did. -/
def fnExactSpareOfUptoRow : OpenClaim := { program := "ytmhcejaljnibhaa", sum := "231d326134d940c34feceb06a07861361fb3f56d37163b83df5ab79ec0425316", func := "loop.example/g01275/laws.FnExactSpareOf", spec := "fnExactSpareOf", unfollowed := true, recurses := true, apart := false, narrowed := true }
def FnExactSpareOfUptoSaid : Prop := fnExactSpareOfUptoRow.holds Try.pinned (OpenSpec.upto fnExactSpareOfSpec)

/-- 'laws.FnExactLowerWeights', WHERE WHAT IT READS IS OF BULK AT MOST 1048576: true; the input reads as it did. -/
def fnExactLowerWeightsUptoRow : OpenClaim := { program := "ytmhcejaljnibhaa", sum := "231d326134d940c34feceb06a07861361fb3f56d37163b83df5ab79ec0425316", func := "loop.example/g01275/laws.FnExactLowerWeights", spec := "fnExactLowerWeights", unfollowed := true, recurses := true, apart := false, narrowed := true }
def FnExactLowerWeightsUptoSaid : Prop := fnExactLowerWeightsUptoRow.holds Try.pinned (OpenSpec.upto fnExactLowerWeightsSpec)

end Rows
end Go.Proofs.Ytmhcejaljnibhaa
