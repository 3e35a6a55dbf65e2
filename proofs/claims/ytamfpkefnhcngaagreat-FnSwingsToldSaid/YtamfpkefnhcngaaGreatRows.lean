/-
  No cell of these rows narrows 'for every input' (looked for: loops, veiled, ifaces, maps, wideKeys, modest, calm, conditions, laid).
  DERIVED. THE GIVEN ROWS OF THIS SEAT. 7 by the template 'for every input the law returns true; each argument reads behind the call as it read before'; 0 by the template 'total and deterministic' (their statements: YtamfpkefnhcngaaGreatTotals.lean).
  GIVEN WITH THE SEED: the statements are not yours to turn. If you find one false, say at which input.
  Laid BY PROGRAM, IN A SANDBOX (cutbox-rows.mjs): the forced cells as the released guide's own fill.sh prints them over the translation 72186c4b477473a3… (all of the seat's roots in one cut). By AI agents, Wed Nov 11 2026. No macro, syntax, notation, axiom, sorry.
-/
import Derived.Test.YtamfpkefnhcngaaGreatChecked
import GoSem.Claim
import GoSem.ClaimJoined
import GoSem.ClaimMapViews
import Derived.JoinedTies
import Derived.KernelRfl
namespace Go.Proofs.YtamfpkefnhcngaaGreat
/- THE CELL 'sum', in the pinned program and in every row, IS THE sha256 OF THE DUMP (.gsa) THAT YtamfpkefnhcngaaGreatProg.lean LOADS. Nothing in Lean hashes anything: it is a label: what it is worth is what the hold of that sum in a sandbox is worth. -/
noncomputable def Tryz.pinned : Pinned := { name := "ytamfpkefnhcngaagreat", sum := "72186c4b477473a3fb83528f61acb643e38bf40745f3d0d1fbd9e32bd9d6d068", checked := Tryz.checked }
namespace Rows
def none {H : Type} : Left H := { results := [], args := [] }

/-- 'laws.FnSetsWin': WHATEVER THE INPUT: true; the input reads as it did. -/
def fnSetsWinSpec : ChangeSpec := { name := "fnSetsWin", fn := fun _ => fun
  | [d1, d2] => { results := [.lit (.bool true)], args := [d1, d2] }
  | _ => none }
def fnSetsWinRow : OpenClaim := { program := "ytamfpkefnhcngaagreat", sum := "72186c4b477473a3fb83528f61acb643e38bf40745f3d0d1fbd9e32bd9d6d068", func := "loop.example/g01275/laws.FnSetsWin", spec := "fnSetsWin", unfollowed := true, recurses := true, apart := false }
def FnSetsWinSaid : Prop := fnSetsWinRow.holds Tryz.pinned (OpenSpec.ofChange fnSetsWinSpec)

/-- ITS FALSE NEIGHBOUR: 'it returns false'. Refute it at one input. -/
def fnSetsWinWrong : ChangeSpec := { name := "fnSetsWin", fn := fun _ => fun
  | [d1, d2] => { results := [.lit (.bool false)], args := [d1, d2] }
  | _ => none }
def FnSetsWinWrongFalsely : Prop := fnSetsWinRow.holds Tryz.pinned (OpenSpec.ofChange fnSetsWinWrong)

/-- 'laws.FnLeastSetsWin': WHATEVER THE INPUT: true; the input reads as it did. -/
def fnLeastSetsWinSpec : ChangeSpec := { name := "fnLeastSetsWin", fn := fun _ => fun
  | [d1, d2] => { results := [.lit (.bool true)], args := [d1, d2] }
  | _ => none }
def fnLeastSetsWinRow : OpenClaim := { program := "ytamfpkefnhcngaagreat", sum := "72186c4b477473a3fb83528f61acb643e38bf40745f3d0d1fbd9e32bd9d6d068", func := "loop.example/g01275/laws.FnLeastSetsWin", spec := "fnLeastSetsWin", unfollowed := true, recurses := true, apart := false }
def FnLeastSetsWinSaid : Prop := fnLeastSetsWinRow.holds Tryz.pinned (OpenSpec.ofChange fnLeastSetsWinSpec)

/-- ITS FALSE NEIGHBOUR: 'it returns false'. Refute it at one input. -/
def fnLeastSetsWinWrong : ChangeSpec := { name := "fnLeastSetsWin", fn := fun _ => fun
  | [d1, d2] => { results := [.lit (.bool false)], args := [d1, d2] }
  | _ => none }
def FnLeastSetsWinWrongFalsely : Prop := fnLeastSetsWinRow.holds Tryz.pinned (OpenSpec.ofChange fnLeastSetsWinWrong)

/-- 'laws.FnSwingsToldOfAll': WHATEVER THE INPUT: true; the input reads as it did. -/
def fnSwingsToldOfAllSpec : ChangeSpec := { name := "fnSwingsToldOfAll", fn := fun _ => fun
  | [d1, d2, d3] => { results := [.lit (.bool true)], args := [d1, d2, d3] }
  | _ => none }
def fnSwingsToldOfAllRow : OpenClaim := { program := "ytamfpkefnhcngaagreat", sum := "72186c4b477473a3fb83528f61acb643e38bf40745f3d0d1fbd9e32bd9d6d068", func := "loop.example/g01275/laws.FnSwingsToldOfAll", spec := "fnSwingsToldOfAll", unfollowed := true, recurses := true, apart := false }
def FnSwingsToldOfAllSaid : Prop := fnSwingsToldOfAllRow.holds Tryz.pinned (OpenSpec.ofChange fnSwingsToldOfAllSpec)

/-- ITS FALSE NEIGHBOUR: 'it returns false'. Refute it at one input. -/
def fnSwingsToldOfAllWrong : ChangeSpec := { name := "fnSwingsToldOfAll", fn := fun _ => fun
  | [d1, d2, d3] => { results := [.lit (.bool false)], args := [d1, d2, d3] }
  | _ => none }
def FnSwingsToldOfAllWrongFalsely : Prop := fnSwingsToldOfAllRow.holds Tryz.pinned (OpenSpec.ofChange fnSwingsToldOfAllWrong)

/-- 'laws.FnSwingsTold': WHATEVER THE INPUT: true; the input reads as it did. -/
def fnSwingsToldSpec : ChangeSpec := { name := "fnSwingsTold", fn := fun _ => fun
  | [d1, d2] => { results := [.lit (.bool true)], args := [d1, d2] }
  | _ => none }
def fnSwingsToldRow : OpenClaim := { program := "ytamfpkefnhcngaagreat", sum := "72186c4b477473a3fb83528f61acb643e38bf40745f3d0d1fbd9e32bd9d6d068", func := "loop.example/g01275/laws.FnSwingsTold", spec := "fnSwingsTold", unfollowed := true, recurses := true, apart := false }
def FnSwingsToldSaid : Prop := fnSwingsToldRow.holds Tryz.pinned (OpenSpec.ofChange fnSwingsToldSpec)

/-- ITS FALSE NEIGHBOUR: 'it returns false'. Refute it at one input. -/
def fnSwingsToldWrong : ChangeSpec := { name := "fnSwingsTold", fn := fun _ => fun
  | [d1, d2] => { results := [.lit (.bool false)], args := [d1, d2] }
  | _ => none }
def FnSwingsToldWrongFalsely : Prop := fnSwingsToldRow.holds Tryz.pinned (OpenSpec.ofChange fnSwingsToldWrong)

/-- 'laws.FnLeastSetsSharedOfAll': WHATEVER THE INPUT: true; the input reads as it did. -/
def fnLeastSetsSharedOfAllSpec : ChangeSpec := { name := "fnLeastSetsSharedOfAll", fn := fun _ => fun
  | [d] => { results := [.lit (.bool true)], args := [d] }
  | _ => none }
def fnLeastSetsSharedOfAllRow : OpenClaim := { program := "ytamfpkefnhcngaagreat", sum := "72186c4b477473a3fb83528f61acb643e38bf40745f3d0d1fbd9e32bd9d6d068", func := "loop.example/g01275/laws.FnLeastSetsSharedOfAll", spec := "fnLeastSetsSharedOfAll", unfollowed := true, recurses := true, apart := false }
def FnLeastSetsSharedOfAllSaid : Prop := fnLeastSetsSharedOfAllRow.holds Tryz.pinned (OpenSpec.ofChange fnLeastSetsSharedOfAllSpec)

/-- ITS FALSE NEIGHBOUR: 'it returns false'. Refute it at one input. -/
def fnLeastSetsSharedOfAllWrong : ChangeSpec := { name := "fnLeastSetsSharedOfAll", fn := fun _ => fun
  | [d] => { results := [.lit (.bool false)], args := [d] }
  | _ => none }
def FnLeastSetsSharedOfAllWrongFalsely : Prop := fnLeastSetsSharedOfAllRow.holds Tryz.pinned (OpenSpec.ofChange fnLeastSetsSharedOfAllWrong)

/-- 'laws.FnLeastSetsShared': WHATEVER THE INPUT: true; the input reads as it did. -/
def fnLeastSetsSharedSpec : ChangeSpec := { name := "fnLeastSetsShared", fn := fun _ => fun
  | [d1, d2] => { results := [.lit (.bool true)], args := [d1, d2] }
  | _ => none }
def fnLeastSetsSharedRow : OpenClaim := { program := "ytamfpkefnhcngaagreat", sum := "72186c4b477473a3fb83528f61acb643e38bf40745f3d0d1fbd9e32bd9d6d068", func := "loop.example/g01275/laws.FnLeastSetsShared", spec := "fnLeastSetsShared", unfollowed := true, recurses := true, apart := false }
def FnLeastSetsSharedSaid : Prop := fnLeastSetsSharedRow.holds Tryz.pinned (OpenSpec.ofChange fnLeastSetsSharedSpec)

/-- ITS FALSE NEIGHBOUR: 'it returns false'. Refute it at one input. -/
def fnLeastSetsSharedWrong : ChangeSpec := { name := "fnLeastSetsShared", fn := fun _ => fun
  | [d1, d2] => { results := [.lit (.bool false)], args := [d1, d2] }
  | _ => none }
def FnLeastSetsSharedWrongFalsely : Prop := fnLeastSetsSharedRow.holds Tryz.pinned (OpenSpec.ofChange fnLeastSetsSharedWrong)

/-- 'laws.FnOrdersPivot': WHATEVER THE INPUT: true; the input reads as it did. -/
def fnOrdersPivotSpec : ChangeSpec := { name := "fnOrdersPivot", fn := fun _ => fun
  | [d1, d2] => { results := [.lit (.bool true)], args := [d1, d2] }
  | _ => none }
def fnOrdersPivotRow : OpenClaim := { program := "ytamfpkefnhcngaagreat", sum := "72186c4b477473a3fb83528f61acb643e38bf40745f3d0d1fbd9e32bd9d6d068", func := "loop.example/g01275/laws.FnOrdersPivot", spec := "fnOrdersPivot", unfollowed := true, recurses := true, apart := false }
def FnOrdersPivotSaid : Prop := fnOrdersPivotRow.holds Tryz.pinned (OpenSpec.ofChange fnOrdersPivotSpec)

/-- ITS FALSE NEIGHBOUR: 'it returns false'. Refute it at one input. -/
def fnOrdersPivotWrong : ChangeSpec := { name := "fnOrdersPivot", fn := fun _ => fun
  | [d1, d2] => { results := [.lit (.bool false)], args := [d1, d2] }
  | _ => none }
def FnOrdersPivotWrongFalsely : Prop := fnOrdersPivotRow.holds Tryz.pinned (OpenSpec.ofChange fnOrdersPivotWrong)

/- THE SECOND FORM. 'bulk': how many values and letters a reading holds, each counted each time it is reached (what is shared counts as often as it is met; a slice's spare places count too). A statement '..UptoSaid' is the law's where the arguments, and the package variables that the reading takes, are together of bulk at most 1048576: NARROWER than '..Said'. Prove '..Said' where nothing that the law and all that it calls make is longer than what came in: it says more and counts as full. Else prove '..UptoSaid'. A law counts once. -/
mutual
def uptoBulk {H : Type} : DataW H → Nat
  | .lit (.string bytes) => bytes.length + 1
  | .lit _ => 1
  | .nil => 1
  | .ptr d => uptoBulk d + 1
  | .slice elems spare => uptoBulkAll elems + uptoBulkAll spare + 1
  | .agg parts => uptoBulkAll parts + 1
  | .iface _ d => uptoBulk d + 1
  | .map entries => uptoBulkEntries entries + 1
  | .held _ => 1
def uptoBulkAll {H : Type} : List (DataW H) → Nat
  | [] => 0
  | d :: r => uptoBulk d + uptoBulkAll r
def uptoBulkEntries {H : Type} : List (Lit × DataW H) → Nat
  | [] => 0
  | x :: r => uptoBulkEntry x + uptoBulkEntries r
def uptoBulkEntry {H : Type} : Lit × DataW H → Nat
  | (.string bytes, d) => bytes.length + uptoBulk d + 1
  | (_, d) => uptoBulk d + 1
 end
def uptoSmall : (H : Type) → List (DataW H) → Bool := fun _ ds => decide (uptoBulkAll ds ≤ 1048576)
def OpenSpec.upto (s : _root_.Go.ChangeSpec) : _root_.Go.OpenSpec := { _root_.Go.OpenSpec.ofChange s with cond := some uptoSmall }

/-- 'laws.FnSetsWin', WHERE WHAT IT READS IS OF BULK AT MOST 1048576: true; the input reads as it did. -/
def fnSetsWinUptoRow : OpenClaim := { program := "ytamfpkefnhcngaagreat", sum := "72186c4b477473a3fb83528f61acb643e38bf40745f3d0d1fbd9e32bd9d6d068", func := "loop.example/g01275/laws.FnSetsWin", spec := "fnSetsWin", unfollowed := true, recurses := true, apart := false, narrowed := true }
def FnSetsWinUptoSaid : Prop := fnSetsWinUptoRow.holds Tryz.pinned (OpenSpec.upto fnSetsWinSpec)

/-- 'laws.FnLeastSetsWin', WHERE WHAT IT READS IS OF BULK AT MOST 1048576: true; the input reads as it did. -/
def fnLeastSetsWinUptoRow : OpenClaim := { program := "ytamfpkefnhcngaagreat", sum := "72186c4b477473a3fb83528f61acb643e38bf40745f3d0d1fbd9e32bd9d6d068", func := "loop.example/g01275/laws.FnLeastSetsWin", spec := "fnLeastSetsWin", unfollowed := true, recurses := true, apart := false, narrowed := true }
def FnLeastSetsWinUptoSaid : Prop := fnLeastSetsWinUptoRow.holds Tryz.pinned (OpenSpec.upto fnLeastSetsWinSpec)

/-- 'laws.FnSwingsToldOfAll', WHERE WHAT IT READS IS OF BULK AT MOST 1048576: true; the input reads as it did. -/
def fnSwingsToldOfAllUptoRow : OpenClaim := { program := "ytamfpkefnhcngaagreat", sum := "72186c4b477473a3fb83528f61acb643e38bf40745f3d0d1fbd9e32bd9d6d068", func := "loop.example/g01275/laws.FnSwingsToldOfAll", spec := "fnSwingsToldOfAll", unfollowed := true, recurses := true, apart := false, narrowed := true }
def FnSwingsToldOfAllUptoSaid : Prop := fnSwingsToldOfAllUptoRow.holds Tryz.pinned (OpenSpec.upto fnSwingsToldOfAllSpec)

/-- 'laws.FnSwingsTold', WHERE WHAT IT READS IS OF BULK AT MOST 1048576: true; the input reads as it did. -/
def fnSwingsToldUptoRow : OpenClaim := { program := "ytamfpkefnhcngaagreat", sum := "72186c4b477473a3fb83528f61acb643e38bf40745f3d0d1fbd9e32bd9d6d068", func := "loop.example/g01275/laws.FnSwingsTold", spec := "fnSwingsTold", unfollowed := true, recurses := true, apart := false, narrowed := true }
def FnSwingsToldUptoSaid : Prop := fnSwingsToldUptoRow.holds Tryz.pinned (OpenSpec.upto fnSwingsToldSpec)

/-- 'laws.FnLeastSetsSharedOfAll', WHERE WHAT IT READS IS OF BULK AT MOST 1048576: true; the input reads as it did. -/
def fnLeastSetsSharedOfAllUptoRow : OpenClaim := { program := "ytamfpkefnhcngaagreat", sum := "72186c4b477473a3fb83528f61acb643e38bf40745f3d0d1fbd9e32bd9d6d068", func := "loop.example/g01275/laws.FnLeastSetsSharedOfAll", spec := "fnLeastSetsSharedOfAll", unfollowed := true, recurses := true, apart := false, narrowed := true }
def FnLeastSetsSharedOfAllUptoSaid : Prop := fnLeastSetsSharedOfAllUptoRow.holds Tryz.pinned (OpenSpec.upto fnLeastSetsSharedOfAllSpec)

/-- 'laws.FnLeastSetsShared', WHERE WHAT IT READS IS OF BULK AT MOST 1048576: true; the input reads as it did. -/
def fnLeastSetsSharedUptoRow : OpenClaim := { program := "ytamfpkefnhcngaagreat", sum := "72186c4b477473a3fb83528f61acb643e38bf40745f3d0d1fbd9e32bd9d6d068", func := "loop.example/g01275/laws.FnLeastSetsShared", spec := "fnLeastSetsShared", unfollowed := true, recurses := true, apart := false, narrowed := true }
def FnLeastSetsSharedUptoSaid : Prop := fnLeastSetsSharedUptoRow.holds Tryz.pinned (OpenSpec.upto fnLeastSetsSharedSpec)

/-- 'laws.FnOrdersPivot', WHERE WHAT IT READS IS OF BULK AT MOST 1048576: true; the input reads as it did. -/
def fnOrdersPivotUptoRow : OpenClaim := { program := "ytamfpkefnhcngaagreat", sum := "72186c4b477473a3fb83528f61acb643e38bf40745f3d0d1fbd9e32bd9d6d068", func := "loop.example/g01275/laws.FnOrdersPivot", spec := "fnOrdersPivot", unfollowed := true, recurses := true, apart := false, narrowed := true }
def FnOrdersPivotUptoSaid : Prop := fnOrdersPivotUptoRow.holds Tryz.pinned (OpenSpec.upto fnOrdersPivotSpec)

end Rows
end Go.Proofs.YtamfpkefnhcngaaGreat
