/-
  No cell of these rows narrows 'for every input' (looked for: loops, veiled, ifaces, maps, wideKeys, modest, calm, conditions, laid).
  DERIVED. THE GIVEN ROWS OF THIS SEAT. 3 by the template 'for every input the law returns true; each argument reads behind the call as it read before'; 0 by the template 'total and deterministic' (their statements: YtaajmdpkbplgjaaTotals.lean).
  GIVEN WITH THE SEED: the statements are not yours to turn. If you find one false, say at which input.
  Laid BY PROGRAM, IN A SANDBOX (cutbox-rows.mjs): the forced cells as the released guide's own fill.sh prints them over the translation e78104543d4d9bff… (all of the seat's roots in one cut). By AI agents, Wed Nov 11 2026. No macro, syntax, notation, axiom, sorry.
-/
import Derived.Test.YtaajmdpkbplgjaaChecked
import GoSem.Claim
import GoSem.ClaimJoined
import GoSem.ClaimMapViews
import Derived.JoinedTies
import Derived.KernelRfl
namespace Go.Proofs.Ytaajmdpkbplgjaa
/- THE CELL 'sum', in the pinned program and in every row, IS THE sha256 OF THE DUMP (.gsa) THAT YtaajmdpkbplgjaaProg.lean LOADS. Nothing in Lean hashes anything: it is a label: what it is worth is what the hold of that sum in a sandbox is worth. -/
noncomputable def Try.pinned : Pinned := { name := "ytaajmdpkbplgjaa", sum := "e78104543d4d9bffd4a4a7e54c2d86818bca5aeca0f92bded42babe82c942994", checked := Try.checked }
namespace Rows
def none {H : Type} : Left H := { results := [], args := [] }

/-- 'laws.FnExactRenameGame': WHATEVER THE INPUT: true; the input reads as it did. -/
def fnExactRenameGameSpec : ChangeSpec := { name := "fnExactRenameGame", fn := fun _ => fun
  | [d1, d2] => { results := [.lit (.bool true)], args := [d1, d2] }
  | _ => none }
def fnExactRenameGameRow : OpenClaim := { program := "ytaajmdpkbplgjaa", sum := "e78104543d4d9bffd4a4a7e54c2d86818bca5aeca0f92bded42babe82c942994", func := "loop.example/g01275/laws.FnExactRenameGame", spec := "fnExactRenameGame", unfollowed := true, recurses := true, apart := false }
def FnExactRenameGameSaid : Prop := fnExactRenameGameRow.holds Try.pinned (OpenSpec.ofChange fnExactRenameGameSpec)

/-- ITS FALSE NEIGHBOUR: 'it returns false'. Refute it at one input. -/
def fnExactRenameGameWrong : ChangeSpec := { name := "fnExactRenameGame", fn := fun _ => fun
  | [d1, d2] => { results := [.lit (.bool false)], args := [d1, d2] }
  | _ => none }
def FnExactRenameGameWrongFalsely : Prop := fnExactRenameGameRow.holds Try.pinned (OpenSpec.ofChange fnExactRenameGameWrong)

/-- 'laws.FnSetsWinOfAll': WHATEVER THE INPUT: true; the input reads as it did. -/
def fnSetsWinOfAllSpec : ChangeSpec := { name := "fnSetsWinOfAll", fn := fun _ => fun
  | [d1, d2, d3] => { results := [.lit (.bool true)], args := [d1, d2, d3] }
  | _ => none }
def fnSetsWinOfAllRow : OpenClaim := { program := "ytaajmdpkbplgjaa", sum := "e78104543d4d9bffd4a4a7e54c2d86818bca5aeca0f92bded42babe82c942994", func := "loop.example/g01275/laws.FnSetsWinOfAll", spec := "fnSetsWinOfAll", unfollowed := true, recurses := true, apart := false }
def FnSetsWinOfAllSaid : Prop := fnSetsWinOfAllRow.holds Try.pinned (OpenSpec.ofChange fnSetsWinOfAllSpec)

/-- ITS FALSE NEIGHBOUR: 'it returns false'. Refute it at one input. -/
def fnSetsWinOfAllWrong : ChangeSpec := { name := "fnSetsWinOfAll", fn := fun _ => fun
  | [d1, d2, d3] => { results := [.lit (.bool false)], args := [d1, d2, d3] }
  | _ => none }
def FnSetsWinOfAllWrongFalsely : Prop := fnSetsWinOfAllRow.holds Try.pinned (OpenSpec.ofChange fnSetsWinOfAllWrong)

/-- 'laws.FnLeastSetsWinOfAll': WHATEVER THE INPUT: true; the input reads as it did. -/
def fnLeastSetsWinOfAllSpec : ChangeSpec := { name := "fnLeastSetsWinOfAll", fn := fun _ => fun
  | [d1, d2, d3] => { results := [.lit (.bool true)], args := [d1, d2, d3] }
  | _ => none }
def fnLeastSetsWinOfAllRow : OpenClaim := { program := "ytaajmdpkbplgjaa", sum := "e78104543d4d9bffd4a4a7e54c2d86818bca5aeca0f92bded42babe82c942994", func := "loop.example/g01275/laws.FnLeastSetsWinOfAll", spec := "fnLeastSetsWinOfAll", unfollowed := true, recurses := true, apart := false }
def FnLeastSetsWinOfAllSaid : Prop := fnLeastSetsWinOfAllRow.holds Try.pinned (OpenSpec.ofChange fnLeastSetsWinOfAllSpec)

/-- ITS FALSE NEIGHBOUR: 'it returns false'. Refute it at one input. -/
def fnLeastSetsWinOfAllWrong : ChangeSpec := { name := "fnLeastSetsWinOfAll", fn := fun _ => fun
  | [d1, d2, d3] => { results := [.lit (.bool false)], args := [d1, d2, d3] }
  | _ => none }
def FnLeastSetsWinOfAllWrongFalsely : Prop := fnLeastSetsWinOfAllRow.holds Try.pinned (OpenSpec.ofChange fnLeastSetsWinOfAllWrong)

/- THE SECOND FORM. 'bulk': how many values and letters a reading holds, each counted each time it is reached (what is shared counts as often as it is met; a slice's spare places count too). A statement '..UptoSaid' is the law's where the arguments, and the package variables that the reading takes, are together of bulk at most 1048576: NARROWER than '..Said'. Prove '..Said' where nothing that the law and all that it calls make is longer than what came in: it says more and counts as full. Else prove '..UptoSaid'. A law counts once. -/
mutual
def uptoBulk {H : Type} : DataW H → Nat
  | .lit (.string bytes) => bytes.length + 1
  | .lit _ => 1
  | .nil => 1
  | .ptr d => uptoBulk d + 1
  | .slice elems spare => uptoBulkAll elems + uptoBulkAll spare + 1
  | .agg parts => uptoBulkAll parts + 1
  | .iface _ d => uptoBulk d + 1
  | .map entries => uptoBulkEntries entries + 1
  | .held _ => 1
def uptoBulkAll {H : Type} : List (DataW H) → Nat
  | [] => 0
  | d :: r => uptoBulk d + uptoBulkAll r
def uptoBulkEntries {H : Type} : List (Lit × DataW H) → Nat
  | [] => 0
  | x :: r => uptoBulkEntry x + uptoBulkEntries r
def uptoBulkEntry {H : Type} : Lit × DataW H → Nat
  | (.string bytes, d) => bytes.length + uptoBulk d + 1
  | (_, d) => uptoBulk d + 1
 end
def uptoSmall : (H : Type) → List (DataW H) → Bool := fun _ ds => decide (uptoBulkAll ds ≤ 1048576)
def OpenSpec.upto (s : _root_.Go.ChangeSpec) : _root_.Go.OpenSpec := { _root_.Go.OpenSpec.ofChange s with cond := some uptoSmall }

/-- 'laws.FnExactRenameGame', WHERE WHAT IT READS IS OF BULK AT MOST 1048576: true; the input reads as it did. -/
def fnExactRenameGameUptoRow : OpenClaim := { program := "ytaajmdpkbplgjaa", sum := "e78104543d4d9bffd4a4a7e54c2d86818bca5aeca0f92bded42babe82c942994", func := "loop.example/g01275/laws.FnExactRenameGame", spec := "fnExactRenameGame", unfollowed := true, recurses := true, apart := false, narrowed := true }
def FnExactRenameGameUptoSaid : Prop := fnExactRenameGameUptoRow.holds Try.pinned (OpenSpec.upto fnExactRenameGameSpec)

/-- 'laws.FnSetsWinOfAll', WHERE WHAT IT READS IS OF BULK AT MOST 1048576: true; the input reads as it did. -/
def fnSetsWinOfAllUptoRow : OpenClaim := { program := "ytaajmdpkbplgjaa", sum := "e78104543d4d9bffd4a4a7e54c2d86818bca5aeca0f92bded42babe82c942994", func := "loop.example/g01275/laws.FnSetsWinOfAll", spec := "fnSetsWinOfAll", unfollowed := true, recurses := true, apart := false, narrowed := true }
def FnSetsWinOfAllUptoSaid : Prop := fnSetsWinOfAllUptoRow.holds Try.pinned (OpenSpec.upto fnSetsWinOfAllSpec)

/-- 'laws.FnLeastSetsWinOfAll', WHERE WHAT IT READS IS OF BULK AT MOST 1048576: true; the input reads as it did. -/
def fnLeastSetsWinOfAllUptoRow : OpenClaim := { program := "ytaajmdpkbplgjaa", sum := "e78104543d4d9bffd4a4a7e54c2d86818bca5aeca0f92bded42babe82c942994", func := "loop.example/g01275/laws.FnLeastSetsWinOfAll", spec := "fnLeastSetsWinOfAll", unfollowed := true, recurses := true, apart := false, narrowed := true }
def FnLeastSetsWinOfAllUptoSaid : Prop := fnLeastSetsWinOfAllUptoRow.holds Try.pinned (OpenSpec.upto fnLeastSetsWinOfAllSpec)

end Rows
end Go.Proofs.Ytaajmdpkbplgjaa
