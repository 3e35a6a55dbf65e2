/-
  No cell of these rows narrows 'for every input' (looked for: loops, veiled, ifaces, maps, wideKeys, modest, calm, conditions, laid).
  DERIVED. THE GIVEN ROWS OF THIS SEAT. 11 by the template 'for every input the law returns true; each argument reads behind the call as it read before'; 0 by the template 'total and deterministic' (their statements: YtmmmblfghhcndaaTotals.lean).
  GIVEN WITH THE SEED: the statements are not yours to turn. If you find one false, say at which input.
  Laid BY PROGRAM, IN A SANDBOX (cutbox-rows.mjs): the forced cells as the released guide's own fill.sh prints them over the translation c81aceb850f5a2aa… (all of the seat's roots in one cut). By AI agents, Wed Nov 11 2026. No macro, syntax, notation, axiom, sorry.
-/
import Derived.Test.YtmmmblfghhcndaaChecked
import GoSem.Claim
import GoSem.ClaimJoined
import GoSem.ClaimMapViews
import Derived.JoinedTies
import Derived.KernelRfl
namespace Go.Proofs.Ytmmmblfghhcndaa
/- THE CELL 'sum', in the pinned program and in every row, IS THE sha256 OF THE DUMP (.gsa) THAT YtmmmblfghhcndaaProg.lean LOADS. Nothing in Lean hashes anything: it is a label: what it is worth is what the hold of that sum in a sandbox is worth. -/
noncomputable def Try.pinned : Pinned := { name := "ytmmmblfghhcndaa", sum := "c81aceb850f5a2aa5ed3f5e471751d537195e759630ca0d59068dcd2e7be75c0", checked := Try.checked }
namespace Rows
def none {H : Type} : Left H := { results := [], args := [] }

/-- 'laws.FnExactCountProperGames': WHATEVER THE INPUT: true; the input reads as it did. -/
def fnExactCountProperGamesSpec : ChangeSpec := { name := "fnExactCountProperGames", fn := fun _ => fun
  | [d] => { results := [.lit (.bool true)], args := [d] }
  | _ => none }
def fnExactCountProperGamesRow : OpenClaim := { program := "ytmmmblfghhcndaa", sum := "c81aceb850f5a2aa5ed3f5e471751d537195e759630ca0d59068dcd2e7be75c0", func := "loop.example/g01275/laws.FnExactCountProperGames", spec := "fnExactCountProperGames", unfollowed := true, recurses := true, apart := false }
def FnExactCountProperGamesSaid : Prop := fnExactCountProperGamesRow.holds Try.pinned (OpenSpec.ofChange fnExactCountProperGamesSpec)

/-- ITS FALSE NEIGHBOUR: 'it returns false'. Refute it at one input. -/
def fnExactCountProperGamesWrong : ChangeSpec := { name := "fnExactCountProperGames", fn := fun _ => fun
  | [d] => { results := [.lit (.bool false)], args := [d] }
  | _ => none }
def FnExactCountProperGamesWrongFalsely : Prop := fnExactCountProperGamesRow.holds Try.pinned (OpenSpec.ofChange fnExactCountProperGamesWrong)

/-- 'laws.FnExactGameOfSets': WHATEVER THE INPUT: true; the input reads as it did. -/
def fnExactGameOfSetsSpec : ChangeSpec := { name := "fnExactGameOfSets", fn := fun _ => fun
  | [d1, d2] => { results := [.lit (.bool true)], args := [d1, d2] }
  | _ => none }
def fnExactGameOfSetsRow : OpenClaim := { program := "ytmmmblfghhcndaa", sum := "c81aceb850f5a2aa5ed3f5e471751d537195e759630ca0d59068dcd2e7be75c0", func := "loop.example/g01275/laws.FnExactGameOfSets", spec := "fnExactGameOfSets", unfollowed := true, recurses := true, apart := false }
def FnExactGameOfSetsSaid : Prop := fnExactGameOfSetsRow.holds Try.pinned (OpenSpec.ofChange fnExactGameOfSetsSpec)

/-- ITS FALSE NEIGHBOUR: 'it returns false'. Refute it at one input. -/
def fnExactGameOfSetsWrong : ChangeSpec := { name := "fnExactGameOfSets", fn := fun _ => fun
  | [d1, d2] => { results := [.lit (.bool false)], args := [d1, d2] }
  | _ => none }
def FnExactGameOfSetsWrongFalsely : Prop := fnExactGameOfSetsRow.holds Try.pinned (OpenSpec.ofChange fnExactGameOfSetsWrong)

/-- 'laws.FnExactGameOf': WHATEVER THE INPUT: true; the input reads as it did. -/
def fnExactGameOfSpec : ChangeSpec := { name := "fnExactGameOf", fn := fun _ => fun
  | [d] => { results := [.lit (.bool true)], args := [d] }
  | _ => none }
def fnExactGameOfRow : OpenClaim := { program := "ytmmmblfghhcndaa", sum := "c81aceb850f5a2aa5ed3f5e471751d537195e759630ca0d59068dcd2e7be75c0", func := "loop.example/g01275/laws.FnExactGameOf", spec := "fnExactGameOf", unfollowed := true, recurses := true, apart := false }
def FnExactGameOfSaid : Prop := fnExactGameOfRow.holds Try.pinned (OpenSpec.ofChange fnExactGameOfSpec)

/-- ITS FALSE NEIGHBOUR: 'it returns false'. Refute it at one input. -/
def fnExactGameOfWrong : ChangeSpec := { name := "fnExactGameOf", fn := fun _ => fun
  | [d] => { results := [.lit (.bool false)], args := [d] }
  | _ => none }
def FnExactGameOfWrongFalsely : Prop := fnExactGameOfRow.holds Try.pinned (OpenSpec.ofChange fnExactGameOfWrong)

/-- 'laws.FnExactIdleMembers': WHATEVER THE INPUT: true; the input reads as it did. -/
def fnExactIdleMembersSpec : ChangeSpec := { name := "fnExactIdleMembers", fn := fun _ => fun
  | [d] => { results := [.lit (.bool true)], args := [d] }
  | _ => none }
def fnExactIdleMembersRow : OpenClaim := { program := "ytmmmblfghhcndaa", sum := "c81aceb850f5a2aa5ed3f5e471751d537195e759630ca0d59068dcd2e7be75c0", func := "loop.example/g01275/laws.FnExactIdleMembers", spec := "fnExactIdleMembers", unfollowed := true, recurses := true, apart := false }
def FnExactIdleMembersSaid : Prop := fnExactIdleMembersRow.holds Try.pinned (OpenSpec.ofChange fnExactIdleMembersSpec)

/-- ITS FALSE NEIGHBOUR: 'it returns false'. Refute it at one input. -/
def fnExactIdleMembersWrong : ChangeSpec := { name := "fnExactIdleMembers", fn := fun _ => fun
  | [d] => { results := [.lit (.bool false)], args := [d] }
  | _ => none }
def FnExactIdleMembersWrongFalsely : Prop := fnExactIdleMembersRow.holds Try.pinned (OpenSpec.ofChange fnExactIdleMembersWrong)

/-- 'laws.FnExactEvenSetPowers': WHATEVER THE INPUT: true; the input reads as it did. -/
def fnExactEvenSetPowersSpec : ChangeSpec := { name := "fnExactEvenSetPowers", fn := fun _ => fun
  | [d] => { results := [.lit (.bool true)], args := [d] }
  | _ => none }
def fnExactEvenSetPowersRow : OpenClaim := { program := "ytmmmblfghhcndaa", sum := "c81aceb850f5a2aa5ed3f5e471751d537195e759630ca0d59068dcd2e7be75c0", func := "loop.example/g01275/laws.FnExactEvenSetPowers", spec := "fnExactEvenSetPowers", unfollowed := true, recurses := true, apart := false }
def FnExactEvenSetPowersSaid : Prop := fnExactEvenSetPowersRow.holds Try.pinned (OpenSpec.ofChange fnExactEvenSetPowersSpec)

/-- ITS FALSE NEIGHBOUR: 'it returns false'. Refute it at one input. -/
def fnExactEvenSetPowersWrong : ChangeSpec := { name := "fnExactEvenSetPowers", fn := fun _ => fun
  | [d] => { results := [.lit (.bool false)], args := [d] }
  | _ => none }
def FnExactEvenSetPowersWrongFalsely : Prop := fnExactEvenSetPowersRow.holds Try.pinned (OpenSpec.ofChange fnExactEvenSetPowersWrong)

/-- 'laws.FnExactLeastSetShares': WHATEVER THE INPUT: true; the input reads as it did. -/
def fnExactLeastSetSharesSpec : ChangeSpec := { name := "fnExactLeastSetShares", fn := fun _ => fun
  | [d] => { results := [.lit (.bool true)], args := [d] }
  | _ => none }
def fnExactLeastSetSharesRow : OpenClaim := { program := "ytmmmblfghhcndaa", sum := "c81aceb850f5a2aa5ed3f5e471751d537195e759630ca0d59068dcd2e7be75c0", func := "loop.example/g01275/laws.FnExactLeastSetShares", spec := "fnExactLeastSetShares", unfollowed := true, recurses := true, apart := false }
def FnExactLeastSetSharesSaid : Prop := fnExactLeastSetSharesRow.holds Try.pinned (OpenSpec.ofChange fnExactLeastSetSharesSpec)

/-- ITS FALSE NEIGHBOUR: 'it returns false'. Refute it at one input. -/
def fnExactLeastSetSharesWrong : ChangeSpec := { name := "fnExactLeastSetShares", fn := fun _ => fun
  | [d] => { results := [.lit (.bool false)], args := [d] }
  | _ => none }
def FnExactLeastSetSharesWrongFalsely : Prop := fnExactLeastSetSharesRow.holds Try.pinned (OpenSpec.ofChange fnExactLeastSetSharesWrong)

/-- 'laws.FnExactDualGame': WHATEVER THE INPUT: true; the input reads as it did. -/
def fnExactDualGameSpec : ChangeSpec := { name := "fnExactDualGame", fn := fun _ => fun
  | [d] => { results := [.lit (.bool true)], args := [d] }
  | _ => none }
def fnExactDualGameRow : OpenClaim := { program := "ytmmmblfghhcndaa", sum := "c81aceb850f5a2aa5ed3f5e471751d537195e759630ca0d59068dcd2e7be75c0", func := "loop.example/g01275/laws.FnExactDualGame", spec := "fnExactDualGame", unfollowed := true, recurses := true, apart := false }
def FnExactDualGameSaid : Prop := fnExactDualGameRow.holds Try.pinned (OpenSpec.ofChange fnExactDualGameSpec)

/-- ITS FALSE NEIGHBOUR: 'it returns false'. Refute it at one input. -/
def fnExactDualGameWrong : ChangeSpec := { name := "fnExactDualGame", fn := fun _ => fun
  | [d] => { results := [.lit (.bool false)], args := [d] }
  | _ => none }
def FnExactDualGameWrongFalsely : Prop := fnExactDualGameRow.holds Try.pinned (OpenSpec.ofChange fnExactDualGameWrong)

/-- 'laws.FnExactSumGames': WHATEVER THE INPUT: true; the input reads as it did. -/
def fnExactSumGamesSpec : ChangeSpec := { name := "fnExactSumGames", fn := fun _ => fun
  | [d1, d2] => { results := [.lit (.bool true)], args := [d1, d2] }
  | _ => none }
def fnExactSumGamesRow : OpenClaim := { program := "ytmmmblfghhcndaa", sum := "c81aceb850f5a2aa5ed3f5e471751d537195e759630ca0d59068dcd2e7be75c0", func := "loop.example/g01275/laws.FnExactSumGames", spec := "fnExactSumGames", unfollowed := true, recurses := true, apart := false }
def FnExactSumGamesSaid : Prop := fnExactSumGamesRow.holds Try.pinned (OpenSpec.ofChange fnExactSumGamesSpec)

/-- ITS FALSE NEIGHBOUR: 'it returns false'. Refute it at one input. -/
def fnExactSumGamesWrong : ChangeSpec := { name := "fnExactSumGames", fn := fun _ => fun
  | [d1, d2] => { results := [.lit (.bool false)], args := [d1, d2] }
  | _ => none }
def FnExactSumGamesWrongFalsely : Prop := fnExactSumGamesRow.holds Try.pinned (OpenSpec.ofChange fnExactSumGamesWrong)

/-- 'laws.FnExactProductGames': WHATEVER THE INPUT: true; the input reads as it did. -/
def fnExactProductGamesSpec : ChangeSpec := { name := "fnExactProductGames", fn := fun _ => fun
  | [d1, d2] => { results := [.lit (.bool true)], args := [d1, d2] }
  | _ => none }
def fnExactProductGamesRow : OpenClaim := { program := "ytmmmblfghhcndaa", sum := "c81aceb850f5a2aa5ed3f5e471751d537195e759630ca0d59068dcd2e7be75c0", func := "loop.example/g01275/laws.FnExactProductGames", spec := "fnExactProductGames", unfollowed := true, recurses := true, apart := false }
def FnExactProductGamesSaid : Prop := fnExactProductGamesRow.holds Try.pinned (OpenSpec.ofChange fnExactProductGamesSpec)

/-- ITS FALSE NEIGHBOUR: 'it returns false'. Refute it at one input. -/
def fnExactProductGamesWrong : ChangeSpec := { name := "fnExactProductGames", fn := fun _ => fun
  | [d1, d2] => { results := [.lit (.bool false)], args := [d1, d2] }
  | _ => none }
def FnExactProductGamesWrongFalsely : Prop := fnExactProductGamesRow.holds Try.pinned (OpenSpec.ofChange fnExactProductGamesWrong)

/-- 'laws.FnExactGameWithout': WHATEVER THE INPUT: true; the input reads as it did. -/
def fnExactGameWithoutSpec : ChangeSpec := { name := "fnExactGameWithout", fn := fun _ => fun
  | [d1, d2] => { results := [.lit (.bool true)], args := [d1, d2] }
  | _ => none }
def fnExactGameWithoutRow : OpenClaim := { program := "ytmmmblfghhcndaa", sum := "c81aceb850f5a2aa5ed3f5e471751d537195e759630ca0d59068dcd2e7be75c0", func := "loop.example/g01275/laws.FnExactGameWithout", spec := "fnExactGameWithout", unfollowed := true, recurses := true, apart := false }
def FnExactGameWithoutSaid : Prop := fnExactGameWithoutRow.holds Try.pinned (OpenSpec.ofChange fnExactGameWithoutSpec)

/-- ITS FALSE NEIGHBOUR: 'it returns false'. Refute it at one input. -/
def fnExactGameWithoutWrong : ChangeSpec := { name := "fnExactGameWithout", fn := fun _ => fun
  | [d1, d2] => { results := [.lit (.bool false)], args := [d1, d2] }
  | _ => none }
def FnExactGameWithoutWrongFalsely : Prop := fnExactGameWithoutRow.holds Try.pinned (OpenSpec.ofChange fnExactGameWithoutWrong)

/-- 'laws.FnExactGameWith': WHATEVER THE INPUT: true; the input reads as it did. -/
def fnExactGameWithSpec : ChangeSpec := { name := "fnExactGameWith", fn := fun _ => fun
  | [d1, d2] => { results := [.lit (.bool true)], args := [d1, d2] }
  | _ => none }
def fnExactGameWithRow : OpenClaim := { program := "ytmmmblfghhcndaa", sum := "c81aceb850f5a2aa5ed3f5e471751d537195e759630ca0d59068dcd2e7be75c0", func := "loop.example/g01275/laws.FnExactGameWith", spec := "fnExactGameWith", unfollowed := true, recurses := true, apart := false }
def FnExactGameWithSaid : Prop := fnExactGameWithRow.holds Try.pinned (OpenSpec.ofChange fnExactGameWithSpec)

/-- ITS FALSE NEIGHBOUR: 'it returns false'. Refute it at one input. -/
def fnExactGameWithWrong : ChangeSpec := { name := "fnExactGameWith", fn := fun _ => fun
  | [d1, d2] => { results := [.lit (.bool false)], args := [d1, d2] }
  | _ => none }
def FnExactGameWithWrongFalsely : Prop := fnExactGameWithRow.holds Try.pinned (OpenSpec.ofChange fnExactGameWithWrong)

/- THE SECOND FORM. 'bulk': how many values and letters a reading holds, each counted each time it is reached (what is shared counts as often as it is met; a slice's spare places count too). A statement '..UptoSaid' is the law's where the arguments, and the package variables that the reading takes, are together of bulk at most 1048576: NARROWER than '..Said'. Prove '..Said' where nothing that the law and all that it calls make is longer than what came in: it says more and counts as full. Else prove '..UptoSaid'. A law counts once. -/
mutual
def uptoBulk {H : Type} : DataW H → Nat
  | .lit (.string bytes) => bytes.length + 1
  | .lit _ => 1
  | .nil => 1
  | .ptr d => uptoBulk d + 1
  | .slice elems spare => uptoBulkAll elems + uptoBulkAll spare + 1
  | .agg parts => uptoBulkAll parts + 1
  | .iface _ d => uptoBulk d + 1
  | .map entries => uptoBulkEntries entries + 1
  | .held _ => 1
def uptoBulkAll {H : Type} : List (DataW H) → Nat
  | [] => 0
  | d :: r => uptoBulk d + uptoBulkAll r
def uptoBulkEntries {H : Type} : List (Lit × DataW H) → Nat
  | [] => 0
  | x :: r => uptoBulkEntry x + uptoBulkEntries r
def uptoBulkEntry {H : Type} : Lit × DataW H → Nat
  | (.string bytes, d) => bytes.length + uptoBulk d + 1
  | (_, d) => uptoBulk d + 1
 end
def uptoSmall : (H : Type) → List (DataW H) → Bool := fun _ ds => decide (uptoBulkAll ds ≤ 1048576)
def OpenSpec.upto (s : _root_.Go.ChangeSpec) : _root_.Go.OpenSpec := { _root_.Go.OpenSpec.ofChange s with cond := some uptoSmall }

/-- 'laws.FnExactCountProperGames', WHERE WHAT IT READS IS OF BULK AT MOST 1048576: true; the input reads as it did. -/
def fnExactCountProperGamesUptoRow : OpenClaim := { program := "ytmmmblfghhcndaa", sum := "c81aceb850f5a2aa5ed3f5e471751d537195e759630ca0d59068dcd2e7be75c0", func := "loop.example/g01275/laws.FnExactCountProperGames", spec := "fnExactCountProperGames", unfollowed := true, recurses := true, apart := false, narrowed := true }
def FnExactCountProperGamesUptoSaid : Prop := fnExactCountProperGamesUptoRow.holds Try.pinned (OpenSpec.upto fnExactCountProperGamesSpec)

/-- 'laws.FnExactGameOfSets', WHERE WHAT IT READS IS OF BULK AT MOST 1048576: true; the input reads as it did. -/
def fnExactGameOfSetsUptoRow : OpenClaim := { program := "ytmmmblfghhcndaa", sum := "c81aceb850f5a2aa5ed3f5e471751d537195e759630ca0d59068dcd2e7be75c0", func := "loop.example/g01275/laws.FnExactGameOfSets", spec := "fnExactGameOfSets", unfollowed := true, recurses := true, apart := false, narrowed := true }
def FnExactGameOfSetsUptoSaid : Prop := fnExactGameOfSetsUptoRow.holds Try.pinned (OpenSpec.upto fnExactGameOfSetsSpec)

/-- 'laws.FnExactGameOf', WHERE WHAT IT READS IS OF BULK AT MOST 1048576: true; the input reads as it did. -/
def fnExactGameOfUptoRow : OpenClaim := { program := "ytmmmblfghhcndaa", sum := "c81aceb850f5a2aa5ed3f5e471751d537195e759630ca0d59068dcd2e7be75c0", func := "loop.example/g01275/laws.FnExactGameOf", spec := "fnExactGameOf", unfollowed := true, recurses := true, apart := false, narrowed := true }
def FnExactGameOfUptoSaid : Prop := fnExactGameOfUptoRow.holds Try.pinned (OpenSpec.upto fnExactGameOfSpec)

/-- 'laws.FnExactIdleMembers', WHERE WHAT IT READS IS OF BULK AT MOST 1048576: true; the input reads as it did. -/
def fnExactIdleMembersUptoRow : OpenClaim := { program := "ytmmmblfghhcndaa", sum := "c81aceb850f5a2aa5ed3f5e471751d537195e759630ca0d59068dcd2e7be75c0", func := "loop.example/g01275/laws.FnExactIdleMembers", spec := "fnExactIdleMembers", unfollowed := true, recurses := true, apart := false, narrowed := true }
def FnExactIdleMembersUptoSaid : Prop := fnExactIdleMembersUptoRow.holds Try.pinned (OpenSpec.upto fnExactIdleMembersSpec)

/-- 'laws.FnExactEvenSetPowers', WHERE WHAT IT READS IS OF BULK AT MOST 1048576: true; the input reads as it did. -/
def fnExactEvenSetPowersUptoRow : OpenClaim := { program := "ytmmmblfghhcndaa", sum := "c81aceb850f5a2aa5ed3f5e471751d537195e759630ca0d59068dcd2e7be75c0", func := "loop.example/g01275/laws.FnExactEvenSetPowers", spec := "fnExactEvenSetPowers", unfollowed := true, recurses := true, apart := false, narrowed := true }
def FnExactEvenSetPowersUptoSaid : Prop := fnExactEvenSetPowersUptoRow.holds Try.pinned (OpenSpec.upto fnExactEvenSetPowersSpec)

/-- 'laws.FnExactLeastSetShares', WHERE WHAT IT READS IS OF BULK AT MOST 1048576: true; the input reads as it did. -/
def fnExactLeastSetSharesUptoRow : OpenClaim := { program := "ytmmmblfghhcndaa", sum := "c81aceb850f5a2aa5ed3f5e471751d537195e759630ca0d59068dcd2e7be75c0", func := "loop.example/g01275/laws.FnExactLeastSetShares", spec := "fnExactLeastSetShares", unfollowed := true, recurses := true, apart := false, narrowed := true }
def FnExactLeastSetSharesUptoSaid : Prop := fnExactLeastSetSharesUptoRow.holds Try.pinned (OpenSpec.upto fnExactLeastSetSharesSpec)

/-- 'laws.FnExactDualGame', WHERE WHAT IT READS IS OF BULK AT MOST 1048576: true; the input reads as it did. -/
def fnExactDualGameUptoRow : OpenClaim := { program := "ytmmmblfghhcndaa", sum := "c81aceb850f5a2aa5ed3f5e471751d537195e759630ca0d59068dcd2e7be75c0", func := "loop.example/g01275/laws.FnExactDualGame", spec := "fnExactDualGame", unfollowed := true, recurses := true, apart := false, narrowed := true }
def FnExactDualGameUptoSaid : Prop := fnExactDualGameUptoRow.holds Try.pinned (OpenSpec.upto fnExactDualGameSpec)

/-- 'laws.FnExactSumGames', WHERE WHAT IT READS IS OF BULK AT MOST 1048576: true; the input reads as it did. -/
def fnExactSumGamesUptoRow : OpenClaim := { program := "ytmmmblfghhcndaa", sum := "c81aceb850f5a2aa5ed3f5e471751d537195e759630ca0d59068dcd2e7be75c0", func := "loop.example/g01275/laws.FnExactSumGames", spec := "fnExactSumGames", unfollowed := true, recurses := true, apart := false, narrowed := true }
def FnExactSumGamesUptoSaid : Prop := fnExactSumGamesUptoRow.holds Try.pinned (OpenSpec.upto fnExactSumGamesSpec)

/-- 'laws.FnExactProductGames', WHERE WHAT IT READS IS OF BULK AT MOST 1048576: true; the input reads as it did. -/
def fnExactProductGamesUptoRow : OpenClaim := { program := "ytmmmblfghhcndaa", sum := "c81aceb850f5a2aa5ed3f5e471751d537195e759630ca0d59068dcd2e7be75c0", func := "loop.example/g01275/laws.FnExactProductGames", spec := "fnExactProductGames", unfollowed := true, recurses := true, apart := false, narrowed := true }
def FnExactProductGamesUptoSaid : Prop := fnExactProductGamesUptoRow.holds Try.pinned (OpenSpec.upto fnExactProductGamesSpec)

/-- 'laws.FnExactGameWithout', WHERE WHAT IT READS IS OF BULK AT MOST 1048576: true; the input reads as it did. -/
def fnExactGameWithoutUptoRow : OpenClaim := { program := "ytmmmblfghhcndaa", sum := "c81aceb850f5a2aa5ed3f5e471751d537195e759630ca0d59068dcd2e7be75c0", func := "loop.example/g01275/laws.FnExactGameWithout", spec := "fnExactGameWithout", unfollowed := true, recurses := true, apart := false, narrowed := true }
def FnExactGameWithoutUptoSaid : Prop := fnExactGameWithoutUptoRow.holds Try.pinned (OpenSpec.upto fnExactGameWithoutSpec)

/-- 'laws.FnExactGameWith', WHERE WHAT IT READS IS OF BULK AT MOST 1048576: true; the input reads as it did. -/
def fnExactGameWithUptoRow : OpenClaim := { program := "ytmmmblfghhcndaa", sum := "c81aceb850f5a2aa5ed3f5e471751d537195e759630ca0d59068dcd2e7be75c0", func := "loop.example/g01275/laws.FnExactGameWith", spec := "fnExactGameWith", unfollowed := true, recurses := true, apart := false, narrowed := true }
def FnExactGameWithUptoSaid : Prop := fnExactGameWithUptoRow.holds Try.pinned (OpenSpec.upto fnExactGameWithSpec)

end Rows
end Go.Proofs.Ytmmmblfghhcndaa
