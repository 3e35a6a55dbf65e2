/-
  No cell of these rows narrows 'for every input' (looked for: loops, veiled, ifaces, maps, wideKeys, modest, calm, conditions, laid).
  DERIVED. THE GIVEN ROWS OF THIS SEAT. 12 by the template 'for every input the law returns true; each argument reads behind the call as it read before'; 0 by the template 'total and deterministic' (their statements: YticnoiflccbhcaaTotals.lean).
  GIVEN WITH THE SEED: the statements are not yours to turn. If you find one false, say at which input.
  Laid BY PROGRAM, IN A SANDBOX (cutbox-rows.mjs): the forced cells as the released guide's own fill.sh prints them over the translation 9a69c210c0763156… (all of the seat's roots in one cut). By AI agents, Wed Nov 11 2026. No macro, syntax, notation, axiom, sorry.
-/
import Derived.Test.YticnoiflccbhcaaChecked
import GoSem.Claim
import GoSem.ClaimJoined
import GoSem.ClaimMapViews
import Derived.JoinedTies
import Derived.KernelRfl
namespace Go.Proofs.Yticnoiflccbhcaa
/- THE CELL 'sum', in the pinned program and in every row, IS THE sha256 OF THE DUMP (.gsa) THAT YticnoiflccbhcaaProg.lean LOADS. Nothing in Lean hashes anything: it is a label: what it is worth is what the hold of that sum in a sandbox is worth. -/
noncomputable def Try.pinned : Pinned := { name := "yticnoiflccbhcaa", sum := "9a69c210c076315677de466cae29b5cf34d917132209be890a01686f76de2fc8", checked := Try.checked }
namespace Rows
def none {H : Type} : Left H := { results := [], args := [] }

/-- 'laws.FnExactPartCommittee': WHATEVER THE INPUT: true; the input reads as it did. -/
def fnExactPartCommitteeSpec : ChangeSpec := { name := "fnExactPartCommittee", fn := fun _ => fun
  | [d] => { results := [.lit (.bool true)], args := [d] }
  | _ => none }
def fnExactPartCommitteeRow : OpenClaim := { program := "yticnoiflccbhcaa", sum := "9a69c210c076315677de466cae29b5cf34d917132209be890a01686f76de2fc8", func := "loop.example/g01275/laws.FnExactPartCommittee", spec := "fnExactPartCommittee", unfollowed := true, recurses := true, apart := false }
def FnExactPartCommitteeSaid : Prop := fnExactPartCommitteeRow.holds Try.pinned (OpenSpec.ofChange fnExactPartCommitteeSpec)

/-- ITS FALSE NEIGHBOUR: 'it returns false'. Refute it at one input. -/
def fnExactPartCommitteeWrong : ChangeSpec := { name := "fnExactPartCommittee", fn := fun _ => fun
  | [d] => { results := [.lit (.bool false)], args := [d] }
  | _ => none }
def FnExactPartCommitteeWrongFalsely : Prop := fnExactPartCommitteeRow.holds Try.pinned (OpenSpec.ofChange fnExactPartCommitteeWrong)

/-- 'laws.FnExactQuotaOfGame': WHATEVER THE INPUT: true; the input reads as it did. -/
def fnExactQuotaOfGameSpec : ChangeSpec := { name := "fnExactQuotaOfGame", fn := fun _ => fun
  | [d1, d2] => { results := [.lit (.bool true)], args := [d1, d2] }
  | _ => none }
def fnExactQuotaOfGameRow : OpenClaim := { program := "yticnoiflccbhcaa", sum := "9a69c210c076315677de466cae29b5cf34d917132209be890a01686f76de2fc8", func := "loop.example/g01275/laws.FnExactQuotaOfGame", spec := "fnExactQuotaOfGame", unfollowed := true, recurses := true, apart := false }
def FnExactQuotaOfGameSaid : Prop := fnExactQuotaOfGameRow.holds Try.pinned (OpenSpec.ofChange fnExactQuotaOfGameSpec)

/-- ITS FALSE NEIGHBOUR: 'it returns false'. Refute it at one input. -/
def fnExactQuotaOfGameWrong : ChangeSpec := { name := "fnExactQuotaOfGame", fn := fun _ => fun
  | [d1, d2] => { results := [.lit (.bool false)], args := [d1, d2] }
  | _ => none }
def FnExactQuotaOfGameWrongFalsely : Prop := fnExactQuotaOfGameRow.holds Try.pinned (OpenSpec.ofChange fnExactQuotaOfGameWrong)

/-- 'laws.FnExactDoesFitGame': WHATEVER THE INPUT: true; the input reads as it did. -/
def fnExactDoesFitGameSpec : ChangeSpec := { name := "fnExactDoesFitGame", fn := fun _ => fun
  | [d1, d2] => { results := [.lit (.bool true)], args := [d1, d2] }
  | _ => none }
def fnExactDoesFitGameRow : OpenClaim := { program := "yticnoiflccbhcaa", sum := "9a69c210c076315677de466cae29b5cf34d917132209be890a01686f76de2fc8", func := "loop.example/g01275/laws.FnExactDoesFitGame", spec := "fnExactDoesFitGame", unfollowed := true, recurses := true, apart := false }
def FnExactDoesFitGameSaid : Prop := fnExactDoesFitGameRow.holds Try.pinned (OpenSpec.ofChange fnExactDoesFitGameSpec)

/-- ITS FALSE NEIGHBOUR: 'it returns false'. Refute it at one input. -/
def fnExactDoesFitGameWrong : ChangeSpec := { name := "fnExactDoesFitGame", fn := fun _ => fun
  | [d1, d2] => { results := [.lit (.bool false)], args := [d1, d2] }
  | _ => none }
def FnExactDoesFitGameWrongFalsely : Prop := fnExactDoesFitGameRow.holds Try.pinned (OpenSpec.ofChange fnExactDoesFitGameWrong)

/-- 'laws.FnExactSortCommittee': WHATEVER THE INPUT: true; the input reads as it did. -/
def fnExactSortCommitteeSpec : ChangeSpec := { name := "fnExactSortCommittee", fn := fun _ => fun
  | [d] => { results := [.lit (.bool true)], args := [d] }
  | _ => none }
def fnExactSortCommitteeRow : OpenClaim := { program := "yticnoiflccbhcaa", sum := "9a69c210c076315677de466cae29b5cf34d917132209be890a01686f76de2fc8", func := "loop.example/g01275/laws.FnExactSortCommittee", spec := "fnExactSortCommittee", unfollowed := true, recurses := true, apart := false }
def FnExactSortCommitteeSaid : Prop := fnExactSortCommitteeRow.holds Try.pinned (OpenSpec.ofChange fnExactSortCommitteeSpec)

/-- ITS FALSE NEIGHBOUR: 'it returns false'. Refute it at one input. -/
def fnExactSortCommitteeWrong : ChangeSpec := { name := "fnExactSortCommittee", fn := fun _ => fun
  | [d] => { results := [.lit (.bool false)], args := [d] }
  | _ => none }
def FnExactSortCommitteeWrongFalsely : Prop := fnExactSortCommitteeRow.holds Try.pinned (OpenSpec.ofChange fnExactSortCommitteeWrong)

/-- 'laws.FnExactSmallestWin': WHATEVER THE INPUT: true; the input reads as it did. -/
def fnExactSmallestWinSpec : ChangeSpec := { name := "fnExactSmallestWin", fn := fun _ => fun
  | [d] => { results := [.lit (.bool true)], args := [d] }
  | _ => none }
def fnExactSmallestWinRow : OpenClaim := { program := "yticnoiflccbhcaa", sum := "9a69c210c076315677de466cae29b5cf34d917132209be890a01686f76de2fc8", func := "loop.example/g01275/laws.FnExactSmallestWin", spec := "fnExactSmallestWin", unfollowed := true, recurses := true, apart := false }
def FnExactSmallestWinSaid : Prop := fnExactSmallestWinRow.holds Try.pinned (OpenSpec.ofChange fnExactSmallestWinSpec)

/-- ITS FALSE NEIGHBOUR: 'it returns false'. Refute it at one input. -/
def fnExactSmallestWinWrong : ChangeSpec := { name := "fnExactSmallestWin", fn := fun _ => fun
  | [d] => { results := [.lit (.bool false)], args := [d] }
  | _ => none }
def FnExactSmallestWinWrongFalsely : Prop := fnExactSmallestWinRow.holds Try.pinned (OpenSpec.ofChange fnExactSmallestWinWrong)

/-- 'laws.FnExactSizesOfLeast': WHATEVER THE INPUT: true; the input reads as it did. -/
def fnExactSizesOfLeastSpec : ChangeSpec := { name := "fnExactSizesOfLeast", fn := fun _ => fun
  | [d] => { results := [.lit (.bool true)], args := [d] }
  | _ => none }
def fnExactSizesOfLeastRow : OpenClaim := { program := "yticnoiflccbhcaa", sum := "9a69c210c076315677de466cae29b5cf34d917132209be890a01686f76de2fc8", func := "loop.example/g01275/laws.FnExactSizesOfLeast", spec := "fnExactSizesOfLeast", unfollowed := true, recurses := true, apart := false }
def FnExactSizesOfLeastSaid : Prop := fnExactSizesOfLeastRow.holds Try.pinned (OpenSpec.ofChange fnExactSizesOfLeastSpec)

/-- ITS FALSE NEIGHBOUR: 'it returns false'. Refute it at one input. -/
def fnExactSizesOfLeastWrong : ChangeSpec := { name := "fnExactSizesOfLeast", fn := fun _ => fun
  | [d] => { results := [.lit (.bool false)], args := [d] }
  | _ => none }
def FnExactSizesOfLeastWrongFalsely : Prop := fnExactSizesOfLeastRow.holds Try.pinned (OpenSpec.ofChange fnExactSizesOfLeastWrong)

/-- 'laws.FnExactSwingSets': WHATEVER THE INPUT: true; the input reads as it did. -/
def fnExactSwingSetsSpec : ChangeSpec := { name := "fnExactSwingSets", fn := fun _ => fun
  | [d1, d2] => { results := [.lit (.bool true)], args := [d1, d2] }
  | _ => none }
def fnExactSwingSetsRow : OpenClaim := { program := "yticnoiflccbhcaa", sum := "9a69c210c076315677de466cae29b5cf34d917132209be890a01686f76de2fc8", func := "loop.example/g01275/laws.FnExactSwingSets", spec := "fnExactSwingSets", unfollowed := true, recurses := true, apart := false }
def FnExactSwingSetsSaid : Prop := fnExactSwingSetsRow.holds Try.pinned (OpenSpec.ofChange fnExactSwingSetsSpec)

/-- ITS FALSE NEIGHBOUR: 'it returns false'. Refute it at one input. -/
def fnExactSwingSetsWrong : ChangeSpec := { name := "fnExactSwingSets", fn := fun _ => fun
  | [d1, d2] => { results := [.lit (.bool false)], args := [d1, d2] }
  | _ => none }
def FnExactSwingSetsWrongFalsely : Prop := fnExactSwingSetsRow.holds Try.pinned (OpenSpec.ofChange fnExactSwingSetsWrong)

/-- 'laws.FnExactLeastSetCounts': WHATEVER THE INPUT: true; the input reads as it did. -/
def fnExactLeastSetCountsSpec : ChangeSpec := { name := "fnExactLeastSetCounts", fn := fun _ => fun
  | [d] => { results := [.lit (.bool true)], args := [d] }
  | _ => none }
def fnExactLeastSetCountsRow : OpenClaim := { program := "yticnoiflccbhcaa", sum := "9a69c210c076315677de466cae29b5cf34d917132209be890a01686f76de2fc8", func := "loop.example/g01275/laws.FnExactLeastSetCounts", spec := "fnExactLeastSetCounts", unfollowed := true, recurses := true, apart := false }
def FnExactLeastSetCountsSaid : Prop := fnExactLeastSetCountsRow.holds Try.pinned (OpenSpec.ofChange fnExactLeastSetCountsSpec)

/-- ITS FALSE NEIGHBOUR: 'it returns false'. Refute it at one input. -/
def fnExactLeastSetCountsWrong : ChangeSpec := { name := "fnExactLeastSetCounts", fn := fun _ => fun
  | [d] => { results := [.lit (.bool false)], args := [d] }
  | _ => none }
def FnExactLeastSetCountsWrongFalsely : Prop := fnExactLeastSetCountsRow.holds Try.pinned (OpenSpec.ofChange fnExactLeastSetCountsWrong)

/-- 'laws.FnExactGreatestLosing': WHATEVER THE INPUT: true; the input reads as it did. -/
def fnExactGreatestLosingSpec : ChangeSpec := { name := "fnExactGreatestLosing", fn := fun _ => fun
  | [d] => { results := [.lit (.bool true)], args := [d] }
  | _ => none }
def fnExactGreatestLosingRow : OpenClaim := { program := "yticnoiflccbhcaa", sum := "9a69c210c076315677de466cae29b5cf34d917132209be890a01686f76de2fc8", func := "loop.example/g01275/laws.FnExactGreatestLosing", spec := "fnExactGreatestLosing", unfollowed := true, recurses := true, apart := false }
def FnExactGreatestLosingSaid : Prop := fnExactGreatestLosingRow.holds Try.pinned (OpenSpec.ofChange fnExactGreatestLosingSpec)

/-- ITS FALSE NEIGHBOUR: 'it returns false'. Refute it at one input. -/
def fnExactGreatestLosingWrong : ChangeSpec := { name := "fnExactGreatestLosing", fn := fun _ => fun
  | [d] => { results := [.lit (.bool false)], args := [d] }
  | _ => none }
def FnExactGreatestLosingWrongFalsely : Prop := fnExactGreatestLosingRow.holds Try.pinned (OpenSpec.ofChange fnExactGreatestLosingWrong)

/-- 'laws.FnExactLeastWinning': WHATEVER THE INPUT: true; the input reads as it did. -/
def fnExactLeastWinningSpec : ChangeSpec := { name := "fnExactLeastWinning", fn := fun _ => fun
  | [d] => { results := [.lit (.bool true)], args := [d] }
  | _ => none }
def fnExactLeastWinningRow : OpenClaim := { program := "yticnoiflccbhcaa", sum := "9a69c210c076315677de466cae29b5cf34d917132209be890a01686f76de2fc8", func := "loop.example/g01275/laws.FnExactLeastWinning", spec := "fnExactLeastWinning", unfollowed := true, recurses := true, apart := false }
def FnExactLeastWinningSaid : Prop := fnExactLeastWinningRow.holds Try.pinned (OpenSpec.ofChange fnExactLeastWinningSpec)

/-- ITS FALSE NEIGHBOUR: 'it returns false'. Refute it at one input. -/
def fnExactLeastWinningWrong : ChangeSpec := { name := "fnExactLeastWinning", fn := fun _ => fun
  | [d] => { results := [.lit (.bool false)], args := [d] }
  | _ => none }
def FnExactLeastWinningWrongFalsely : Prop := fnExactLeastWinningRow.holds Try.pinned (OpenSpec.ofChange fnExactLeastWinningWrong)

/-- 'laws.FnExactLeastBlocking': WHATEVER THE INPUT: true; the input reads as it did. -/
def fnExactLeastBlockingSpec : ChangeSpec := { name := "fnExactLeastBlocking", fn := fun _ => fun
  | [d] => { results := [.lit (.bool true)], args := [d] }
  | _ => none }
def fnExactLeastBlockingRow : OpenClaim := { program := "yticnoiflccbhcaa", sum := "9a69c210c076315677de466cae29b5cf34d917132209be890a01686f76de2fc8", func := "loop.example/g01275/laws.FnExactLeastBlocking", spec := "fnExactLeastBlocking", unfollowed := true, recurses := true, apart := false }
def FnExactLeastBlockingSaid : Prop := fnExactLeastBlockingRow.holds Try.pinned (OpenSpec.ofChange fnExactLeastBlockingSpec)

/-- ITS FALSE NEIGHBOUR: 'it returns false'. Refute it at one input. -/
def fnExactLeastBlockingWrong : ChangeSpec := { name := "fnExactLeastBlocking", fn := fun _ => fun
  | [d] => { results := [.lit (.bool false)], args := [d] }
  | _ => none }
def FnExactLeastBlockingWrongFalsely : Prop := fnExactLeastBlockingRow.holds Try.pinned (OpenSpec.ofChange fnExactLeastBlockingWrong)

/-- 'laws.FnExactDummiesOf': WHATEVER THE INPUT: true; the input reads as it did. -/
def fnExactDummiesOfSpec : ChangeSpec := { name := "fnExactDummiesOf", fn := fun _ => fun
  | [d] => { results := [.lit (.bool true)], args := [d] }
  | _ => none }
def fnExactDummiesOfRow : OpenClaim := { program := "yticnoiflccbhcaa", sum := "9a69c210c076315677de466cae29b5cf34d917132209be890a01686f76de2fc8", func := "loop.example/g01275/laws.FnExactDummiesOf", spec := "fnExactDummiesOf", unfollowed := true, recurses := true, apart := false }
def FnExactDummiesOfSaid : Prop := fnExactDummiesOfRow.holds Try.pinned (OpenSpec.ofChange fnExactDummiesOfSpec)

/-- ITS FALSE NEIGHBOUR: 'it returns false'. Refute it at one input. -/
def fnExactDummiesOfWrong : ChangeSpec := { name := "fnExactDummiesOf", fn := fun _ => fun
  | [d] => { results := [.lit (.bool false)], args := [d] }
  | _ => none }
def FnExactDummiesOfWrongFalsely : Prop := fnExactDummiesOfRow.holds Try.pinned (OpenSpec.ofChange fnExactDummiesOfWrong)

/- THE SECOND FORM. 'bulk': how many values and letters a reading holds, each counted each time it is reached (what is shared counts as often as it is met; a slice's spare places count too). A statement '..UptoSaid' is the law's where the arguments, and the package variables that the reading takes, are together of bulk at most 1048576: NARROWER than '..Said'. Prove '..Said' where nothing that the law and all that it calls make is longer than what came in: it says more and counts as full. Else prove '..UptoSaid'. A law counts once. -/
mutual
def uptoBulk {H : Type} : DataW H → Nat
  | .lit (.string bytes) => bytes.length + 1
  | .lit _ => 1
  | .nil => 1
  | .ptr d => uptoBulk d + 1
  | .slice elems spare => uptoBulkAll elems + uptoBulkAll spare + 1
  | .agg parts => uptoBulkAll parts + 1
  | .iface _ d => uptoBulk d + 1
  | .map entries => uptoBulkEntries entries + 1
  | .held _ => 1
def uptoBulkAll {H : Type} : List (DataW H) → Nat
  | [] => 0
  | d :: r => uptoBulk d + uptoBulkAll r
def uptoBulkEntries {H : Type} : List (Lit × DataW H) → Nat
  | [] => 0
  | x :: r => uptoBulkEntry x + uptoBulkEntries r
def uptoBulkEntry {H : Type} : Lit × DataW H → Nat
  | (.string bytes, d) => bytes.length + uptoBulk d + 1
  | (_, d) => uptoBulk d + 1
 end
def uptoSmall : (H : Type) → List (DataW H) → Bool := fun _ ds => decide (uptoBulkAll ds ≤ 1048576)
def OpenSpec.upto (s : _root_.Go.ChangeSpec) : _root_.Go.OpenSpec := { _root_.Go.OpenSpec.ofChange s with cond := some uptoSmall }

/-- 'laws.FnExactPartCommittee', WHERE WHAT IT READS IS OF BULK AT MOST 1048576: true; the input reads as it did. -/
def fnExactPartCommitteeUptoRow : OpenClaim := { program := "yticnoiflccbhcaa", sum := "9a69c210c076315677de466cae29b5cf34d917132209be890a01686f76de2fc8", func := "loop.example/g01275/laws.FnExactPartCommittee", spec := "fnExactPartCommittee", unfollowed := true, recurses := true, apart := false, narrowed := true }
def FnExactPartCommitteeUptoSaid : Prop := fnExactPartCommitteeUptoRow.holds Try.pinned (OpenSpec.upto fnExactPartCommitteeSpec)

/-- 'laws.FnExactQuotaOfGame', WHERE WHAT IT READS IS OF BULK AT MOST 1048576: true; the input reads as it did. -/
def fnExactQuotaOfGameUptoRow : OpenClaim := { program := "yticnoiflccbhcaa", sum := "9a69c210c076315677de466cae29b5cf34d917132209be890a01686f76de2fc8", func := "loop.example/g01275/laws.FnExactQuotaOfGame", spec := "fnExactQuotaOfGame", unfollowed := true, recurses := true, apart := false, narrowed := true }
def FnExactQuotaOfGameUptoSaid : Prop := fnExactQuotaOfGameUptoRow.holds Try.pinned (OpenSpec.upto fnExactQuotaOfGameSpec)

/-- 'laws.FnExactDoesFitGame', WHERE WHAT IT READS IS OF BULK AT MOST 1048576: true; the input reads as it did. -/
def fnExactDoesFitGameUptoRow : OpenClaim := { program := "yticnoiflccbhcaa", sum := "9a69c210c076315677de466cae29b5cf34d917132209be890a01686f76de2fc8", func := "loop.example/g01275/laws.FnExactDoesFitGame", spec := "fnExactDoesFitGame", unfollowed := true, recurses := true, apart := false, narrowed := true }
def FnExactDoesFitGameUptoSaid : Prop := fnExactDoesFitGameUptoRow.holds Try.pinned (OpenSpec.upto fnExactDoesFitGameSpec)

/-- 'laws.FnExactSortCommittee', WHERE WHAT IT READS IS OF BULK AT MOST 1048576: true; the input reads as it did. -/
def fnExactSortCommitteeUptoRow : OpenClaim := { program := "yticnoiflccbhcaa", sum := "9a69c210c076315677de466cae29b5cf34d917132209be890a01686f76de2fc8", func := "loop.example/g01275/laws.FnExactSortCommittee", spec := "fnExactSortCommittee", unfollowed := true, recurses := true, apart := false, narrowed := true }
def FnExactSortCommitteeUptoSaid : Prop := fnExactSortCommitteeUptoRow.holds Try.pinned (OpenSpec.upto fnExactSortCommitteeSpec)

/-- 'laws.FnExactSmallestWin', WHERE WHAT IT READS IS OF BULK AT MOST 1048576: true; the input reads as it did. -/
def fnExactSmallestWinUptoRow : OpenClaim := { program := "yticnoiflccbhcaa", sum := "9a69c210c076315677de466cae29b5cf34d917132209be890a01686f76de2fc8", func := "loop.example/g01275/laws.FnExactSmallestWin", spec := "fnExactSmallestWin", unfollowed := true, recurses := true, apart := false, narrowed := true }
def FnExactSmallestWinUptoSaid : Prop := fnExactSmallestWinUptoRow.holds Try.pinned (OpenSpec.upto fnExactSmallestWinSpec)

/-- 'laws.FnExactSizesOfLeast', WHERE WHAT IT READS IS OF BULK AT MOST 1048576: true; the input reads as it did. -/
def fnExactSizesOfLeastUptoRow : OpenClaim := { program := "yticnoiflccbhcaa", sum := "9a69c210c076315677de466cae29b5cf34d917132209be890a01686f76de2fc8", func := "loop.example/g01275/laws.FnExactSizesOfLeast", spec := "fnExactSizesOfLeast", unfollowed := true, recurses := true, apart := false, narrowed := true }
def FnExactSizesOfLeastUptoSaid : Prop := fnExactSizesOfLeastUptoRow.holds Try.pinned (OpenSpec.upto fnExactSizesOfLeastSpec)

/-- 'laws.FnExactSwingSets', WHERE WHAT IT READS IS OF BULK AT MOST 1048576: true; the input reads as it did. -/
def fnExactSwingSetsUptoRow : OpenClaim := { program := "yticnoiflccbhcaa", sum := "9a69c210c076315677de466cae29b5cf34d917132209be890a01686f76de2fc8", func := "loop.example/g01275/laws.FnExactSwingSets", spec := "fnExactSwingSets", unfollowed := true, recurses := true, apart := false, narrowed := true }
def FnExactSwingSetsUptoSaid : Prop := fnExactSwingSetsUptoRow.holds Try.pinned (OpenSpec.upto fnExactSwingSetsSpec)

/-- 'laws.FnExactLeastSetCounts', WHERE WHAT IT READS IS OF BULK AT MOST 1048576: true; the input reads as it did. -/
def fnExactLeastSetCountsUptoRow : OpenClaim := { program := "yticnoiflccbhcaa", sum := "9a69c210c076315677de466cae29b5cf34d917132209be890a01686f76de2fc8", func := "loop.example/g01275/laws.FnExactLeastSetCounts", spec := "fnExactLeastSetCounts", unfollowed := true, recurses := true, apart := false, narrowed := true }
def FnExactLeastSetCountsUptoSaid : Prop := fnExactLeastSetCountsUptoRow.holds Try.pinned (OpenSpec.upto fnExactLeastSetCountsSpec)

/-- 'laws.FnExactGreatestLosing', WHERE WHAT IT READS IS OF BULK AT MOST 1048576: true; the input reads as it did. -/
def fnExactGreatestLosingUptoRow : OpenClaim := { program := "yticnoiflccbhcaa", sum := "9a69c210c076315677de466cae29b5cf34d917132209be890a01686f76de2fc8", func := "loop.example/g01275/laws.FnExactGreatestLosing", spec := "fnExactGreatestLosing", unfollowed := true, recurses := true, apart := false, narrowed := true }
def FnExactGreatestLosingUptoSaid : Prop := fnExactGreatestLosingUptoRow.holds Try.pinned (OpenSpec.upto fnExactGreatestLosingSpec)

/-- 'laws.FnExactLeastWinning', WHERE WHAT IT READS IS OF BULK AT MOST 1048576: true; the input reads as it did. -/
def fnExactLeastWinningUptoRow : OpenClaim := { program := "yticnoiflccbhcaa", sum := "9a69c210c076315677de466cae29b5cf34d917132209be890a01686f76de2fc8", func := "loop.example/g01275/laws.FnExactLeastWinning", spec := "fnExactLeastWinning", unfollowed := true, recurses := true, apart := false, narrowed := true }
def FnExactLeastWinningUptoSaid : Prop := fnExactLeastWinningUptoRow.holds Try.pinned (OpenSpec.upto fnExactLeastWinningSpec)

/-- 'laws.FnExactLeastBlocking', WHERE WHAT IT READS IS OF BULK AT MOST 1048576: true; the input reads as it did. -/
def fnExactLeastBlockingUptoRow : OpenClaim := { program := "yticnoiflccbhcaa", sum := "9a69c210c076315677de466cae29b5cf34d917132209be890a01686f76de2fc8", func := "loop.example/g01275/laws.FnExactLeastBlocking", spec := "fnExactLeastBlocking", unfollowed := true, recurses := true, apart := false, narrowed := true }
def FnExactLeastBlockingUptoSaid : Prop := fnExactLeastBlockingUptoRow.holds Try.pinned (OpenSpec.upto fnExactLeastBlockingSpec)

/-- 'laws.FnExactDummiesOf', WHERE WHAT IT READS IS OF BULK AT MOST 1048576: true; the input reads as it did. -/
def fnExactDummiesOfUptoRow : OpenClaim := { program := "yticnoiflccbhcaa", sum := "9a69c210c076315677de466cae29b5cf34d917132209be890a01686f76de2fc8", func := "loop.example/g01275/laws.FnExactDummiesOf", spec := "fnExactDummiesOf", unfollowed := true, recurses := true, apart := false, narrowed := true }
def FnExactDummiesOfUptoSaid : Prop := fnExactDummiesOfUptoRow.holds Try.pinned (OpenSpec.upto fnExactDummiesOfSpec)

end Rows
end Go.Proofs.Yticnoiflccbhcaa
