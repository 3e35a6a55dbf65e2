/-
  DERIVED. GIVEN WITH THE SEED: THE CARDS: each row of YtaambkdiokbdgacGreatDoorRows.lean that lists a variable, with what it lists TIED to the program's text (the seventh form; the later family's looks); each row that meets fmt, with fmt's text TOLD by the authors' own Lean function (tested against real Go, not proved from fmt's source: count such statements apart). THE CARD IS WHAT COUNTS. Prove the row's statement (the work); the ties are given (YtaambkdiokbdgacGreatDoorTie.lean); close each card by the builder's one call (the guide's Derived/Test/ToyasCard.lean, 'card_holds'). Laid BY PROGRAM, IN A SANDBOX (cutbox-door.mjs). By AI agents, Wed Nov 11 2026. No macro, syntax, notation, axiom, sorry.
-/
import Derived.Test.YtaambkdiokbdgacGreatDoorRows
import GoSem.ClaimSeven
namespace Go.Proofs.YtaambkdiokbdgacGreatDoor
namespace Rows

/-- THE TIED CARD OF 'laws.FnCommitteesChangeOfAll'. -/
def fnCommitteesChangeOfAllCard : Claim7 := { stood := { row := fnCommitteesChangeOfAllRow, standIns := [], harness := (true, "d80021c5fd8dd15435dcb4807c8558596e5c651268f7d506a3feb3a864142d11"), looks := true }, kinds := [], alts := [], laidByText := true, laidKinds := [.data, .data, .data, .data, .sentinel, .sentinel, .pinned], laidTests := true, laidLooks := .later }
def FnCommitteesChangeOfAllCardSaid : Prop := Claim7.holds Tryz.pinned (.plain (OpenSpec.ofChange fnCommitteesChangeOfAllSpec)) fnCommitteesChangeOfAllCard

/-- THE TIED CARD OF 'laws.FnCommitteesChange'. -/
def fnCommitteesChangeCard : Claim7 := { stood := { row := fnCommitteesChangeRow, standIns := [], harness := (true, "d80021c5fd8dd15435dcb4807c8558596e5c651268f7d506a3feb3a864142d11"), looks := true }, kinds := [], alts := [], laidByText := true, laidKinds := [.data, .data, .data, .data, .sentinel, .sentinel, .pinned], laidTests := true, laidLooks := .later }
def FnCommitteesChangeCardSaid : Prop := Claim7.holds Tryz.pinned (.plain (OpenSpec.ofChange fnCommitteesChangeSpec)) fnCommitteesChangeCard

/-- THE SECOND FORM's CARD OF 'laws.FnCommitteesChangeOfAll'. -/
def fnCommitteesChangeOfAllUptoCard : Claim7 := { stood := { row := fnCommitteesChangeOfAllUptoRow, standIns := [], harness := (true, "d80021c5fd8dd15435dcb4807c8558596e5c651268f7d506a3feb3a864142d11"), looks := true }, kinds := [], alts := [], laidByText := true, laidKinds := [.data, .data, .data, .data, .sentinel, .sentinel, .pinned], laidTests := true, laidLooks := .later }
def FnCommitteesChangeOfAllUptoCardSaid : Prop := Claim7.holds Tryz.pinned (.plain (OpenSpec.upto fnCommitteesChangeOfAllSpec)) fnCommitteesChangeOfAllUptoCard

/-- THE SECOND FORM's CARD OF 'laws.FnCommitteesChange'. -/
def fnCommitteesChangeUptoCard : Claim7 := { stood := { row := fnCommitteesChangeUptoRow, standIns := [], harness := (true, "d80021c5fd8dd15435dcb4807c8558596e5c651268f7d506a3feb3a864142d11"), looks := true }, kinds := [], alts := [], laidByText := true, laidKinds := [.data, .data, .data, .data, .sentinel, .sentinel, .pinned], laidTests := true, laidLooks := .later }
def FnCommitteesChangeUptoCardSaid : Prop := Claim7.holds Tryz.pinned (.plain (OpenSpec.upto fnCommitteesChangeSpec)) fnCommitteesChangeUptoCard
end Rows
end Go.Proofs.YtaambkdiokbdgacGreatDoor
