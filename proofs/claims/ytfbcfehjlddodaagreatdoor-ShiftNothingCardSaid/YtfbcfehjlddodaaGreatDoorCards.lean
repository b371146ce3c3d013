/-
  DERIVED. GIVEN WITH THE SEED: THE CARDS: each row of YtfbcfehjlddodaaGreatDoorRows.lean that lists a variable, with what it lists TIED to the program's text (the seventh form; the later family's looks); each row that meets fmt, with fmt's text TOLD by the authors' own Lean function (tested against real Go, not proved from fmt's source: count such statements apart). THE CARD IS WHAT COUNTS. Prove the row's statement (the work); the ties are given (YtfbcfehjlddodaaGreatDoorTie.lean); close each card by the builder's one call (the guide's Derived/Test/ToyasCard.lean, 'card_holds'). Laid BY PROGRAM, IN A SANDBOX (cutbox-door.mjs). By AI agents, Wed Nov 11 2026. No macro, syntax, notation, axiom, sorry.
-/
import Derived.Test.YtfbcfehjlddodaaGreatDoorRows
import GoSem.ClaimSeven
namespace Go.Proofs.YtfbcfehjlddodaaGreatDoor
namespace Rows

/-- THE TIED CARD OF 'ringworklaw28.ShiftNothing'. -/
def shiftNothingCard : Claim7 := { stood := { row := shiftNothingRow, standIns := [], harness := (true, "192819fabc5af683881eb2a522ed7f6c255475f12414cca0128652265c2551e4"), looks := true }, kinds := [], alts := [], laidByText := true, laidKinds := [.sentinel, .sentinel, .data, .data, .data, .pinned, .data], laidTests := true, laidLooks := .later }
def ShiftNothingCardSaid : Prop := Claim7.holds Tryz.pinned (.plain (OpenSpec.ofChange shiftNothingSpec)) shiftNothingCard

/-- THE SECOND FORM's CARD OF 'ringworklaw28.ShiftNothing'. -/
def shiftNothingUptoCard : Claim7 := { stood := { row := shiftNothingUptoRow, standIns := [], harness := (true, "192819fabc5af683881eb2a522ed7f6c255475f12414cca0128652265c2551e4"), looks := true }, kinds := [], alts := [], laidByText := true, laidKinds := [.sentinel, .sentinel, .data, .data, .data, .pinned, .data], laidTests := true, laidLooks := .later }
def ShiftNothingUptoCardSaid : Prop := Claim7.holds Tryz.pinned (.plain (OpenSpec.upto shiftNothingSpec)) shiftNothingUptoCard
end Rows
end Go.Proofs.YtfbcfehjlddodaaGreatDoor
