/-
  DERIVED. GIVEN WITH THE SEED: THE CARDS: each row of YtfjidpnkindifaaGreatDoorRows.lean that lists a variable, with what it lists TIED to the program's text (the seventh form; the later family's looks); each row that meets fmt, with fmt's text TOLD by the authors' own Lean function (tested against real Go, not proved from fmt's source: count such statements apart). THE CARD IS WHAT COUNTS. Prove the row's statement (the work); the ties are given (YtfjidpnkindifaaGreatDoorTie.lean); close each card by the builder's one call (the guide's Derived/Test/ToyasCard.lean, 'card_holds'). Laid BY PROGRAM, IN A SANDBOX (cutbox-door.mjs). By AI agents, Wed Nov 11 2026. No macro, syntax, notation, axiom, sorry.
-/
import Derived.Test.YtfjidpnkindifaaGreatDoorRows
import GoSem.ClaimSeven
namespace Go.Proofs.YtfjidpnkindifaaGreatDoor
namespace Rows

/-- THE TIED CARD OF 'ringworklaw29.GuardOpens'. -/
def guardOpensCard : Claim7 := { stood := { row := guardOpensRow, standIns := [], harness := (true, "6e3e352fded96356f01cb80552076d2ce88be5b9b3d7b9fd2cddc4dcf4b81394"), looks := true }, kinds := [], alts := [], laidByText := true, laidKinds := [.data, .data, .data, .sentinel, .sentinel], laidTests := true, laidLooks := .later }
def GuardOpensCardSaid : Prop := Claim7.holds Tryz.pinned (.plain (OpenSpec.ofChange guardOpensSpec)) guardOpensCard

/-- THE SECOND FORM's CARD OF 'ringworklaw29.GuardOpens'. -/
def guardOpensUptoCard : Claim7 := { stood := { row := guardOpensUptoRow, standIns := [], harness := (true, "6e3e352fded96356f01cb80552076d2ce88be5b9b3d7b9fd2cddc4dcf4b81394"), looks := true }, kinds := [], alts := [], laidByText := true, laidKinds := [.data, .data, .data, .sentinel, .sentinel], laidTests := true, laidLooks := .later }
def GuardOpensUptoCardSaid : Prop := Claim7.holds Tryz.pinned (.plain (OpenSpec.upto guardOpensSpec)) guardOpensUptoCard
end Rows
end Go.Proofs.YtfjidpnkindifaaGreatDoor
