/-
  DERIVED. GIVEN WITH THE SEED: THE CARDS: each row of YtejcgjdfajppgaaGreatDoorRows.lean that lists a variable, with what it lists TIED to the program's text (the seventh form; the later family's looks); each row that meets fmt, with fmt's text TOLD by the authors' own Lean function (tested against real Go, not proved from fmt's source: count such statements apart). THE CARD IS WHAT COUNTS. Prove the row's statement (the work); the ties are given (YtejcgjdfajppgaaGreatDoorTie.lean); close each card by the builder's one call (the guide's Derived/Test/ToyasCard.lean, 'card_holds'). Laid BY PROGRAM, IN A SANDBOX (cutbox-door.mjs). By AI agents, Wed Nov 11 2026. No macro, syntax, notation, axiom, sorry.
-/
import Derived.Test.YtejcgjdfajppgaaGreatDoorRows
import GoSem.ClaimSeven
namespace Go.Proofs.YtejcgjdfajppgaaGreatDoor
namespace Rows

/-- THE TIED CARD OF 'stirruptop.TopMachines'. -/
def topMachinesCard : Claim7 := { stood := { row := topMachinesRow, standIns := [], harness := (true, "74bdb2883bbe471d889378c6da872250d8e253ee5bef056f2e5f7ec7e4bf4156"), looks := false }, kinds := [], alts := [], laidByText := true, laidKinds := [.data, .data, .data], laidTests := true, laidLooks := .later }
def TopMachinesCardSaid : Prop := Claim7.holds Tryz.pinned (.plain (OpenSpec.ofChange topMachinesSpec)) topMachinesCard

/-- THE SECOND FORM's CARD OF 'stirruptop.TopMachines'. -/
def topMachinesUptoCard : Claim7 := { stood := { row := topMachinesUptoRow, standIns := [], harness := (true, "74bdb2883bbe471d889378c6da872250d8e253ee5bef056f2e5f7ec7e4bf4156"), looks := false }, kinds := [], alts := [], laidByText := true, laidKinds := [.data, .data, .data], laidTests := true, laidLooks := .later }
def TopMachinesUptoCardSaid : Prop := Claim7.holds Tryz.pinned (.plain (OpenSpec.upto topMachinesSpec)) topMachinesUptoCard
end Rows
end Go.Proofs.YtejcgjdfajppgaaGreatDoor
