/-
  DERIVED. GIVEN WITH THE SEED: THE CARDS: each row of YtejcgjdfajppgaaDoorRows.lean that lists a variable, with what it lists TIED to the program's text (the seventh form; the later family's looks); each row that meets fmt, with fmt's text TOLD by the authors' own Lean function (tested against real Go, not proved from fmt's source: count such statements apart). THE CARD IS WHAT COUNTS. Prove the row's statement (the work); the ties are given (YtejcgjdfajppgaaDoorTie.lean); close each card by the builder's one call (the guide's Derived/Test/ToyasCard.lean, 'card_holds'). Laid BY PROGRAM, IN A SANDBOX (cutbox-door.mjs). By AI agents, Wed Nov 11 2026. No macro, syntax, notation, axiom, sorry.
-/
import Derived.Test.YtejcgjdfajppgaaDoorRows
import GoSem.ClaimSeven
namespace Go.Proofs.YtejcgjdfajppgaaDoor
namespace Rows

/-- THE TIED CARD OF 'stirruptop.TopDelivered'. -/
def topDeliveredCard : Claim7 := { stood := { row := topDeliveredRow, standIns := [], harness := (true, "f10b18ee2d5d25b1cc3d316337a08c48a91f87ba571f6c178bea861aa4f42fd1"), looks := false }, kinds := [], alts := [], laidByText := true, laidKinds := [.data, .data, .data], laidTests := true, laidLooks := .later }
def TopDeliveredCardSaid : Prop := Claim7.holds Tryd.pinned (.plain (OpenSpec.ofChange topDeliveredSpec)) topDeliveredCard

/-- THE SECOND FORM's CARD OF 'stirruptop.TopDelivered'. -/
def topDeliveredUptoCard : Claim7 := { stood := { row := topDeliveredUptoRow, standIns := [], harness := (true, "f10b18ee2d5d25b1cc3d316337a08c48a91f87ba571f6c178bea861aa4f42fd1"), looks := false }, kinds := [], alts := [], laidByText := true, laidKinds := [.data, .data, .data], laidTests := true, laidLooks := .later }
def TopDeliveredUptoCardSaid : Prop := Claim7.holds Tryd.pinned (.plain (OpenSpec.upto topDeliveredSpec)) topDeliveredUptoCard
end Rows
end Go.Proofs.YtejcgjdfajppgaaDoor
