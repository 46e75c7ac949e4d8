/-
  No cell of these rows narrows 'for every input' (looked for: loops, veiled, ifaces, maps, wideKeys, modest, calm, conditions, laid).
  DERIVED. THE GIVEN ROWS OF THIS SEAT. 7 by the template 'for every input the law returns true; each argument reads behind the call as it read before'; 0 by the template 'total and deterministic' (their statements: YtnlloecbjohfdaaTotals.lean).
  GIVEN WITH THE SEED: the statements are not yours to turn. If you find one false, say at which input.
  Laid BY PROGRAM, IN A SANDBOX (cutbox-rows.mjs): the forced cells as the released guide's own fill.sh prints them over the translation 5cd99de19363cb90… (all of the seat's roots in one cut). By AI agents, Wed Nov 11 2026. No macro, syntax, notation, axiom, sorry.
-/
import Derived.Test.YtnlloecbjohfdaaChecked
import GoSem.Claim
import GoSem.ClaimJoined
import GoSem.ClaimMapViews
import Derived.JoinedTies
import Derived.KernelRfl
namespace Go.Proofs.Ytnlloecbjohfdaa
/- THE CELL 'sum', in the pinned program and in every row, IS THE sha256 OF THE DUMP (.gsa) THAT YtnlloecbjohfdaaProg.lean LOADS. Nothing in Lean hashes anything: it is a label: what it is worth is what the hold of that sum in a sandbox is worth. -/
noncomputable def Try.pinned : Pinned := { name := "ytnlloecbjohfdaa", sum := "5cd99de19363cb902dda4878758ba0f3fe47e942113233c309c767ad5fd0958f", checked := Try.checked }
namespace Rows
def none {H : Type} : Left H := { results := [], args := [] }

/-- 'stirruplaw38.BlockTurned': WHATEVER THE INPUT: true; the input reads as it did. -/
def blockTurnedSpec : ChangeSpec := { name := "blockTurned", fn := fun _ => fun
  | [d1, d2, d3, d4, d5] => { results := [.lit (.bool true)], args := [d1, d2, d3, d4, d5] }
  | _ => none }
def blockTurnedRow : OpenClaim := { program := "ytnlloecbjohfdaa", sum := "5cd99de19363cb902dda4878758ba0f3fe47e942113233c309c767ad5fd0958f", func := "stirrup/stirruplaw38.BlockTurned", spec := "blockTurned", unfollowed := true, recurses := true, apart := false }
def BlockTurnedSaid : Prop := blockTurnedRow.holds Try.pinned (OpenSpec.ofChange blockTurnedSpec)

/-- ITS FALSE NEIGHBOUR: 'it returns false'. Refute it at one input. -/
def blockTurnedWrong : ChangeSpec := { name := "blockTurned", fn := fun _ => fun
  | [d1, d2, d3, d4, d5] => { results := [.lit (.bool false)], args := [d1, d2, d3, d4, d5] }
  | _ => none }
def BlockTurnedWrongFalsely : Prop := blockTurnedRow.holds Try.pinned (OpenSpec.ofChange blockTurnedWrong)

/-- 'stirruplaw38.BlockKeeps': WHATEVER THE INPUT: true; the input reads as it did. -/
def blockKeepsSpec : ChangeSpec := { name := "blockKeeps", fn := fun _ => fun
  | [d1, d2, d3, d4, d5, d6] => { results := [.lit (.bool true)], args := [d1, d2, d3, d4, d5, d6] }
  | _ => none }
def blockKeepsRow : OpenClaim := { program := "ytnlloecbjohfdaa", sum := "5cd99de19363cb902dda4878758ba0f3fe47e942113233c309c767ad5fd0958f", func := "stirrup/stirruplaw38.BlockKeeps", spec := "blockKeeps", unfollowed := true, recurses := true, apart := false }
def BlockKeepsSaid : Prop := blockKeepsRow.holds Try.pinned (OpenSpec.ofChange blockKeepsSpec)

/-- ITS FALSE NEIGHBOUR: 'it returns false'. Refute it at one input. -/
def blockKeepsWrong : ChangeSpec := { name := "blockKeeps", fn := fun _ => fun
  | [d1, d2, d3, d4, d5, d6] => { results := [.lit (.bool false)], args := [d1, d2, d3, d4, d5, d6] }
  | _ => none }
def BlockKeepsWrongFalsely : Prop := blockKeepsRow.holds Try.pinned (OpenSpec.ofChange blockKeepsWrong)

/-- 'stirruplaw38.BlockShows': WHATEVER THE INPUT: true; the input reads as it did. -/
def blockShowsSpec : ChangeSpec := { name := "blockShows", fn := fun _ => fun
  | [d1, d2, d3, d4, d5] => { results := [.lit (.bool true)], args := [d1, d2, d3, d4, d5] }
  | _ => none }
def blockShowsRow : OpenClaim := { program := "ytnlloecbjohfdaa", sum := "5cd99de19363cb902dda4878758ba0f3fe47e942113233c309c767ad5fd0958f", func := "stirrup/stirruplaw38.BlockShows", spec := "blockShows", unfollowed := true, recurses := true, apart := false }
def BlockShowsSaid : Prop := blockShowsRow.holds Try.pinned (OpenSpec.ofChange blockShowsSpec)

/-- ITS FALSE NEIGHBOUR: 'it returns false'. Refute it at one input. -/
def blockShowsWrong : ChangeSpec := { name := "blockShows", fn := fun _ => fun
  | [d1, d2, d3, d4, d5] => { results := [.lit (.bool false)], args := [d1, d2, d3, d4, d5] }
  | _ => none }
def BlockShowsWrongFalsely : Prop := blockShowsRow.holds Try.pinned (OpenSpec.ofChange blockShowsWrong)

/-- 'stirruplaw19.ClashPoints': WHATEVER THE INPUT: true; the input reads as it did. -/
def clashPointsSpec : ChangeSpec := { name := "clashPoints", fn := fun _ => fun
  | [d1, d2, d3, d4, d5, d6, d7, d8] => { results := [.lit (.bool true)], args := [d1, d2, d3, d4, d5, d6, d7, d8] }
  | _ => none }
def clashPointsRow : OpenClaim := { program := "ytnlloecbjohfdaa", sum := "5cd99de19363cb902dda4878758ba0f3fe47e942113233c309c767ad5fd0958f", func := "stirrup/stirruplaw19.ClashPoints", spec := "clashPoints", unfollowed := true, recurses := true, apart := false }
def ClashPointsSaid : Prop := clashPointsRow.holds Try.pinned (OpenSpec.ofChange clashPointsSpec)

/-- ITS FALSE NEIGHBOUR: 'it returns false'. Refute it at one input. -/
def clashPointsWrong : ChangeSpec := { name := "clashPoints", fn := fun _ => fun
  | [d1, d2, d3, d4, d5, d6, d7, d8] => { results := [.lit (.bool false)], args := [d1, d2, d3, d4, d5, d6, d7, d8] }
  | _ => none }
def ClashPointsWrongFalsely : Prop := clashPointsRow.holds Try.pinned (OpenSpec.ofChange clashPointsWrong)

/-- 'stirruplaw19.ClashNearest': WHATEVER THE INPUT: true; the input reads as it did. -/
def clashNearestSpec : ChangeSpec := { name := "clashNearest", fn := fun _ => fun
  | [d1, d2, d3, d4] => { results := [.lit (.bool true)], args := [d1, d2, d3, d4] }
  | _ => none }
def clashNearestRow : OpenClaim := { program := "ytnlloecbjohfdaa", sum := "5cd99de19363cb902dda4878758ba0f3fe47e942113233c309c767ad5fd0958f", func := "stirrup/stirruplaw19.ClashNearest", spec := "clashNearest", unfollowed := true, recurses := true, apart := false }
def ClashNearestSaid : Prop := clashNearestRow.holds Try.pinned (OpenSpec.ofChange clashNearestSpec)

/-- ITS FALSE NEIGHBOUR: 'it returns false'. Refute it at one input. -/
def clashNearestWrong : ChangeSpec := { name := "clashNearest", fn := fun _ => fun
  | [d1, d2, d3, d4] => { results := [.lit (.bool false)], args := [d1, d2, d3, d4] }
  | _ => none }
def ClashNearestWrongFalsely : Prop := clashNearestRow.holds Try.pinned (OpenSpec.ofChange clashNearestWrong)

/-- 'stirruplaw19.ClashMoved': WHATEVER THE INPUT: true; the input reads as it did. -/
def clashMovedSpec : ChangeSpec := { name := "clashMoved", fn := fun _ => fun
  | [d1, d2, d3, d4] => { results := [.lit (.bool true)], args := [d1, d2, d3, d4] }
  | _ => none }
def clashMovedRow : OpenClaim := { program := "ytnlloecbjohfdaa", sum := "5cd99de19363cb902dda4878758ba0f3fe47e942113233c309c767ad5fd0958f", func := "stirrup/stirruplaw19.ClashMoved", spec := "clashMoved", unfollowed := true, recurses := true, apart := false }
def ClashMovedSaid : Prop := clashMovedRow.holds Try.pinned (OpenSpec.ofChange clashMovedSpec)

/-- ITS FALSE NEIGHBOUR: 'it returns false'. Refute it at one input. -/
def clashMovedWrong : ChangeSpec := { name := "clashMoved", fn := fun _ => fun
  | [d1, d2, d3, d4] => { results := [.lit (.bool false)], args := [d1, d2, d3, d4] }
  | _ => none }
def ClashMovedWrongFalsely : Prop := clashMovedRow.holds Try.pinned (OpenSpec.ofChange clashMovedWrong)

/-- 'stirruplaw38.BlockFewer': WHATEVER THE INPUT: true; the input reads as it did. -/
def blockFewerSpec : ChangeSpec := { name := "blockFewer", fn := fun _ => fun
  | [d1, d2, d3, d4, d5, d6] => { results := [.lit (.bool true)], args := [d1, d2, d3, d4, d5, d6] }
  | _ => none }
def blockFewerRow : OpenClaim := { program := "ytnlloecbjohfdaa", sum := "5cd99de19363cb902dda4878758ba0f3fe47e942113233c309c767ad5fd0958f", func := "stirrup/stirruplaw38.BlockFewer", spec := "blockFewer", unfollowed := true, recurses := true, apart := false }
def BlockFewerSaid : Prop := blockFewerRow.holds Try.pinned (OpenSpec.ofChange blockFewerSpec)

/-- ITS FALSE NEIGHBOUR: 'it returns false'. Refute it at one input. -/
def blockFewerWrong : ChangeSpec := { name := "blockFewer", fn := fun _ => fun
  | [d1, d2, d3, d4, d5, d6] => { results := [.lit (.bool false)], args := [d1, d2, d3, d4, d5, d6] }
  | _ => none }
def BlockFewerWrongFalsely : Prop := blockFewerRow.holds Try.pinned (OpenSpec.ofChange blockFewerWrong)

/- THE SECOND FORM. 'bulk': how many values and letters a reading holds, each counted each time it is reached (what is shared counts as often as it is met; a slice's spare places count too). A statement '..UptoSaid' is the law's where the arguments, and the package variables that the reading takes, are together of bulk at most 1048576: NARROWER than '..Said'. Prove '..Said' where nothing that the law and all that it calls make is longer than what came in: it says more and counts as full. Else prove '..UptoSaid'. A law counts once. -/
mutual
def uptoBulk {H : Type} : DataW H → Nat
  | .lit (.string bytes) => bytes.length + 1
  | .lit _ => 1
  | .nil => 1
  | .ptr d => uptoBulk d + 1
  | .slice elems spare => uptoBulkAll elems + uptoBulkAll spare + 1
  | .agg parts => uptoBulkAll parts + 1
  | .iface _ d => uptoBulk d + 1
  | .map entries => uptoBulkEntries entries + 1
  | .held _ => 1
def uptoBulkAll {H : Type} : List (DataW H) → Nat
  | [] => 0
  | d :: r => uptoBulk d + uptoBulkAll r
def uptoBulkEntries {H : Type} : List (Lit × DataW H) → Nat
  | [] => 0
  | x :: r => uptoBulkEntry x + uptoBulkEntries r
def uptoBulkEntry {H : Type} : Lit × DataW H → Nat
  | (.string bytes, d) => bytes.length + uptoBulk d + 1
  | (_, d) => uptoBulk d + 1
 end
def uptoSmall : (H : Type) → List (DataW H) → Bool := fun _ ds => decide (uptoBulkAll ds ≤ 1048576)
def OpenSpec.upto (s : _root_.Go.ChangeSpec) : _root_.Go.OpenSpec := { _root_.Go.OpenSpec.ofChange s with cond := some uptoSmall }

/-- 'stirruplaw38.BlockTurned', WHERE WHAT IT READS IS OF BULK AT MOST 1048576: true; the input reads as it did. -/
def blockTurnedUptoRow : OpenClaim := { program := "ytnlloecbjohfdaa", sum := "5cd99de19363cb902dda4878758ba0f3fe47e942113233c309c767ad5fd0958f", func := "stirrup/stirruplaw38.BlockTurned", spec := "blockTurned", unfollowed := true, recurses := true, apart := false, narrowed := true }
def BlockTurnedUptoSaid : Prop := blockTurnedUptoRow.holds Try.pinned (OpenSpec.upto blockTurnedSpec)

/-- 'stirruplaw38.BlockKeeps', WHERE WHAT IT READS IS OF BULK AT MOST 1048576: true; the input reads as it did. -/
def blockKeepsUptoRow : OpenClaim := { program := "ytnlloecbjohfdaa", sum := "5cd99de19363cb902dda4878758ba0f3fe47e942113233c309c767ad5fd0958f", func := "stirrup/stirruplaw38.BlockKeeps", spec := "blockKeeps", unfollowed := true, recurses := true, apart := false, narrowed := true }
def BlockKeepsUptoSaid : Prop := blockKeepsUptoRow.holds Try.pinned (OpenSpec.upto blockKeepsSpec)

/-- 'stirruplaw38.BlockShows', WHERE WHAT IT READS IS OF BULK AT MOST 1048576: true; the input reads as it did. -/
def blockShowsUptoRow : OpenClaim := { program := "ytnlloecbjohfdaa", sum := "5cd99de19363cb902dda4878758ba0f3fe47e942113233c309c767ad5fd0958f", func := "stirrup/stirruplaw38.BlockShows", spec := "blockShows", unfollowed := true, recurses := true, apart := false, narrowed := true }
def BlockShowsUptoSaid : Prop := blockShowsUptoRow.holds Try.pinned (OpenSpec.upto blockShowsSpec)

/-- 'stirruplaw19.ClashPoints', WHERE WHAT IT READS IS OF BULK AT MOST 1048576: true; the input reads as it did. -/
def clashPointsUptoRow : OpenClaim := { program := "ytnlloecbjohfdaa", sum := "5cd99de19363cb902dda4878758ba0f3fe47e942113233c309c767ad5fd0958f", func := "stirrup/stirruplaw19.ClashPoints", spec := "clashPoints", unfollowed := true, recurses := true, apart := false, narrowed := true }
def ClashPointsUptoSaid : Prop := clashPointsUptoRow.holds Try.pinned (OpenSpec.upto clashPointsSpec)

/-- 'stirruplaw19.ClashNearest', WHERE WHAT IT READS IS OF BULK AT MOST 1048576: true; the input reads as it did. -/
def clashNearestUptoRow : OpenClaim := { program := "ytnlloecbjohfdaa", sum := "5cd99de19363cb902dda4878758ba0f3fe47e942113233c309c767ad5fd0958f", func := "stirrup/stirruplaw19.ClashNearest", spec := "clashNearest", unfollowed := true, recurses := true, apart := false, narrowed := true }
def ClashNearestUptoSaid : Prop := clashNearestUptoRow.holds Try.pinned (OpenSpec.upto clashNearestSpec)

/-- 'stirruplaw19.ClashMoved', WHERE WHAT IT READS IS OF BULK AT MOST 1048576: true; the input reads as it did. -/
def clashMovedUptoRow : OpenClaim := { program := "ytnlloecbjohfdaa", sum := "5cd99de19363cb902dda4878758ba0f3fe47e942113233c309c767ad5fd0958f", func := "stirrup/stirruplaw19.ClashMoved", spec := "clashMoved", unfollowed := true, recurses := true, apart := false, narrowed := true }
def ClashMovedUptoSaid : Prop := clashMovedUptoRow.holds Try.pinned (OpenSpec.upto clashMovedSpec)

/-- 'stirruplaw38.BlockFewer', WHERE WHAT IT READS IS OF BULK AT MOST 1048576: true; the input reads as it did. -/
def blockFewerUptoRow : OpenClaim := { program := "ytnlloecbjohfdaa", sum := "5cd99de19363cb902dda4878758ba0f3fe47e942113233c309c767ad5fd0958f", func := "stirrup/stirruplaw38.BlockFewer", spec := "blockFewer", unfollowed := true, recurses := true, apart := false, narrowed := true }
def BlockFewerUptoSaid : Prop := blockFewerUptoRow.holds Try.pinned (OpenSpec.upto blockFewerSpec)

end Rows
end Go.Proofs.Ytnlloecbjohfdaa
