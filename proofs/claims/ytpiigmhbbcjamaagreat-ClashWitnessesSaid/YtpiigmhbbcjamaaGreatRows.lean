/-
  No cell of these rows narrows 'for every input' (looked for: loops, veiled, ifaces, maps, wideKeys, modest, calm, conditions, laid).
  DERIVED. THE GIVEN ROWS OF THIS SEAT. 4 by the template 'for every input the law returns true; each argument reads behind the call as it read before'; 0 by the template 'total and deterministic' (their statements: YtpiigmhbbcjamaaGreatTotals.lean).
  GIVEN WITH THE SEED: the statements are not yours to turn. If you find one false, say at which input.
  Laid BY PROGRAM, IN A SANDBOX (cutbox-rows.mjs): the forced cells as the released guide's own fill.sh prints them over the translation 6bde00ed94e3e0ff… (all of the seat's roots in one cut). By AI agents, Wed Nov 11 2026. No macro, syntax, notation, axiom, sorry.
-/
import Derived.Test.YtpiigmhbbcjamaaGreatChecked
import GoSem.Claim
import GoSem.ClaimJoined
import GoSem.ClaimMapViews
import Derived.JoinedTies
import Derived.KernelRfl
namespace Go.Proofs.YtpiigmhbbcjamaaGreat
/- THE CELL 'sum', in the pinned program and in every row, IS THE sha256 OF THE DUMP (.gsa) THAT YtpiigmhbbcjamaaGreatProg.lean LOADS. Nothing in Lean hashes anything: it is a label: what it is worth is what the hold of that sum in a sandbox is worth. -/
noncomputable def Tryz.pinned : Pinned := { name := "ytpiigmhbbcjamaagreat", sum := "6bde00ed94e3e0ffcdbd4b33910fd8e03bcc0e2dc9f9308cdba8b748810a74e4", checked := Tryz.checked }
namespace Rows
def none {H : Type} : Left H := { results := [], args := [] }

/-- 'stirruplaw19.ClashSquares': WHATEVER THE INPUT: true; the input reads as it did. -/
def clashSquaresSpec : ChangeSpec := { name := "clashSquares", fn := fun _ => fun
  | [d1, d2, d3, d4, d5, d6, d7] => { results := [.lit (.bool true)], args := [d1, d2, d3, d4, d5, d6, d7] }
  | _ => none }
def clashSquaresRow : OpenClaim := { program := "ytpiigmhbbcjamaagreat", sum := "6bde00ed94e3e0ffcdbd4b33910fd8e03bcc0e2dc9f9308cdba8b748810a74e4", func := "stirrup/stirruplaw19.ClashSquares", spec := "clashSquares", unfollowed := true, recurses := true, apart := false }
def ClashSquaresSaid : Prop := clashSquaresRow.holds Tryz.pinned (OpenSpec.ofChange clashSquaresSpec)

/-- ITS FALSE NEIGHBOUR: 'it returns false'. Refute it at one input. -/
def clashSquaresWrong : ChangeSpec := { name := "clashSquares", fn := fun _ => fun
  | [d1, d2, d3, d4, d5, d6, d7] => { results := [.lit (.bool false)], args := [d1, d2, d3, d4, d5, d6, d7] }
  | _ => none }
def ClashSquaresWrongFalsely : Prop := clashSquaresRow.holds Tryz.pinned (OpenSpec.ofChange clashSquaresWrong)

/-- 'stirruplaw19.ClashPairs': WHATEVER THE INPUT: true; the input reads as it did. -/
def clashPairsSpec : ChangeSpec := { name := "clashPairs", fn := fun _ => fun
  | [d1, d2, d3] => { results := [.lit (.bool true)], args := [d1, d2, d3] }
  | _ => none }
def clashPairsRow : OpenClaim := { program := "ytpiigmhbbcjamaagreat", sum := "6bde00ed94e3e0ffcdbd4b33910fd8e03bcc0e2dc9f9308cdba8b748810a74e4", func := "stirrup/stirruplaw19.ClashPairs", spec := "clashPairs", unfollowed := true, recurses := true, apart := false }
def ClashPairsSaid : Prop := clashPairsRow.holds Tryz.pinned (OpenSpec.ofChange clashPairsSpec)

/-- ITS FALSE NEIGHBOUR: 'it returns false'. Refute it at one input. -/
def clashPairsWrong : ChangeSpec := { name := "clashPairs", fn := fun _ => fun
  | [d1, d2, d3] => { results := [.lit (.bool false)], args := [d1, d2, d3] }
  | _ => none }
def ClashPairsWrongFalsely : Prop := clashPairsRow.holds Tryz.pinned (OpenSpec.ofChange clashPairsWrong)

/-- 'stirruplaw19.ClashWitnesses': WHATEVER THE INPUT: true; the input reads as it did. -/
def clashWitnessesSpec : ChangeSpec := { name := "clashWitnesses", fn := fun _ => fun
  | [d1, d2, d3, d4, d5] => { results := [.lit (.bool true)], args := [d1, d2, d3, d4, d5] }
  | _ => none }
def clashWitnessesRow : OpenClaim := { program := "ytpiigmhbbcjamaagreat", sum := "6bde00ed94e3e0ffcdbd4b33910fd8e03bcc0e2dc9f9308cdba8b748810a74e4", func := "stirrup/stirruplaw19.ClashWitnesses", spec := "clashWitnesses", unfollowed := true, recurses := true, apart := false }
def ClashWitnessesSaid : Prop := clashWitnessesRow.holds Tryz.pinned (OpenSpec.ofChange clashWitnessesSpec)

/-- ITS FALSE NEIGHBOUR: 'it returns false'. Refute it at one input. -/
def clashWitnessesWrong : ChangeSpec := { name := "clashWitnesses", fn := fun _ => fun
  | [d1, d2, d3, d4, d5] => { results := [.lit (.bool false)], args := [d1, d2, d3, d4, d5] }
  | _ => none }
def ClashWitnessesWrongFalsely : Prop := clashWitnessesRow.holds Tryz.pinned (OpenSpec.ofChange clashWitnessesWrong)

/-- 'stirruplaw19.ClashChecks': WHATEVER THE INPUT: true; the input reads as it did. -/
def clashChecksSpec : ChangeSpec := { name := "clashChecks", fn := fun _ => fun
  | [d1, d2, d3, d4] => { results := [.lit (.bool true)], args := [d1, d2, d3, d4] }
  | _ => none }
def clashChecksRow : OpenClaim := { program := "ytpiigmhbbcjamaagreat", sum := "6bde00ed94e3e0ffcdbd4b33910fd8e03bcc0e2dc9f9308cdba8b748810a74e4", func := "stirrup/stirruplaw19.ClashChecks", spec := "clashChecks", unfollowed := true, recurses := true, apart := false }
def ClashChecksSaid : Prop := clashChecksRow.holds Tryz.pinned (OpenSpec.ofChange clashChecksSpec)

/-- ITS FALSE NEIGHBOUR: 'it returns false'. Refute it at one input. -/
def clashChecksWrong : ChangeSpec := { name := "clashChecks", fn := fun _ => fun
  | [d1, d2, d3, d4] => { results := [.lit (.bool false)], args := [d1, d2, d3, d4] }
  | _ => none }
def ClashChecksWrongFalsely : Prop := clashChecksRow.holds Tryz.pinned (OpenSpec.ofChange clashChecksWrong)

/- THE SECOND FORM. 'bulk': how many values and letters a reading holds, each counted each time it is reached (what is shared counts as often as it is met; a slice's spare places count too). A statement '..UptoSaid' is the law's where the arguments, and the package variables that the reading takes, are together of bulk at most 1048576: NARROWER than '..Said'. Prove '..Said' where nothing that the law and all that it calls make is longer than what came in: it says more and counts as full. Else prove '..UptoSaid'. A law counts once. -/
mutual
def uptoBulk {H : Type} : DataW H → Nat
  | .lit (.string bytes) => bytes.length + 1
  | .lit _ => 1
  | .nil => 1
  | .ptr d => uptoBulk d + 1
  | .slice elems spare => uptoBulkAll elems + uptoBulkAll spare + 1
  | .agg parts => uptoBulkAll parts + 1
  | .iface _ d => uptoBulk d + 1
  | .map entries => uptoBulkEntries entries + 1
  | .held _ => 1
def uptoBulkAll {H : Type} : List (DataW H) → Nat
  | [] => 0
  | d :: r => uptoBulk d + uptoBulkAll r
def uptoBulkEntries {H : Type} : List (Lit × DataW H) → Nat
  | [] => 0
  | x :: r => uptoBulkEntry x + uptoBulkEntries r
def uptoBulkEntry {H : Type} : Lit × DataW H → Nat
  | (.string bytes, d) => bytes.length + uptoBulk d + 1
  | (_, d) => uptoBulk d + 1
 end
def uptoSmall : (H : Type) → List (DataW H) → Bool := fun _ ds => decide (uptoBulkAll ds ≤ 1048576)
def OpenSpec.upto (s : _root_.Go.ChangeSpec) : _root_.Go.OpenSpec := { _root_.Go.OpenSpec.ofChange s with cond := some uptoSmall }

/-- 'stirruplaw19.ClashSquares', WHERE WHAT IT READS IS OF BULK AT MOST 1048576: true; the input reads as it did. -/
def clashSquaresUptoRow : OpenClaim := { program := "ytpiigmhbbcjamaagreat", sum := "6bde00ed94e3e0ffcdbd4b33910fd8e03bcc0e2dc9f9308cdba8b748810a74e4", func := "stirrup/stirruplaw19.ClashSquares", spec := "clashSquares", unfollowed := true, recurses := true, apart := false, narrowed := true }
def ClashSquaresUptoSaid : Prop := clashSquaresUptoRow.holds Tryz.pinned (OpenSpec.upto clashSquaresSpec)

/-- 'stirruplaw19.ClashPairs', WHERE WHAT IT READS IS OF BULK AT MOST 1048576: true; the input reads as it did. -/
def clashPairsUptoRow : OpenClaim := { program := "ytpiigmhbbcjamaagreat", sum := "6bde00ed94e3e0ffcdbd4b33910fd8e03bcc0e2dc9f9308cdba8b748810a74e4", func := "stirrup/stirruplaw19.ClashPairs", spec := "clashPairs", unfollowed := true, recurses := true, apart := false, narrowed := true }
def ClashPairsUptoSaid : Prop := clashPairsUptoRow.holds Tryz.pinned (OpenSpec.upto clashPairsSpec)

/-- 'stirruplaw19.ClashWitnesses', WHERE WHAT IT READS IS OF BULK AT MOST 1048576: true; the input reads as it did. -/
def clashWitnessesUptoRow : OpenClaim := { program := "ytpiigmhbbcjamaagreat", sum := "6bde00ed94e3e0ffcdbd4b33910fd8e03bcc0e2dc9f9308cdba8b748810a74e4", func := "stirrup/stirruplaw19.ClashWitnesses", spec := "clashWitnesses", unfollowed := true, recurses := true, apart := false, narrowed := true }
def ClashWitnessesUptoSaid : Prop := clashWitnessesUptoRow.holds Tryz.pinned (OpenSpec.upto clashWitnessesSpec)

/-- 'stirruplaw19.ClashChecks', WHERE WHAT IT READS IS OF BULK AT MOST 1048576: true; the input reads as it did. -/
def clashChecksUptoRow : OpenClaim := { program := "ytpiigmhbbcjamaagreat", sum := "6bde00ed94e3e0ffcdbd4b33910fd8e03bcc0e2dc9f9308cdba8b748810a74e4", func := "stirrup/stirruplaw19.ClashChecks", spec := "clashChecks", unfollowed := true, recurses := true, apart := false, narrowed := true }
def ClashChecksUptoSaid : Prop := clashChecksUptoRow.holds Tryz.pinned (OpenSpec.upto clashChecksSpec)

end Rows
end Go.Proofs.YtpiigmhbbcjamaaGreat
