/-
  No cell of these rows narrows 'for every input' (looked for: loops, veiled, ifaces, maps, wideKeys, modest, calm, conditions, laid).
  DERIVED. THE GIVEN ROWS OF THIS SEAT. 6 by the template 'for every input the law returns true; each argument reads behind the call as it read before'; 0 by the template 'total and deterministic' (their statements: YtamogedpgkofjaaGreatTotals.lean).
  GIVEN WITH THE SEED: the statements are not yours to turn. If you find one false, say at which input.
  Laid BY PROGRAM, IN A SANDBOX (cutbox-rows.mjs): the forced cells as the released guide's own fill.sh prints them over the translation d316fbccefa80fd7… (all of the seat's roots in one cut). By AI agents, Wed Nov 11 2026. No macro, syntax, notation, axiom, sorry.
-/
import Derived.Test.YtamogedpgkofjaaGreatChecked
import GoSem.Claim
import GoSem.ClaimJoined
import GoSem.ClaimMapViews
import Derived.JoinedTies
import Derived.KernelRfl
namespace Go.Proofs.YtamogedpgkofjaaGreat
/- THE CELL 'sum', in the pinned program and in every row, IS THE sha256 OF THE DUMP (.gsa) THAT YtamogedpgkofjaaGreatProg.lean LOADS. Nothing in Lean hashes anything: it is a label: what it is worth is what the hold of that sum in a sandbox is worth. -/
noncomputable def Tryz.pinned : Pinned := { name := "ytamogedpgkofjaagreat", sum := "d316fbccefa80fd7745bdb507c96e8988cd7728f58b58c1a0827d2cb5e85b711", checked := Tryz.checked }
namespace Rows
def none {H : Type} : Left H := { results := [], args := [] }

/-- 'stirruplaw40.CouplerFree': WHATEVER THE INPUT: true; the input reads as it did. -/
def couplerFreeSpec : ChangeSpec := { name := "couplerFree", fn := fun _ => fun
  | [d1, d2, d3] => { results := [.lit (.bool true)], args := [d1, d2, d3] }
  | _ => none }
def couplerFreeRow : OpenClaim := { program := "ytamogedpgkofjaagreat", sum := "d316fbccefa80fd7745bdb507c96e8988cd7728f58b58c1a0827d2cb5e85b711", func := "stirrup/stirruplaw40.CouplerFree", spec := "couplerFree", unfollowed := true, recurses := true, apart := false }
def CouplerFreeSaid : Prop := couplerFreeRow.holds Tryz.pinned (OpenSpec.ofChange couplerFreeSpec)

/-- ITS FALSE NEIGHBOUR: 'it returns false'. Refute it at one input. -/
def couplerFreeWrong : ChangeSpec := { name := "couplerFree", fn := fun _ => fun
  | [d1, d2, d3] => { results := [.lit (.bool false)], args := [d1, d2, d3] }
  | _ => none }
def CouplerFreeWrongFalsely : Prop := couplerFreeRow.holds Tryz.pinned (OpenSpec.ofChange couplerFreeWrong)

/-- 'stirruplaw40.CouplerLoops': WHATEVER THE INPUT: true; the input reads as it did. -/
def couplerLoopsSpec : ChangeSpec := { name := "couplerLoops", fn := fun _ => fun
  | [d1, d2, d3] => { results := [.lit (.bool true)], args := [d1, d2, d3] }
  | _ => none }
def couplerLoopsRow : OpenClaim := { program := "ytamogedpgkofjaagreat", sum := "d316fbccefa80fd7745bdb507c96e8988cd7728f58b58c1a0827d2cb5e85b711", func := "stirrup/stirruplaw40.CouplerLoops", spec := "couplerLoops", unfollowed := true, recurses := true, apart := false }
def CouplerLoopsSaid : Prop := couplerLoopsRow.holds Tryz.pinned (OpenSpec.ofChange couplerLoopsSpec)

/-- ITS FALSE NEIGHBOUR: 'it returns false'. Refute it at one input. -/
def couplerLoopsWrong : ChangeSpec := { name := "couplerLoops", fn := fun _ => fun
  | [d1, d2, d3] => { results := [.lit (.bool false)], args := [d1, d2, d3] }
  | _ => none }
def CouplerLoopsWrongFalsely : Prop := couplerLoopsRow.holds Tryz.pinned (OpenSpec.ofChange couplerLoopsWrong)

/-- 'stirruplaw40.CouplerLists': WHATEVER THE INPUT: true; the input reads as it did. -/
def couplerListsSpec : ChangeSpec := { name := "couplerLists", fn := fun _ => fun
  | [d1, d2, d3, d4] => { results := [.lit (.bool true)], args := [d1, d2, d3, d4] }
  | _ => none }
def couplerListsRow : OpenClaim := { program := "ytamogedpgkofjaagreat", sum := "d316fbccefa80fd7745bdb507c96e8988cd7728f58b58c1a0827d2cb5e85b711", func := "stirrup/stirruplaw40.CouplerLists", spec := "couplerLists", unfollowed := true, recurses := true, apart := false }
def CouplerListsSaid : Prop := couplerListsRow.holds Tryz.pinned (OpenSpec.ofChange couplerListsSpec)

/-- ITS FALSE NEIGHBOUR: 'it returns false'. Refute it at one input. -/
def couplerListsWrong : ChangeSpec := { name := "couplerLists", fn := fun _ => fun
  | [d1, d2, d3, d4] => { results := [.lit (.bool false)], args := [d1, d2, d3, d4] }
  | _ => none }
def CouplerListsWrongFalsely : Prop := couplerListsRow.holds Tryz.pinned (OpenSpec.ofChange couplerListsWrong)

/-- 'stirruplaw40.CouplerNeeds': WHATEVER THE INPUT: true; the input reads as it did. -/
def couplerNeedsSpec : ChangeSpec := { name := "couplerNeeds", fn := fun _ => fun
  | [d1, d2, d3] => { results := [.lit (.bool true)], args := [d1, d2, d3] }
  | _ => none }
def couplerNeedsRow : OpenClaim := { program := "ytamogedpgkofjaagreat", sum := "d316fbccefa80fd7745bdb507c96e8988cd7728f58b58c1a0827d2cb5e85b711", func := "stirrup/stirruplaw40.CouplerNeeds", spec := "couplerNeeds", unfollowed := true, recurses := true, apart := false }
def CouplerNeedsSaid : Prop := couplerNeedsRow.holds Tryz.pinned (OpenSpec.ofChange couplerNeedsSpec)

/-- ITS FALSE NEIGHBOUR: 'it returns false'. Refute it at one input. -/
def couplerNeedsWrong : ChangeSpec := { name := "couplerNeeds", fn := fun _ => fun
  | [d1, d2, d3] => { results := [.lit (.bool false)], args := [d1, d2, d3] }
  | _ => none }
def CouplerNeedsWrongFalsely : Prop := couplerNeedsRow.holds Tryz.pinned (OpenSpec.ofChange couplerNeedsWrong)

/-- 'stirruplaw40.CouplerLeast': WHATEVER THE INPUT: true; the input reads as it did. -/
def couplerLeastSpec : ChangeSpec := { name := "couplerLeast", fn := fun _ => fun
  | [d1, d2, d3, d4, d5] => { results := [.lit (.bool true)], args := [d1, d2, d3, d4, d5] }
  | _ => none }
def couplerLeastRow : OpenClaim := { program := "ytamogedpgkofjaagreat", sum := "d316fbccefa80fd7745bdb507c96e8988cd7728f58b58c1a0827d2cb5e85b711", func := "stirrup/stirruplaw40.CouplerLeast", spec := "couplerLeast", unfollowed := true, recurses := true, apart := false }
def CouplerLeastSaid : Prop := couplerLeastRow.holds Tryz.pinned (OpenSpec.ofChange couplerLeastSpec)

/-- ITS FALSE NEIGHBOUR: 'it returns false'. Refute it at one input. -/
def couplerLeastWrong : ChangeSpec := { name := "couplerLeast", fn := fun _ => fun
  | [d1, d2, d3, d4, d5] => { results := [.lit (.bool false)], args := [d1, d2, d3, d4, d5] }
  | _ => none }
def CouplerLeastWrongFalsely : Prop := couplerLeastRow.holds Tryz.pinned (OpenSpec.ofChange couplerLeastWrong)

/-- 'stirruplaw40.CouplerThreads': WHATEVER THE INPUT: true; the input reads as it did. -/
def couplerThreadsSpec : ChangeSpec := { name := "couplerThreads", fn := fun _ => fun
  | [d1, d2, d3, d4] => { results := [.lit (.bool true)], args := [d1, d2, d3, d4] }
  | _ => none }
def couplerThreadsRow : OpenClaim := { program := "ytamogedpgkofjaagreat", sum := "d316fbccefa80fd7745bdb507c96e8988cd7728f58b58c1a0827d2cb5e85b711", func := "stirrup/stirruplaw40.CouplerThreads", spec := "couplerThreads", unfollowed := true, recurses := true, apart := false }
def CouplerThreadsSaid : Prop := couplerThreadsRow.holds Tryz.pinned (OpenSpec.ofChange couplerThreadsSpec)

/-- ITS FALSE NEIGHBOUR: 'it returns false'. Refute it at one input. -/
def couplerThreadsWrong : ChangeSpec := { name := "couplerThreads", fn := fun _ => fun
  | [d1, d2, d3, d4] => { results := [.lit (.bool false)], args := [d1, d2, d3, d4] }
  | _ => none }
def CouplerThreadsWrongFalsely : Prop := couplerThreadsRow.holds Tryz.pinned (OpenSpec.ofChange couplerThreadsWrong)

/- THE SECOND FORM. 'bulk': how many values and letters a reading holds, each counted each time it is reached (what is shared counts as often as it is met; a slice's spare places count too). A statement '..UptoSaid' is the law's where the arguments, and the package variables that the reading takes, are together of bulk at most 1048576: NARROWER than '..Said'. Prove '..Said' where nothing that the law and all that it calls make is longer than what came in: it says more and counts as full. Else prove '..UptoSaid'. A law counts once. -/
mutual
def uptoBulk {H : Type} : DataW H → Nat
  | .lit (.string bytes) => bytes.length + 1
  | .lit _ => 1
  | .nil => 1
  | .ptr d => uptoBulk d + 1
  | .slice elems spare => uptoBulkAll elems + uptoBulkAll spare + 1
  | .agg parts => uptoBulkAll parts + 1
  | .iface _ d => uptoBulk d + 1
  | .map entries => uptoBulkEntries entries + 1
  | .held _ => 1
def uptoBulkAll {H : Type} : List (DataW H) → Nat
  | [] => 0
  | d :: r => uptoBulk d + uptoBulkAll r
def uptoBulkEntries {H : Type} : List (Lit × DataW H) → Nat
  | [] => 0
  | x :: r => uptoBulkEntry x + uptoBulkEntries r
def uptoBulkEntry {H : Type} : Lit × DataW H → Nat
  | (.string bytes, d) => bytes.length + uptoBulk d + 1
  | (_, d) => uptoBulk d + 1
 end
def uptoSmall : (H : Type) → List (DataW H) → Bool := fun _ ds => decide (uptoBulkAll ds ≤ 1048576)
def OpenSpec.upto (s : _root_.Go.ChangeSpec) : _root_.Go.OpenSpec := { _root_.Go.OpenSpec.ofChange s with cond := some uptoSmall }

/-- 'stirruplaw40.CouplerFree', WHERE WHAT IT READS IS OF BULK AT MOST 1048576: true; the input reads as it did. -/
def couplerFreeUptoRow : OpenClaim := { program := "ytamogedpgkofjaagreat", sum := "d316fbccefa80fd7745bdb507c96e8988cd7728f58b58c1a0827d2cb5e85b711", func := "stirrup/stirruplaw40.CouplerFree", spec := "couplerFree", unfollowed := true, recurses := true, apart := false, narrowed := true }
def CouplerFreeUptoSaid : Prop := couplerFreeUptoRow.holds Tryz.pinned (OpenSpec.upto couplerFreeSpec)

/-- 'stirruplaw40.CouplerLoops', WHERE WHAT IT READS IS OF BULK AT MOST 1048576: true; the input reads as it did. -/
def couplerLoopsUptoRow : OpenClaim := { program := "ytamogedpgkofjaagreat", sum := "d316fbccefa80fd7745bdb507c96e8988cd7728f58b58c1a0827d2cb5e85b711", func := "stirrup/stirruplaw40.CouplerLoops", spec := "couplerLoops", unfollowed := true, recurses := true, apart := false, narrowed := true }
def CouplerLoopsUptoSaid : Prop := couplerLoopsUptoRow.holds Tryz.pinned (OpenSpec.upto couplerLoopsSpec)

/-- 'stirruplaw40.CouplerLists', WHERE WHAT IT READS IS OF BULK AT MOST 1048576: true; the input reads as it did. -/
def couplerListsUptoRow : OpenClaim := { program := "ytamogedpgkofjaagreat", sum := "d316fbccefa80fd7745bdb507c96e8988cd7728f58b58c1a0827d2cb5e85b711", func := "stirrup/stirruplaw40.CouplerLists", spec := "couplerLists", unfollowed := true, recurses := true, apart := false, narrowed := true }
def CouplerListsUptoSaid : Prop := couplerListsUptoRow.holds Tryz.pinned (OpenSpec.upto couplerListsSpec)

/-- 'stirruplaw40.CouplerNeeds', WHERE WHAT IT READS IS OF BULK AT MOST 1048576: true; the input reads as it did. -/
def couplerNeedsUptoRow : OpenClaim := { program := "ytamogedpgkofjaagreat", sum := "d316fbccefa80fd7745bdb507c96e8988cd7728f58b58c1a0827d2cb5e85b711", func := "stirrup/stirruplaw40.CouplerNeeds", spec := "couplerNeeds", unfollowed := true, recurses := true, apart := false, narrowed := true }
def CouplerNeedsUptoSaid : Prop := couplerNeedsUptoRow.holds Tryz.pinned (OpenSpec.upto couplerNeedsSpec)

/-- 'stirruplaw40.CouplerLeast', WHERE WHAT IT READS IS OF BULK AT MOST 1048576: true; the input reads as it did. -/
def couplerLeastUptoRow : OpenClaim := { program := "ytamogedpgkofjaagreat", sum := "d316fbccefa80fd7745bdb507c96e8988cd7728f58b58c1a0827d2cb5e85b711", func := "stirrup/stirruplaw40.CouplerLeast", spec := "couplerLeast", unfollowed := true, recurses := true, apart := false, narrowed := true }
def CouplerLeastUptoSaid : Prop := couplerLeastUptoRow.holds Tryz.pinned (OpenSpec.upto couplerLeastSpec)

/-- 'stirruplaw40.CouplerThreads', WHERE WHAT IT READS IS OF BULK AT MOST 1048576: true; the input reads as it did. -/
def couplerThreadsUptoRow : OpenClaim := { program := "ytamogedpgkofjaagreat", sum := "d316fbccefa80fd7745bdb507c96e8988cd7728f58b58c1a0827d2cb5e85b711", func := "stirrup/stirruplaw40.CouplerThreads", spec := "couplerThreads", unfollowed := true, recurses := true, apart := false, narrowed := true }
def CouplerThreadsUptoSaid : Prop := couplerThreadsUptoRow.holds Tryz.pinned (OpenSpec.upto couplerThreadsSpec)

end Rows
end Go.Proofs.YtamogedpgkofjaaGreat
