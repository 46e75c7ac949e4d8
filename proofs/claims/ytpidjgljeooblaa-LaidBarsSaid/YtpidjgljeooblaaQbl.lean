/-
  Regions that draw their order, of loads and of calls that make memory: words beside the kit's law.
-/
import Derived.Test.YtpidjgljeooblaaMem
import Derived.Lib.QuietBelow
namespace Go.Proofs.Ytpidjgljeooblaa
open Go.RowKit
set_option linter.unusedVariables false

theorem below_reg {w W : World} (h : Below w.heap.size w W) (d : Nat) (os : Array Obj) : Below w.heap.size w (Go.Sort.grow (redrawn W d) os) := h.trans ((below_regrown W d os).mono h.size)
/-- A callee's contract that ends in the same world. -/
theorem regrown_pure {P : Program} {f : FuncId} {args : Array Value} {w : World} {d : Nat} {os : Array Obj} {v : Value}
    (h : Calls P f args (Go.Sort.grow (redrawn w d) os) fun e w' => e = .returned v ∧ Go.Sort.grow (redrawn w d) os = w') : Calls P f args (Go.Sort.grow (redrawn w d) os) fun e w'' => e = .returned v ∧ ∃ p : Regrown, w'' = Go.Sort.grow (redrawn w p.d) p.os :=
  Calls.regrown_of (h.mono fun _ _ ⟨h1, h2⟩ => ⟨h1, by subst h2; exact Below.refl _ _⟩)
theorem reg_trans {w W : World} {d : Nat} {os : Array Obj} : Below W.heap.size W (Go.Sort.grow (redrawn W d) os) := below_regrown W d os
end Go.Proofs.Ytpidjgljeooblaa
