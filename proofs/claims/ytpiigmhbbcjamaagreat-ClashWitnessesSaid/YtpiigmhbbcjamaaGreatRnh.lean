/-
  The reference of boxes: All.
-/
import Derived.Test.YtpiigmhbbcjamaaGreatRng
namespace Go.Proofs.YtpiigmhbbcjamaaGreat
section
open Go.RowKit
set_option linter.unusedVariables false
set_option linter.unusedSimpArgs false
attribute [local go_sem ↓] Go.wp_at_zero Go.wp_at_succ

theorem all_no {l : List Bx} {k : Nat} {x : Bx} (h : l[k]? = some x) (hx : bxOk x = false) : l.all bxOk = false := by
  rw [List.all_eq_false]
  exact ⟨x, List.mem_of_getElem? h, by simp [hx]⟩
theorem all_ok {l : List Bx} (h : ∀ (j : Nat) y, j < l.length → l[j]? = some y → bxOk y = true) : l.all bxOk = true := by
  rw [List.all_eq_true]
  intro x hx
  obtain ⟨j, hj, rfl⟩ := List.mem_iff_getElem.1 hx
  exact h j _ hj (List.getElem?_eq_getElem hj)
end
end Go.Proofs.YtpiigmhbbcjamaaGreat
