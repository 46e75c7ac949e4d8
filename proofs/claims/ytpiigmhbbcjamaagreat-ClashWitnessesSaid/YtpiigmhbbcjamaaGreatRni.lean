/-
  The reference of boxes: the plain part of Nearest.
-/
import Derived.Test.YtpiigmhbbcjamaaGreatRnh
namespace Go.Proofs.YtpiigmhbbcjamaaGreat
/-- The first k coordinates of a point, the others 0. -/
def ptTo (f : Pt) (k : Nat) : Pt := ⟨if 0 < k then f.x else 0, if 1 < k then f.y else 0, if 2 < k then f.z else 0⟩
theorem ptTo_zero (f : Pt) : ptTo f 0 = ⟨0, 0, 0⟩ := rfl
theorem ptTo_three (f : Pt) : ptTo f 3 = f := rfl
theorem ptTo_step (f : Pt) {k : Nat} (hk : k < 3) : withP (ptTo f k) k (ax f k) = ptTo f (k + 1) := by
  obtain rfl | rfl | rfl : k = 0 ∨ k = 1 ∨ k = 2 := by omega
  all_goals rfl
theorem rnearP_ax (a b : Bx) {k : Nat} (hk : k < 3) : ax (nearP a b) k = npA (ax a.lo k) (ax a.hi k) (ax b.lo k) (ax b.hi k) := by
  obtain rfl | rfl | rfl : k = 0 ∨ k = 1 ∨ k = 2 := by omega
  all_goals rfl
theorem rnearQ_ax (a b : Bx) {k : Nat} (hk : k < 3) : ax (nearQ a b) k = npB (ax a.lo k) (ax a.hi k) (ax b.lo k) (ax b.hi k) := by
  obtain rfl | rfl | rfl : k = 0 ∨ k = 1 ∨ k = 2 := by omega
  all_goals rfl
end Go.Proofs.YtpiigmhbbcjamaaGreat
