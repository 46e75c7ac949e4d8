/-
  Equality of points, boxes, findings, runs.
-/
import Derived.Test.YtpidjgljeooblaaLdD
import Derived.WalkKit
namespace Go.Proofs.Ytpidjgljeooblaa
open Go.RowKit
set_option linter.unusedVariables false
set_option linter.unusedSimpArgs false

theorem run_eq_pt (a b : Pt) (W : World) : (Op.equalIn 10000 31 (.agg #[.int .i64 a.x, .int .i64 a.y, .int .i64 a.z]) (.agg #[.int .i64 b.x, .int .i64 b.y, .int .i64 b.z])).run Try.prog W = .ok (decide (a = b)) W := by
  obtain ⟨ax, ay, az⟩ := a
  obtain ⟨bx, by_, bz⟩ := b
  simp only [Pt.mk.injEq]
  by_cases h1 : ax = bx <;> by_cases h2 : ay = by_ <;> by_cases h3 : az = bz
  all_goals
    go_simp
  all_goals trace_state
end Go.Proofs.Ytpidjgljeooblaa
