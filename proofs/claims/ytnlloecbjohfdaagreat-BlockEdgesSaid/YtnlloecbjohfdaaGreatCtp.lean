/-
  slices.Contains at pairs.
-/
import Derived.Test.YtnlloecbjohfdaaGreatMem
import Derived.Lib.SliceRun
import Derived.Deep.DrawnRows
namespace Go.Proofs.YtnlloecbjohfdaaGreat
open Go.RowKit
set_option linter.unusedVariables false

/-! ### Contains -/
theorem run_eq_pair (w : World) (a b x y : Int) : (Op.equalIn 10000 68 (.agg #[.int .i64 a, .int .i64 b]) (.agg #[.int .i64 x, .int .i64 y])).run Tryz.prog w = .ok (decide (a = x ∧ b = y)) w := by
  have hs : ∀ w, (Go.sizeOf 3).run Tryz.prog w = .ok 1 w := fun w => by kernel_rfl
  have h1 : ∀ d (p q : Int) w, (Op.equalIn (d + 1) 3 (.int .i64 p) (.int .i64 q)).run Tryz.prog w = .ok (p == q) w := fun d p q w => by
    simp [Op.equalIn, run_underlying Tryz.underlying3]
  have hp0 : ∀ (p q : Int) w, (part 3 #[.int .i64 p, .int .i64 q] 0).run Tryz.prog w = .ok (.int .i64 p) w := fun p q w => by kernel_rfl
  have hp1 : ∀ (p q : Int) w, (part 3 #[.int .i64 p, .int .i64 q] 1).run Tryz.prog w = .ok (.int .i64 q) w := fun p q w => by kernel_rfl
  have key : ∀ d : Nat, (Op.equalIn (d + 1 + 1) 68 (.agg #[.int .i64 a, .int .i64 b]) (.agg #[.int .i64 x, .int .i64 y])).run Tryz.prog w = .ok (decide (a = x ∧ b = y)) w := fun d => by
    rw [Op.equalIn]
    simp only [Sem.run_bind, run_underlying Tryz.underlying68, Result.andThen_ok, hs]

    by_cases ha : a = x
    · by_cases hb : b = y
      · simp [Std.Legacy.Range.forIn_eq_forIn_range', h1, hp0, hp1, ha, hb, List.range'_succ, Sem.run_bind]
      · simp [Std.Legacy.Range.forIn_eq_forIn_range', h1, hp0, hp1, ha, hb, List.range'_succ, Sem.run_bind]
    · simp [Std.Legacy.Range.forIn_eq_forIn_range', h1, hp0, hp1, ha, List.range'_succ, Sem.run_bind]
  exact key 9998
def pairIn (l : List (Int × Int)) (a b : Int) : Bool := decide ((a, b) ∈ l)
def pairIdx (l : List (Int × Int)) (a b : Int) (i : Int) : Prop := decide (0 ≤ i) = pairIn l a b

end Go.Proofs.YtnlloecbjohfdaaGreat
