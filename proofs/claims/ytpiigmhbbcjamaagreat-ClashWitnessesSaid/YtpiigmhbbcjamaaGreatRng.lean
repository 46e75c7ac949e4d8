/-
  The reference of boxes: Valid.
-/
import Derived.Test.YtpiigmhbbcjamaaGreatRnb
namespace Go.Proofs.YtpiigmhbbcjamaaGreat
section
open Go.RowKit
set_option linter.unusedVariables false
set_option linter.unusedSimpArgs false
attribute [local go_sem ↓] Go.wp_at_zero Go.wp_at_succ

end
end Go.Proofs.YtpiigmhbbcjamaaGreat
