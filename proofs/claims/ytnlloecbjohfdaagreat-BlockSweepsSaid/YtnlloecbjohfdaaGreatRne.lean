/-
  The reference of ways: Way.
-/
import Derived.Test.YtnlloecbjohfdaaGreatRnd
namespace Go.Proofs.YtnlloecbjohfdaaGreat
section
open Go.RowKit
set_option linter.unusedVariables false
set_option linter.unusedSimpArgs false
attribute [local go_sem ↓] Go.wp_at_zero Go.wp_at_succ

set_option maxHeartbeats 2000000 in
theorem rway_any (b : Bx) (x : Int) (w : World) (hx : axB x = true) :
    Calls Tryz.prog 63 #[bxv b, .int .i64 x] w fun e w' => e = .returned (bxv (wayB b x)) ∧ Below w.heap.size w w' := by
  obtain ⟨⟨lx, ly, lz⟩, ⟨ux, uy, uz⟩⟩ := b
  rcases ax_cases hx with rfl | rfl | rfl | rfl | rfl | rfl
  all_goals
    clear hx
    go_enter Tryz.func63, Tryz.ntmps63
    go_wp2
    exact bodyPost_ret (v := bxv (wayB ⟨⟨lx, ly, lz⟩, ⟨ux, uy, uz⟩⟩ _)) (by simp [results, Tryz.results63, go_sem, wayB]) rfl ⟨rfl, by go_grown⟩
end
end Go.Proofs.YtnlloecbjohfdaaGreat
