/-
  Law 40: the edges, the number of bars (printed by wip/gen_Cl.py).
-/
import Derived.Test.YtamogedpgkofjaaGreatCla
namespace Go.Proofs.YtamogedpgkofjaaGreat
section
open Go.RowKit
set_option linter.unusedVariables false
set_option linter.unusedSimpArgs false
attribute [local go_sem ↓] Go.wp_at_zero Go.wp_at_succ

theorem bedges_any (v vr xv : Value) (X : List Int) (l : List BarD) (rs : List RunD) (w : World) (hC : Cg w v vr xv X l rs) :
    Calls Tryz.prog 11 #[v, vr, xv] w fun e w' => ∃ o, e = .returned (.tuple #[o, .int .i64 (sqC l rs X)]) ∧ (sqC l rs X = 0 → Dg w' (lgsOf l rs).length o (sqEs l rs X)) ∧ (sqC l rs X ≠ 0 → o = .slice none 0 0) ∧ Below w.heap.size w w' := by
  cases hok : laidOk l rs with
  | false =>
    have hc : sqC l rs X = 1 := by unfold sqC allE; rw [hok]; rfl
    refine (edgesI_bad v vr xv l rs w hC.hA.hp hC.hA.hr hC.hA.hl hC.hA.hlr hC.hA.hf hok).mono ?_
    rintro e w' ⟨o, rfl, h1, h2, h3⟩
    rw [hc]
    exact ⟨o, rfl, fun h => by omega, fun _ => h2 (by decide), h3⟩
  | true =>
    have hc : sqC l rs X = edgE (lgsOf l rs).length X := by unfold sqC allE; rw [hok]; rfl
    refine (edgesI_good v vr xv X l rs w hC.hA.hp hC.hA.hr hC.hx hC.hA.hl hC.hA.hlr hC.hlx hC.hA.hf hok).mono ?_
    rintro e w' ⟨o, rfl, h1, h2, h3⟩
    rw [hc]
    exact ⟨o, rfl, fun h => dg_edges (h1 h) (hC.hA.h14 hok), h2, h3⟩
theorem bcount_any (v vr xv : Value) (X : List Int) (l : List BarD) (rs : List RunD) (w : World) (hC : Cg w v vr xv X l rs) (hok : laidOk l rs = true) :
    Calls Tryz.prog 17 #[v, vr] w fun e w' => e = .returned (.tuple #[.int .i64 ((lgsOf l rs).length : Int), .int .i64 0]) ∧ Below w.heap.size w w' := by
  have h := count_good v vr l rs w hC.hA.hp hC.hA.hr hC.hA.hl hC.hA.hlr hC.hA.hf hok
  rw [← lgsOf_len l rs] at h
  exact h
end
end Go.Proofs.YtamogedpgkofjaaGreat
