/-
  The walk of BlockShows.
-/
import Derived.Test.YtnlloecbjohfdaaGreatBkS
namespace Go.Proofs.YtnlloecbjohfdaaGreat
open Go.RowKit
set_option linter.unusedVariables false
set_option linter.unusedSimpArgs false
attribute [local go_sem ↓] Go.wp_at_zero Go.wp_at_succ

theorem witE_zero {L : List (List Bx)} {Z : List Int} {i k x : Int} (h : witE L Z i k x = 0) : pairE L.length i k x = 0 ∧ ∃ q, witAt L Z x i.toNat k.toNat = some q ∧ witV L Z i k x = q := by
  unfold witE at h
  by_cases hc : pairE L.length i k x = 0
  · rw [if_pos hc] at h
    cases hw : witAt L Z x i.toNat k.toNat with
    | none => rw [hw] at h; simp at h
    | some q =>
      refine ⟨hc, q, rfl, ?_⟩
      unfold witV
      rw [if_pos hc, hw]
      rfl
  · rw [if_neg hc] at h
    exact absurd h hc
theorem witV_err {L : List (List Bx)} {Z : List Int} {i k x : Int} (h : witE L Z i k x ≠ 0) : witV L Z i k x = pt0 := by
  unfold witV
  by_cases hc : pairE L.length i k x = 0
  · rw [if_pos hc]
    unfold witE at h
    rw [if_pos hc] at h
    cases hw : witAt L Z x i.toNat k.toNat with
    | none => rfl
    | some q => rw [hw] at h; simp at h
  · rw [if_neg hc]
/-- The legs of a laid bar. -/
theorem legsI_good (v vr : Value) (l : List BarD) (rs : List RunD) (i : Nat) (w : World) (hp : Bars w v l) (hr : Runs w vr rs) (hl : l.length ≤ 140737488355328) (hlr : rs.length ≤ 140737488355328) (hf : FitB l) (h : laidOk l rs = true) (hi : i < (lgsOf l rs).length) :
    Calls Tryz.prog 111 #[v, vr, .int .i64 (i : Int)] w fun e w' => ∃ o, e = .returned (.tuple #[o, .int .i64 0]) ∧ OwnBxs w' w.heap.size o ((lgsOf l rs).getD i []) ∧ Below w.heap.size w w' := by
  rw [lgsOf_len] at hi
  obtain ⟨q, b, hF⟩ := laid_fact h hi
  refine (legs_good v vr (i : Int) l rs w hp hr hl hlr hf h).mono fun e w' hp => ?_
  rcases hp with ⟨q2, o, _, hq2, he, ho, hb⟩ | ⟨hi2, _, _⟩
  · rw [Int.toNat_natCast] at hq2
    obtain rfl : q = q2 := Option.some.inj (hF.pts.symm.trans hq2)
    have := hF.lat
    unfold legsAt at this
    rw [this]
    exact ⟨o, he, ho, hb⟩
  · omega

end Go.Proofs.YtnlloecbjohfdaaGreat
