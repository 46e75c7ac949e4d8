/-
  The reference of boxes: Coord, With, IsLength.
-/
import Derived.Test.YtpiigmhbbcjamaaGreatBka
namespace Go.Proofs.YtpiigmhbbcjamaaGreat
section
open Go.RowKit
set_option linter.unusedVariables false
set_option linter.unusedSimpArgs false
attribute [local go_sem ↓] Go.wp_at_zero Go.wp_at_succ

theorem rcoord_any (p : Pt) (k : Nat) (w : World) : Calls Tryz.prog 88 #[ptv p, .int .i64 (k : Int)] w fun e w' => e = .returned (.int .i64 (ax p k)) ∧ Below w.heap.size w w' := by
  by_cases h0 : k = 0
  · subst h0
    have HE : Hid (ax p 0 = p.x) := rfl
    generalize ax p 0 = v at *
    go_enter Tryz.func88, Tryz.ntmps88
    go_wp2
    go_ret
    exact ⟨by rw [HE.out]; rfl, by go_grown⟩
  · by_cases h1 : k = 1
    · subst h1
      have HE : Hid (ax p 1 = p.y) := rfl
      generalize ax p 1 = v at *
      clear h0
      go_enter Tryz.func88, Tryz.ntmps88
      go_wp2
      go_ret
      exact ⟨by rw [HE.out]; rfl, by go_grown⟩
    · have HE : Hid (ax p k = p.z) := by unfold Hid ax; rw [if_neg h0, if_neg h1]
      generalize ax p k = v at *
      obtain ⟨i, hi⟩ : ∃ i : Int, (k : Int) = i := ⟨_, rfl⟩
      have n0 : ¬ i = 0 := by omega
      have n1 : ¬ i = 1 := by omega
      rw [hi]
      clear h0 h1 hi
      go_enter Tryz.func88, Tryz.ntmps88
      go_wp2
      go_ret
      exact ⟨by rw [HE.out]; rfl, by go_grown⟩
def withP (p : Pt) (k : Nat) (n : Int) : Pt := if k = 0 then ⟨n, p.y, p.z⟩ else if k = 1 then ⟨p.x, n, p.z⟩ else ⟨p.x, p.y, n⟩
theorem rwith_any (p : Pt) (k : Nat) (n : Int) (w : World) : Calls Tryz.prog 89 #[ptv p, .int .i64 (k : Int), .int .i64 n] w fun e w' => e = .returned (ptv (withP p k n)) ∧ Below w.heap.size w w' := by
  by_cases h0 : k = 0
  · subst h0
    have HE : Hid (withP p 0 n = ⟨n, p.y, p.z⟩) := rfl
    generalize withP p 0 n = v at *
    go_enter Tryz.func89, Tryz.ntmps89
    go_wp2
    exact bodyPost_ret (v := ptv ⟨n, p.y, p.z⟩) (by simp [results, Tryz.results89, go_sem]) rfl ⟨by rw [HE.out], by go_grown⟩
  · by_cases h1 : k = 1
    · subst h1
      have HE : Hid (withP p 1 n = ⟨p.x, n, p.z⟩) := rfl
      generalize withP p 1 n = v at *
      clear h0
      go_enter Tryz.func89, Tryz.ntmps89
      go_wp2
      exact bodyPost_ret (v := ptv ⟨p.x, n, p.z⟩) (by simp [results, Tryz.results89, go_sem]) rfl ⟨by rw [HE.out], by go_grown⟩
    · have HE : Hid (withP p k n = ⟨p.x, p.y, n⟩) := by unfold Hid withP; rw [if_neg h0, if_neg h1]
      generalize withP p k n = v at *
      obtain ⟨i, hi⟩ : ∃ i : Int, (k : Int) = i := ⟨_, rfl⟩
      have n0 : ¬ i = 0 := by omega
      have n1 : ¬ i = 1 := by omega
      rw [hi]
      clear h0 h1 hi
      go_enter Tryz.func89, Tryz.ntmps89
      go_wp2
      exact bodyPost_ret (v := ptv ⟨p.x, p.y, n⟩) (by simp [results, Tryz.results89, go_sem]) rfl ⟨by rw [HE.out], by go_grown⟩
end
end Go.Proofs.YtpiigmhbbcjamaaGreat
