/-
  Turns that are valid; a point times a number, points within twice the space.
-/
import Derived.Test.YtpidjgljeooblaaLdA
namespace Go.Proofs.Ytpidjgljeooblaa
open Go.RowKit
set_option linter.unusedVariables false
set_option linter.unusedSimpArgs false

def axB (n : Int) : Bool := decide (n ≠ 0 ∧ -3 ≤ n ∧ n ≤ 3)
def turnB (x y : Int) : Bool := decide (((x ≠ 0 ∧ -3 ≤ x ∧ x ≤ 3) ∧ (y ≠ 0 ∧ -3 ≤ y ∧ y ≤ 3)) ∧ x ≠ y ∧ x ≠ -y)

theorem axis_any (n : Int) (w : World) : Calls Try.prog 90 #[.int .i64 n] w fun e w' => e = .returned (.bool (axB n)) ∧ w = w' := by
  go_enter Try.func90, Try.ntmps90
  go_wp2
  all_goals
    go_ret
    refine ⟨ret_bool ?_, rfl⟩
    unfold axB
    rw [Bool.eq_iff_iff]; simp only [decide_eq_true_eq, Bool.false_eq_true, false_iff, Bool.and_eq_true, bne_iff_ne]
    omega
theorem raxis_any (n : Int) (w : World) : Calls Try.prog 84 #[.int .i64 n] w fun e w' => e = .returned (.bool (axB n)) ∧ w = w' := by
  go_enter Try.func84, Try.ntmps84
  go_wp2
  all_goals
    go_ret
    refine ⟨ret_bool ?_, rfl⟩
    unfold axB
    rw [Bool.eq_iff_iff]; simp only [decide_eq_true_eq, Bool.false_eq_true, false_iff, Bool.and_eq_true, bne_iff_ne]
    omega

theorem axB_yes {n : Int} (h : n ≠ 0 ∧ -3 ≤ n ∧ n ≤ 3) : axB n = true := dec_yes h
theorem axB_no {n : Int} (h : ¬ (n ≠ 0 ∧ -3 ≤ n ∧ n ≤ 3)) : axB n = false := dec_no h
theorem turn_any (x y : Int) (w : World) : Calls Try.prog 71 #[.agg #[.int .i64 x, .int .i64 y]] w fun e w' => e = .returned (.bool (turnB x y)) ∧ Below w.heap.size w w' := by
  by_cases hx : x ≠ 0 ∧ -3 ≤ x ∧ x ≤ 3
  · by_cases hy : y ≠ 0 ∧ -3 ≤ y ∧ y ≤ 3
    · have A := axB_yes hx
      have B := axB_yes hy
      have E := Lib.hid (show turnB x y = decide (x ≠ y ∧ x ≠ -y) from decide_eq_decide.2 ⟨fun h => h.2, fun h => ⟨⟨hx, hy⟩, h⟩⟩)
      obtain ⟨_, x1, x2⟩ := hx
      obtain ⟨_, y1, y2⟩ := hy
      go_enter Try.func71, Try.ntmps71
      go_wp2_with (first
        | (go_at_call 90; refine (axis_any _ _).mono ?_; rintro e w9 ⟨rfl, rfl⟩))
      all_goals
        go_ret
        refine ⟨ret_bool ?_, by go_grown⟩
        rw [E.out, Bool.eq_iff_iff]; simp only [decide_eq_true_eq, Bool.false_eq_true, false_iff, Bool.and_eq_true, bne_iff_ne]
        try omega
    · have A := axB_yes hx
      have B := axB_no hy
      have E := Lib.hid (show turnB x y = false from dec_no fun h => hy h.1.2)
      clear hx hy
      go_enter Try.func71, Try.ntmps71
      go_wp2_with (first
        | (go_at_call 90; refine (axis_any _ _).mono ?_; rintro e w9 ⟨rfl, rfl⟩))
      all_goals
        go_ret
        exact ⟨ret_bool E.out.symm, by go_grown⟩
  · have A := axB_no hx
    have E := Lib.hid (show turnB x y = false from dec_no fun h => hx h.1.1)
    clear hx
    go_enter Try.func71, Try.ntmps71
    go_wp2_with (first
      | (go_at_call 90; refine (axis_any _ _).mono ?_; rintro e w9 ⟨rfl, rfl⟩))
    all_goals
      go_ret
      exact ⟨ret_bool E.out.symm, by go_grown⟩
theorem rturn_any (x y : Int) (w : World) : Calls Try.prog 66 #[.agg #[.int .i64 x, .int .i64 y]] w fun e w' => e = .returned (.bool (turnB x y)) ∧ Below w.heap.size w w' := by
  by_cases hx : x ≠ 0 ∧ -3 ≤ x ∧ x ≤ 3
  · by_cases hy : y ≠ 0 ∧ -3 ≤ y ∧ y ≤ 3
    · have A := axB_yes hx
      have B := axB_yes hy
      have E := Lib.hid (show turnB x y = decide (x ≠ y ∧ x ≠ -y) from decide_eq_decide.2 ⟨fun h => h.2, fun h => ⟨⟨hx, hy⟩, h⟩⟩)
      obtain ⟨_, x1, x2⟩ := hx
      obtain ⟨_, y1, y2⟩ := hy
      go_enter Try.func66, Try.ntmps66
      go_wp2_with (first
        | (go_at_call 84; refine (raxis_any _ _).mono ?_; rintro e w9 ⟨rfl, rfl⟩))
      all_goals
        go_ret
        refine ⟨ret_bool ?_, by go_grown⟩
        rw [E.out, Bool.eq_iff_iff]; simp only [decide_eq_true_eq, Bool.false_eq_true, false_iff, Bool.and_eq_true, bne_iff_ne]
        try omega
    · have A := axB_yes hx
      have B := axB_no hy
      have E := Lib.hid (show turnB x y = false from dec_no fun h => hy h.1.2)
      clear hx hy
      go_enter Try.func66, Try.ntmps66
      go_wp2_with (first
        | (go_at_call 84; refine (raxis_any _ _).mono ?_; rintro e w9 ⟨rfl, rfl⟩))
      all_goals
        go_ret
        exact ⟨ret_bool E.out.symm, by go_grown⟩
  · have A := axB_no hx
    have E := Lib.hid (show turnB x y = false from dec_no fun h => hx h.1.1)
    clear hx
    go_enter Try.func66, Try.ntmps66
    go_wp2_with (first
      | (go_at_call 84; refine (raxis_any _ _).mono ?_; rintro e w9 ⟨rfl, rfl⟩))
    all_goals
      go_ret
      exact ⟨ret_bool E.out.symm, by go_grown⟩

set_option maxHeartbeats 400000 in
theorem times_any (p : Pt) (k : Int) (w : World) (h : PtIn 1099511627776 (pmul k p)) :
    Calls Try.prog 86 #[ptv p, .int .i64 k] w fun e w' => e = .returned (ptv (pmul k p)) ∧ Below w.heap.size w w' := by
  obtain ⟨a1, a2, a3, a4, a5, a6⟩ := h
  obtain ⟨x, y, z⟩ := p
  simp only [pmul] at *
  rw [Int.mul_comm k x] at *
  rw [Int.mul_comm k y] at *
  rw [Int.mul_comm k z] at *
  go_enter Try.func86, Try.ntmps86
  go_wp2
  exact bodyPost_ret (v := ptv _) (by simp [results, Try.results86, go_sem]) rfl ⟨rfl, by go_grown⟩

set_option maxHeartbeats 400000 in
theorem ptimes_any (p : Pt) (k : Int) (w : World) (h : PtIn 1099511627776 (pmul k p)) :
    Calls Try.prog 104 #[.int .i64 k, ptv p] w fun e w' => e = .returned (ptv (pmul k p)) ∧ Below w.heap.size w w' := by
  obtain ⟨a1, a2, a3, a4, a5, a6⟩ := h
  obtain ⟨x, y, z⟩ := p
  simp only [pmul] at *
  go_enter Try.func104, Try.ntmps104
  go_wp2
  exact bodyPost_ret (v := ptv _) (by simp [results, Try.results104, go_sem]) rfl ⟨rfl, by go_grown⟩

set_option maxHeartbeats 400000 in
theorem twice_any (p : Pt) (w : World) : Calls Try.prog 56 #[ptv p] w fun e w' => e = .returned (.bool (ptIn 2097152 p)) ∧ Below w.heap.size w w' := by
  obtain ⟨x, y, z⟩ := p
  go_enter Try.func56, Try.ntmps56
  go_wp2
  all_goals
    go_ret
    refine ⟨ret_bool ?_, by go_grown⟩
    unfold ptIn
    rw [Bool.eq_iff_iff]; simp only [decide_eq_true_eq, Bool.false_eq_true, false_iff]
    omega
end Go.Proofs.Ytpidjgljeooblaa
