/-
  Steel: awake, and the laws of masses and of the least size.
-/
import Derived.Test.YtoddlkpglfccaaaStC
namespace Go.Proofs.Ytoddlkpglfccaaa
open Go.RowKit

set_option maxRecDepth 100000 in
set_option maxHeartbeats 800000 in
theorem awake_any (w : World) : Calls Try.prog 10 #[] w fun e w' => e = .returned (.bool true) ∧ Below w.heap.size w w' := by
  have k1 : areaOf 16 = 20106 := by decide
  have k2 : massOf 16 1000 = 1578 := by decide
  have k3 : bendOf 16 = 40 := by decide
  have k4 : roundOf 25 = 13 := by decide
  have k5 : (leastOf 60000 3).1 = 16 := by decide
  have k6 : (leastOf 60000 3).2 = 0 := by decide
  have k7 : (leastOf 60000 2).1 = 20 := by decide
  have k8 : (leastOf 60000 2).2 = 0 := by decide
  have k9 : szB 16 = true := by decide
  have k10 : szB 14 = false := by decide
  go_enter Try.func10, Try.ntmps10
  go_wp2_with (first
    | (go_at_call 17; refine (area_ok _ _ (by decide)).mono ?_; rintro e w1 ⟨rfl, hb1⟩; have hB := bstep (w := w) (by go_grown) hb1)
    | (go_at_call 11; refine (mass_ok _ _ _ (by decide) (by decide) (by decide)).mono ?_; rintro e w1 ⟨rfl, hb1⟩; have hB := bstep (w := w) (by go_grown) hb1)
    | (go_at_call 18; refine (bend_ok _ _ (by decide)).mono ?_; rintro e w1 ⟨rfl, hb1⟩; have hB := bstep (w := w) (by go_grown) hb1)
    | (go_at_call 21; refine (round_ok _ _ (by decide)).mono ?_; rintro e w1 ⟨rfl, hb1⟩; have hB := bstep (w := w) (by go_grown) hb1)
    | (go_at_call 14; refine (least_any _ _ _).mono ?_; rintro e w1 ⟨rfl, hb1⟩; have hB := bstep (w := w) (by go_grown) hb1)
    | (go_at_call 19; refine (size_any _ _).mono ?_; rintro e w1 ⟨rfl, hb1⟩; have hB := bstep (w := w) (by go_grown) hb1))
  go_ret
  exact ⟨rfl, by go_grown⟩

set_option maxHeartbeats 800000 in
theorem masses_any (d n : Int) (w : World) : Calls Try.prog 3 #[.int .i64 d, .int .i64 n] w fun e w' => e = .returned (.bool true) ∧ Below w.heap.size w w' := by
  by_cases hs : szB d = true
  · have hb : 0 ≤ d ∧ d ≤ 40 := by have := szB_cases hs; omega
    by_cases hr : n < 0 ∨ 1048576 < n
    · have HR := Lib.hid hr
      rcases hr with hr | hr
      all_goals
        go_enter Try.func3, Try.ntmps3
        go_wp2_with (first
          | (go_at_call 10; refine (awake_any _).mono ?_; rintro e w1 ⟨rfl, hb1⟩; have hB := bstep (w := w) (by go_grown) hb1)
          | (go_at_call 11; refine (mass_range _ _ _ hs HR.out).mono ?_; rintro e w1 ⟨rfl, hb1⟩; have hB := bstep (w := w) (by go_grown) hb1)
          | (go_at_call 12; refine (rsize_any _ _).mono ?_; rintro e w1 ⟨rfl, hb1⟩; have hB := bstep (w := w) (by go_grown) hb1))
        go_ret
        exact ⟨rfl, by go_grown⟩
    · have h0 : 0 ≤ n := by omega
      have h1 : n ≤ 1048576 := by omega
      clear hr
      go_enter Try.func3, Try.ntmps3
      go_wp2_with (first
        | (go_at_call 10; refine (awake_any _).mono ?_; rintro e w1 ⟨rfl, hb1⟩; have hB := bstep (w := w) (by go_grown) hb1)
        | (go_at_call 11; refine (mass_ok _ _ _ hs h0 h1).mono ?_; rintro e w1 ⟨rfl, hb1⟩; have hB := bstep (w := w) (by go_grown) hb1)
        | (go_at_call 13; refine (rmass_in _ _ _ hb.1 hb.2 h0 h1).mono ?_; rintro e w1 ⟨rfl, rfl⟩)
        | (go_at_call 12; refine (rsize_any _ _).mono ?_; rintro e w1 ⟨rfl, hb1⟩; have hB := bstep (w := w) (by go_grown) hb1))
      go_ret
      exact ⟨by simp, by go_grown⟩
  · have hs' : szB d = false := by simpa using hs
    clear hs
    go_enter Try.func3, Try.ntmps3
    go_wp2_with (first
      | (go_at_call 10; refine (awake_any _).mono ?_; rintro e w1 ⟨rfl, hb1⟩; have hB := bstep (w := w) (by go_grown) hb1)
      | (go_at_call 11; refine (mass_no _ _ _ hs').mono ?_; rintro e w1 ⟨rfl, hb1⟩; have hB := bstep (w := w) (by go_grown) hb1)
      | (go_at_call 12; refine (rsize_any _ _).mono ?_; rintro e w1 ⟨rfl, hb1⟩; have hB := bstep (w := w) (by go_grown) hb1))
    go_ret
    exact ⟨rfl, by go_grown⟩

set_option maxHeartbeats 800000 in
theorem leastlaw_any (a c : Int) (w : World) : Calls Try.prog 4 #[.int .i64 a, .int .i64 c] w fun e w' => e = .returned (.bool true) ∧ Below w.heap.size w w' := by
  go_enter Try.func4, Try.ntmps4
  go_wp2_with (first
    | (go_at_call 10; refine (awake_any _).mono ?_; rintro e w1 ⟨rfl, hb1⟩; have hB := bstep (w := w) (by go_grown) hb1)
    | (go_at_call 14; refine (least_any _ _ _).mono ?_; rintro e w1 ⟨rfl, hb1⟩; have hB := bstep (w := w) (by go_grown) hb1)
    | (go_at_call 15; refine (rleast_any _ _ _).mono ?_; rintro e w1 ⟨rfl, hb1⟩; have hB := bstep (w := w) (by go_grown) hb1))
  go_ret
  exact ⟨by simp, by go_grown⟩
end Go.Proofs.Ytoddlkpglfccaaa
