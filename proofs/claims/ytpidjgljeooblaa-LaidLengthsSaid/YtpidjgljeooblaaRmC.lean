/-
  The reference's moves of a bar (written by wip/gen_RmC.py).
-/
import Derived.Test.YtpidjgljeooblaaRmB
import Derived.StillTailTactics
namespace Go.Proofs.Ytpidjgljeooblaa
open Go.RowKit
set_option linter.unusedVariables false
set_option linter.unusedSimpArgs false
attribute [local go_sem ↓] Go.wp_at_zero Go.wp_at_succ

set_option maxRecDepth 100000 in
set_option maxHeartbeats 2000000 in
theorem moves_0 (m : ByteArray) (s c : Int) (a0 : Int) (b off cap : Nat) (w : World) (hb : b < w.heap.size)
    (h0 : w.cell? ⟨b, off, none⟩ = some (.int .i64 a0))
    (p0 : 1 ≤ a0) (q0 : a0 ≤ 262144) :
    Calls Try.prog 102 #[.agg #[.string m, .int .i64 s, .int .i64 c, .int .i64 0, .slice (some ⟨b, off, none⟩) 1 cap]] w fun e w' => ∃ o, e = .returned o ∧ Hid (OwnPts w' w.heap.size o [⟨a0, 0, 0⟩]) ∧ Below w.heap.size w w' := by
  go_enter Try.func102, Try.ntmps102
  go_wp2
  go_ret
  refine ⟨_, rfl, ?_, ((below_new w _).alloc (by simp) _)⟩
  have h := own_lit (w.alloc (.cells #[.string m, .int .i64 s, .int .i64 c, .int .i64 0, .slice (some ⟨b, off, none⟩) 1 cap] 54)) 31 3 ptCells [⟨a0, 0, 0⟩] #[.int .i64 a0, .int .i64 0, .int .i64 0] 1 w.heap.size (by simp) rfl rfl pt_len (by simp)
  rw [World.size_alloc] at h
  exact h
set_option maxRecDepth 100000 in
set_option maxHeartbeats 2000000 in
theorem moves_11 (m : ByteArray) (s c : Int) (a0 a1 : Int) (b off cap : Nat) (w : World) (hb : b < w.heap.size)
    (h0 : w.cell? ⟨b, off, none⟩ = some (.int .i64 a0)) (h1 : w.cell? ⟨b, off + 1, none⟩ = some (.int .i64 a1))
    (p0 : 1 ≤ a0) (q0 : a0 ≤ 262144) (p1 : 1 ≤ a1) (q1 : a1 ≤ 262144) :
    Calls Try.prog 102 #[.agg #[.string m, .int .i64 s, .int .i64 c, .int .i64 11, .slice (some ⟨b, off, none⟩) 2 cap]] w fun e w' => ∃ o, e = .returned o ∧ Hid (OwnPts w' w.heap.size o [⟨a0, 0, 0⟩, ⟨0, a1, 0⟩]) ∧ Below w.heap.size w w' := by
  go_enter Try.func102, Try.ntmps102
  go_upto_region 4 with fail
  obtain ⟨W, hW⟩ : ∃ W, w.alloc (.cells #[.string m, .int .i64 s, .int .i64 c, .int .i64 11, .slice (some ⟨b, off, none⟩) 2 cap] 54) = W := ⟨_, rfl⟩
  have HB0 : Hid (Below w.heap.size w W) := by rw [← hW]; exact below_new _ _
  have hz0 : W.heap.size = w.heap.size + 1 := by rw [← hW]; simp
  have c0 : W.cell? ⟨b, off, none⟩ = some (.int .i64 a0) := (HB0.out.cell hb).trans h0
  have c1 : W.cell? ⟨b, off + 1, none⟩ = some (.int .i64 a1) := (HB0.out.cell hb).trans h1
  rw [hW]
  have HZ0 := Lib.hid hz0
  clear hW hz0 h0 h1
  go_still_tail 8, (by kernel_rfl)
  change wpList _ _ _ _ _ W.drew
  have HB : Hid (Below w.heap.size w W.drew) := HB0.out.drew
  have hz : W.drew.heap.size = w.heap.size + 1 := HZ0.out
  clear HB0 HZ0 c0 c1
  generalize W.drew = W at *
  have HZ := Lib.hid hz
  clear hz
  go_wp2
  go_ret
  refine ⟨_, rfl, ?_, HB.out.alloc (by rw [HZ.out]; omega) _⟩
  exact own_lit W 31 3 ptCells [⟨a0, 0, 0⟩, ⟨0, a1, 0⟩] _ _ _ (by rw [HZ.out]; omega) rfl rfl pt_len (by simp)
set_option maxRecDepth 100000 in
set_option maxHeartbeats 2000000 in
theorem moves_21 (m : ByteArray) (s c : Int) (a0 a1 a2 : Int) (b off cap : Nat) (w : World) (hb : b < w.heap.size)
    (h0 : w.cell? ⟨b, off, none⟩ = some (.int .i64 a0)) (h1 : w.cell? ⟨b, off + 1, none⟩ = some (.int .i64 a1)) (h2 : w.cell? ⟨b, off + 2, none⟩ = some (.int .i64 a2))
    (p0 : 1 ≤ a0) (q0 : a0 ≤ 262144) (p1 : 1 ≤ a1) (q1 : a1 ≤ 262144) (p2 : 1 ≤ a2) (q2 : a2 ≤ 262144) :
    Calls Try.prog 102 #[.agg #[.string m, .int .i64 s, .int .i64 c, .int .i64 21, .slice (some ⟨b, off, none⟩) 3 cap]] w fun e w' => ∃ o, e = .returned o ∧ Hid (OwnPts w' w.heap.size o [⟨0, -a0, 0⟩, ⟨a1, 0, 0⟩, ⟨0, a2, 0⟩]) ∧ Below w.heap.size w w' := by
  go_enter Try.func102, Try.ntmps102
  go_upto_region 6 with fail
  obtain ⟨W, hW⟩ : ∃ W, w.alloc (.cells #[.string m, .int .i64 s, .int .i64 c, .int .i64 21, .slice (some ⟨b, off, none⟩) 3 cap] 54) = W := ⟨_, rfl⟩
  have HB0 : Hid (Below w.heap.size w W) := by rw [← hW]; exact below_new _ _
  have hz0 : W.heap.size = w.heap.size + 1 := by rw [← hW]; simp
  have c0 : W.cell? ⟨b, off, none⟩ = some (.int .i64 a0) := (HB0.out.cell hb).trans h0
  have c1 : W.cell? ⟨b, off + 1, none⟩ = some (.int .i64 a1) := (HB0.out.cell hb).trans h1
  have c2 : W.cell? ⟨b, off + 2, none⟩ = some (.int .i64 a2) := (HB0.out.cell hb).trans h2
  rw [hW]
  have HZ0 := Lib.hid hz0
  clear hW hz0 h0 h1 h2
  go_still_tail 13, (by kernel_rfl)
  change wpList _ _ _ _ _ W.drew
  have HB : Hid (Below w.heap.size w W.drew) := HB0.out.drew
  have hz : W.drew.heap.size = w.heap.size + 1 := HZ0.out
  clear HB0 HZ0 c0 c1 c2
  generalize W.drew = W at *
  have HZ := Lib.hid hz
  clear hz
  go_wp2
  go_ret
  refine ⟨_, rfl, ?_, HB.out.alloc (by rw [HZ.out]; omega) _⟩
  exact own_lit W 31 3 ptCells [⟨0, -a0, 0⟩, ⟨a1, 0, 0⟩, ⟨0, a2, 0⟩] _ _ _ (by rw [HZ.out]; omega) rfl rfl pt_len (by simp)
set_option maxRecDepth 100000 in
set_option maxHeartbeats 2000000 in
theorem moves_26 (m : ByteArray) (s c : Int) (a0 a1 a2 : Int) (b off cap : Nat) (w : World) (hb : b < w.heap.size)
    (h0 : w.cell? ⟨b, off, none⟩ = some (.int .i64 a0)) (h1 : w.cell? ⟨b, off + 1, none⟩ = some (.int .i64 a1)) (h2 : w.cell? ⟨b, off + 2, none⟩ = some (.int .i64 a2))
    (p0 : 1 ≤ a0) (q0 : a0 ≤ 262144) (p1 : 1 ≤ a1) (q1 : a1 ≤ 262144) (p2 : 1 ≤ a2) (q2 : a2 ≤ 262144) :
    Calls Try.prog 102 #[.agg #[.string m, .int .i64 s, .int .i64 c, .int .i64 26, .slice (some ⟨b, off, none⟩) 3 cap]] w fun e w' => ∃ o, e = .returned o ∧ Hid (OwnPts w' w.heap.size o [⟨a0, 0, 0⟩, ⟨0, a1, 0⟩, ⟨a2, 0, 0⟩]) ∧ Below w.heap.size w w' := by
  go_enter Try.func102, Try.ntmps102
  go_upto_region 8 with fail
  obtain ⟨W, hW⟩ : ∃ W, w.alloc (.cells #[.string m, .int .i64 s, .int .i64 c, .int .i64 26, .slice (some ⟨b, off, none⟩) 3 cap] 54) = W := ⟨_, rfl⟩
  have HB0 : Hid (Below w.heap.size w W) := by rw [← hW]; exact below_new _ _
  have hz0 : W.heap.size = w.heap.size + 1 := by rw [← hW]; simp
  have c0 : W.cell? ⟨b, off, none⟩ = some (.int .i64 a0) := (HB0.out.cell hb).trans h0
  have c1 : W.cell? ⟨b, off + 1, none⟩ = some (.int .i64 a1) := (HB0.out.cell hb).trans h1
  have c2 : W.cell? ⟨b, off + 2, none⟩ = some (.int .i64 a2) := (HB0.out.cell hb).trans h2
  rw [hW]
  have HZ0 := Lib.hid hz0
  clear hW hz0 h0 h1 h2
  go_still_tail 12, (by kernel_rfl)
  change wpList _ _ _ _ _ W.drew
  have HB : Hid (Below w.heap.size w W.drew) := HB0.out.drew
  have hz : W.drew.heap.size = w.heap.size + 1 := HZ0.out
  clear HB0 HZ0 c0 c1 c2
  generalize W.drew = W at *
  have HZ := Lib.hid hz
  clear hz
  go_wp2
  go_ret
  refine ⟨_, rfl, ?_, HB.out.alloc (by rw [HZ.out]; omega) _⟩
  exact own_lit W 31 3 ptCells [⟨a0, 0, 0⟩, ⟨0, a1, 0⟩, ⟨a2, 0, 0⟩] _ _ _ (by rw [HZ.out]; omega) rfl rfl pt_len (by simp)
set_option maxRecDepth 100000 in
set_option maxHeartbeats 2000000 in
theorem moves_31 (m : ByteArray) (s c : Int) (a0 a1 a2 : Int) (b off cap : Nat) (w : World) (hb : b < w.heap.size)
    (h0 : w.cell? ⟨b, off, none⟩ = some (.int .i64 a0)) (h1 : w.cell? ⟨b, off + 1, none⟩ = some (.int .i64 a1)) (h2 : w.cell? ⟨b, off + 2, none⟩ = some (.int .i64 a2))
    (p0 : 1 ≤ a0) (q0 : a0 ≤ 262144) (p1 : 1 ≤ a1) (q1 : a1 ≤ 262144) (p2 : 1 ≤ a2) (q2 : a2 ≤ 262144) :
    Calls Try.prog 102 #[.agg #[.string m, .int .i64 s, .int .i64 c, .int .i64 31, .slice (some ⟨b, off, none⟩) 3 cap]] w fun e w' => ∃ o, e = .returned o ∧ Hid (OwnPts w' w.heap.size o [⟨a0, 0, 0⟩, ⟨0, a1, 0⟩, ⟨0, 0, a2⟩]) ∧ Below w.heap.size w w' := by
  go_enter Try.func102, Try.ntmps102
  go_upto_region 10 with fail
  obtain ⟨W, hW⟩ : ∃ W, w.alloc (.cells #[.string m, .int .i64 s, .int .i64 c, .int .i64 31, .slice (some ⟨b, off, none⟩) 3 cap] 54) = W := ⟨_, rfl⟩
  have HB0 : Hid (Below w.heap.size w W) := by rw [← hW]; exact below_new _ _
  have hz0 : W.heap.size = w.heap.size + 1 := by rw [← hW]; simp
  have c0 : W.cell? ⟨b, off, none⟩ = some (.int .i64 a0) := (HB0.out.cell hb).trans h0
  have c1 : W.cell? ⟨b, off + 1, none⟩ = some (.int .i64 a1) := (HB0.out.cell hb).trans h1
  have c2 : W.cell? ⟨b, off + 2, none⟩ = some (.int .i64 a2) := (HB0.out.cell hb).trans h2
  rw [hW]
  have HZ0 := Lib.hid hz0
  clear hW hz0 h0 h1 h2
  go_still_tail 12, (by kernel_rfl)
  change wpList _ _ _ _ _ W.drew
  have HB : Hid (Below w.heap.size w W.drew) := HB0.out.drew
  have hz : W.drew.heap.size = w.heap.size + 1 := HZ0.out
  clear HB0 HZ0 c0 c1 c2
  generalize W.drew = W at *
  have HZ := Lib.hid hz
  clear hz
  go_wp2
  go_ret
  refine ⟨_, rfl, ?_, HB.out.alloc (by rw [HZ.out]; omega) _⟩
  exact own_lit W 31 3 ptCells [⟨a0, 0, 0⟩, ⟨0, a1, 0⟩, ⟨0, 0, a2⟩] _ _ _ (by rw [HZ.out]; omega) rfl rfl pt_len (by simp)
set_option maxRecDepth 100000 in
set_option maxHeartbeats 2000000 in
theorem moves_41 (m : ByteArray) (s c : Int) (a0 a1 a2 a3 a4 : Int) (b off cap : Nat) (w : World) (hb : b < w.heap.size)
    (h0 : w.cell? ⟨b, off, none⟩ = some (.int .i64 a0)) (h1 : w.cell? ⟨b, off + 1, none⟩ = some (.int .i64 a1)) (h2 : w.cell? ⟨b, off + 2, none⟩ = some (.int .i64 a2)) (h3 : w.cell? ⟨b, off + 3, none⟩ = some (.int .i64 a3)) (h4 : w.cell? ⟨b, off + 4, none⟩ = some (.int .i64 a4))
    (p0 : 1 ≤ a0) (q0 : a0 ≤ 262144) (p1 : 1 ≤ a1) (q1 : a1 ≤ 262144) (p2 : 1 ≤ a2) (q2 : a2 ≤ 262144) (p3 : 1 ≤ a3) (q3 : a3 ≤ 262144) (p4 : 1 ≤ a4) (q4 : a4 ≤ 262144) :
    Calls Try.prog 102 #[.agg #[.string m, .int .i64 s, .int .i64 c, .int .i64 41, .slice (some ⟨b, off, none⟩) 5 cap]] w fun e w' => ∃ o, e = .returned o ∧ Hid (OwnPts w' w.heap.size o [⟨a0, 0, 0⟩, ⟨0, a1, 0⟩, ⟨a2, 0, 0⟩, ⟨0, -a3, 0⟩, ⟨a4, 0, 0⟩]) ∧ Below w.heap.size w w' := by
  go_enter Try.func102, Try.ntmps102
  go_upto_region 12 with fail
  obtain ⟨W, hW⟩ : ∃ W, w.alloc (.cells #[.string m, .int .i64 s, .int .i64 c, .int .i64 41, .slice (some ⟨b, off, none⟩) 5 cap] 54) = W := ⟨_, rfl⟩
  have HB0 : Hid (Below w.heap.size w W) := by rw [← hW]; exact below_new _ _
  have hz0 : W.heap.size = w.heap.size + 1 := by rw [← hW]; simp
  have c0 : W.cell? ⟨b, off, none⟩ = some (.int .i64 a0) := (HB0.out.cell hb).trans h0
  have c1 : W.cell? ⟨b, off + 1, none⟩ = some (.int .i64 a1) := (HB0.out.cell hb).trans h1
  have c2 : W.cell? ⟨b, off + 2, none⟩ = some (.int .i64 a2) := (HB0.out.cell hb).trans h2
  have c3 : W.cell? ⟨b, off + 3, none⟩ = some (.int .i64 a3) := (HB0.out.cell hb).trans h3
  have c4 : W.cell? ⟨b, off + 4, none⟩ = some (.int .i64 a4) := (HB0.out.cell hb).trans h4
  rw [hW]
  have HZ0 := Lib.hid hz0
  clear hW hz0 h0 h1 h2 h3 h4
  go_still_tail 21, (by kernel_rfl)
  change wpList _ _ _ _ _ W.drew
  have HB : Hid (Below w.heap.size w W.drew) := HB0.out.drew
  have hz : W.drew.heap.size = w.heap.size + 1 := HZ0.out
  clear HB0 HZ0 c0 c1 c2 c3 c4
  generalize W.drew = W at *
  have HZ := Lib.hid hz
  clear hz
  go_wp2
  go_ret
  refine ⟨_, rfl, ?_, HB.out.alloc (by rw [HZ.out]; omega) _⟩
  exact own_lit W 31 3 ptCells [⟨a0, 0, 0⟩, ⟨0, a1, 0⟩, ⟨a2, 0, 0⟩, ⟨0, -a3, 0⟩, ⟨a4, 0, 0⟩] _ _ _ (by rw [HZ.out]; omega) rfl rfl pt_len (by simp)
set_option maxRecDepth 100000 in
set_option maxHeartbeats 2000000 in
theorem moves_51 (m : ByteArray) (s c : Int) (a0 a1 a2 : Int) (b off cap : Nat) (w : World) (hb : b < w.heap.size)
    (h0 : w.cell? ⟨b, off, none⟩ = some (.int .i64 a0)) (h1 : w.cell? ⟨b, off + 1, none⟩ = some (.int .i64 a1)) (h2 : w.cell? ⟨b, off + 2, none⟩ = some (.int .i64 a2))
    (p0 : 1 ≤ a0) (q0 : a0 ≤ 262144) (p1 : 1 ≤ a1) (q1 : a1 ≤ 262144) (p2 : 1 ≤ a2) (q2 : a2 ≤ 262144) :
    Calls Try.prog 102 #[.agg #[.string m, .int .i64 s, .int .i64 c, .int .i64 51, .slice (some ⟨b, off, none⟩) 3 cap]] w fun e w' => ∃ o, e = .returned o ∧ Hid (OwnPts w' w.heap.size o [⟨0, -a2, 0⟩, ⟨a0, 0, 0⟩, ⟨0, a1, 0⟩, ⟨-a0, 0, 0⟩, ⟨0, -a1, 0⟩, ⟨a2, 0, 0⟩]) ∧ Below w.heap.size w w' := by
  go_enter Try.func102, Try.ntmps102
  go_upto_region 14 with fail
  obtain ⟨W, hW⟩ : ∃ W, w.alloc (.cells #[.string m, .int .i64 s, .int .i64 c, .int .i64 51, .slice (some ⟨b, off, none⟩) 3 cap] 54) = W := ⟨_, rfl⟩
  have HB0 : Hid (Below w.heap.size w W) := by rw [← hW]; exact below_new _ _
  have hz0 : W.heap.size = w.heap.size + 1 := by rw [← hW]; simp
  have c0 : W.cell? ⟨b, off, none⟩ = some (.int .i64 a0) := (HB0.out.cell hb).trans h0
  have c1 : W.cell? ⟨b, off + 1, none⟩ = some (.int .i64 a1) := (HB0.out.cell hb).trans h1
  have c2 : W.cell? ⟨b, off + 2, none⟩ = some (.int .i64 a2) := (HB0.out.cell hb).trans h2
  rw [hW]
  have HZ0 := Lib.hid hz0
  clear hW hz0 h0 h1 h2
  go_still_tail 27, (by kernel_rfl)
  change wpList _ _ _ _ _ W.drew
  have HB : Hid (Below w.heap.size w W.drew) := HB0.out.drew
  have hz : W.drew.heap.size = w.heap.size + 1 := HZ0.out
  clear HB0 HZ0 c0 c1 c2
  generalize W.drew = W at *
  have HZ := Lib.hid hz
  clear hz
  go_wp2
  go_ret
  refine ⟨_, rfl, ?_, HB.out.alloc (by rw [HZ.out]; omega) _⟩
  exact own_lit W 31 3 ptCells [⟨0, -a2, 0⟩, ⟨a0, 0, 0⟩, ⟨0, a1, 0⟩, ⟨-a0, 0, 0⟩, ⟨0, -a1, 0⟩, ⟨a2, 0, 0⟩] _ _ _ (by rw [HZ.out]; omega) rfl rfl pt_len (by simp)
set_option maxRecDepth 100000 in
set_option maxHeartbeats 2000000 in
theorem moves_98 (m : ByteArray) (s c : Int) (a0 a1 a2 : Int) (b off cap : Nat) (w : World) (hb : b < w.heap.size)
    (h0 : w.cell? ⟨b, off, none⟩ = some (.int .i64 a0)) (h1 : w.cell? ⟨b, off + 1, none⟩ = some (.int .i64 a1)) (h2 : w.cell? ⟨b, off + 2, none⟩ = some (.int .i64 a2))
    (p0 : 1 ≤ a0) (q0 : a0 ≤ 262144) (p1 : 1 ≤ a1) (q1 : a1 ≤ 262144) (p2 : 1 ≤ a2) (q2 : a2 ≤ 262144) :
    Calls Try.prog 102 #[.agg #[.string m, .int .i64 s, .int .i64 c, .int .i64 98, .slice (some ⟨b, off, none⟩) 3 cap]] w fun e w' => ∃ o, e = .returned o ∧ Hid (OwnPts w' w.heap.size o [⟨0, 0, a0⟩, ⟨0, -a1, 0⟩, ⟨a2, 0, 0⟩, ⟨0, a1, 0⟩, ⟨0, 0, a0⟩]) ∧ Below w.heap.size w w' := by
  go_enter Try.func102, Try.ntmps102
  go_upto_region 16 with fail
  obtain ⟨W, hW⟩ : ∃ W, w.alloc (.cells #[.string m, .int .i64 s, .int .i64 c, .int .i64 98, .slice (some ⟨b, off, none⟩) 3 cap] 54) = W := ⟨_, rfl⟩
  have HB0 : Hid (Below w.heap.size w W) := by rw [← hW]; exact below_new _ _
  have hz0 : W.heap.size = w.heap.size + 1 := by rw [← hW]; simp
  have c0 : W.cell? ⟨b, off, none⟩ = some (.int .i64 a0) := (HB0.out.cell hb).trans h0
  have c1 : W.cell? ⟨b, off + 1, none⟩ = some (.int .i64 a1) := (HB0.out.cell hb).trans h1
  have c2 : W.cell? ⟨b, off + 2, none⟩ = some (.int .i64 a2) := (HB0.out.cell hb).trans h2
  rw [hW]
  have HZ0 := Lib.hid hz0
  clear hW hz0 h0 h1 h2
  go_still_tail 21, (by kernel_rfl)
  change wpList _ _ _ _ _ W.drew
  have HB : Hid (Below w.heap.size w W.drew) := HB0.out.drew
  have hz : W.drew.heap.size = w.heap.size + 1 := HZ0.out
  clear HB0 HZ0 c0 c1 c2
  generalize W.drew = W at *
  have HZ := Lib.hid hz
  clear hz
  go_wp2
  go_ret
  refine ⟨_, rfl, ?_, HB.out.alloc (by rw [HZ.out]; omega) _⟩
  exact own_lit W 31 3 ptCells [⟨0, 0, a0⟩, ⟨0, -a1, 0⟩, ⟨a2, 0, 0⟩, ⟨0, a1, 0⟩, ⟨0, 0, a0⟩] _ _ _ (by rw [HZ.out]; omega) rfl rfl pt_len (by simp)

def moveOf (d : List Int) (l : Nat × Nat) : Pt := stepP ⟨0, 0, 0⟩ l.2 (d[l.1]?.getD 0)
def movesOf (x : BarD) : List Pt := (legsOf x.code).map (moveOf x.dims)
theorem stepP_move (p : Pt) (way : Nat) (n : Int) : stepP p way n = padd p (stepP ⟨0, 0, 0⟩ way n) := by
  obtain ⟨x, y, z⟩ := p
  unfold stepP padd
  (repeat' split) <;> simp <;> omega
theorem ints_cells {w : World} {b off cap n : Nat} {l : List Int} (h : Ints w (.slice (some ⟨b, off, none⟩) n cap) l) : ∀ (k : Nat) x, l[k]? = some x → w.cell? ⟨b, off + k, none⟩ = some (.int .i64 x) ∧ b < w.heap.size := by
  obtain ⟨ao, c, e, h⟩ := h
  cases e
  intro k x hx
  obtain ⟨b', off', e, hlt, hc⟩ := h (by have := (List.getElem?_eq_some_iff.1 hx).1; omega)
  cases e
  exact ⟨hc k x hx, hlt⟩
theorem len_cases {l : List Int} {n : Nat} (h : l.length = n) :
    (n = 1 → ∃ a, l = [a]) ∧ (n = 2 → ∃ a b, l = [a, b]) ∧ (n = 3 → ∃ a b c, l = [a, b, c]) ∧ (n = 5 → ∃ a b c d e, l = [a, b, c, d, e]) := by
  subst h
  refine ⟨fun h => ?_, fun h => ?_, fun h => ?_, fun h => ?_⟩
  · match l, h with
    | [a], _ => exact ⟨a, rfl⟩
  · match l, h with
    | [a, b], _ => exact ⟨a, b, rfl⟩
  · match l, h with
    | [a, b, c], _ => exact ⟨a, b, c, rfl⟩
  · match l, h with
    | [a, b, c, d, e], _ => exact ⟨a, b, c, d, e, rfl⟩

theorem rmoves_any (x : BarD) (dv : Value) (w : World) (hd : Ints w dv x.dims) (hok : barOk x = true) :
    Calls Try.prog 102 #[barv x dv] w fun e w' => ∃ o, e = .returned o ∧ Hid (OwnPts w' w.heap.size o (movesOf x)) ∧ Below w.heap.size w w' := by
  obtain ⟨p1, p2, p3, p4⟩ := barOk_parts hok
  have HDL : ∀ (i : Nat) y, x.dims[i]? = some y → 1 ≤ y ∧ y ≤ 262144 := fun i y h => ⟨p2 y (List.mem_of_getElem? h), by have := dims_le p2 h; omega⟩
  obtain ⟨m, s, c, co, ds⟩ := x
  simp only at *
  obtain ⟨ao, cap, rfl, hd2⟩ := id hd
  obtain ⟨b, off, rfl, hbl, _⟩ := hd2 (by omega)
  have hc := ints_cells hd
  obtain ⟨l1, l2, l3, l5⟩ := len_cases p1
  rcases code_cases co with (rfl | rfl | rfl | rfl | rfl | rfl | rfl | rfl) | ⟨_, hn, _⟩
  · obtain ⟨a0, rfl⟩ := l1 rfl
    obtain ⟨p0', q0'⟩ := HDL 0 a0 rfl
    have h := moves_0 m s c a0 b off cap w hbl (hc 0 _ rfl).1 p0' q0'
    have e : movesOf ⟨m, s, c, 0, [a0]⟩ = [⟨a0, 0, 0⟩] := by simp [movesOf, legsOf, moveOf, stepP]
    rw [← e] at h
    exact h
  · obtain ⟨a0, a1, rfl⟩ := l2 rfl
    obtain ⟨p0', q0'⟩ := HDL 0 a0 rfl
    obtain ⟨p1', q1'⟩ := HDL 1 a1 rfl
    have h := moves_11 m s c a0 a1 b off cap w hbl (hc 0 _ rfl).1 (hc 1 _ rfl).1 p0' q0' p1' q1'
    have e : movesOf ⟨m, s, c, 11, [a0, a1]⟩ = [⟨a0, 0, 0⟩, ⟨0, a1, 0⟩] := by simp [movesOf, legsOf, moveOf, stepP]
    rw [← e] at h
    exact h
  · obtain ⟨a0, a1, a2, rfl⟩ := l3 rfl
    obtain ⟨p0', q0'⟩ := HDL 0 a0 rfl
    obtain ⟨p1', q1'⟩ := HDL 1 a1 rfl
    obtain ⟨p2', q2'⟩ := HDL 2 a2 rfl
    have h := moves_21 m s c a0 a1 a2 b off cap w hbl (hc 0 _ rfl).1 (hc 1 _ rfl).1 (hc 2 _ rfl).1 p0' q0' p1' q1' p2' q2'
    have e : movesOf ⟨m, s, c, 21, [a0, a1, a2]⟩ = [⟨0, -a0, 0⟩, ⟨a1, 0, 0⟩, ⟨0, a2, 0⟩] := by simp [movesOf, legsOf, moveOf, stepP]
    rw [← e] at h
    exact h
  · obtain ⟨a0, a1, a2, rfl⟩ := l3 rfl
    obtain ⟨p0', q0'⟩ := HDL 0 a0 rfl
    obtain ⟨p1', q1'⟩ := HDL 1 a1 rfl
    obtain ⟨p2', q2'⟩ := HDL 2 a2 rfl
    have h := moves_26 m s c a0 a1 a2 b off cap w hbl (hc 0 _ rfl).1 (hc 1 _ rfl).1 (hc 2 _ rfl).1 p0' q0' p1' q1' p2' q2'
    have e : movesOf ⟨m, s, c, 26, [a0, a1, a2]⟩ = [⟨a0, 0, 0⟩, ⟨0, a1, 0⟩, ⟨a2, 0, 0⟩] := by simp [movesOf, legsOf, moveOf, stepP]
    rw [← e] at h
    exact h
  · obtain ⟨a0, a1, a2, rfl⟩ := l3 rfl
    obtain ⟨p0', q0'⟩ := HDL 0 a0 rfl
    obtain ⟨p1', q1'⟩ := HDL 1 a1 rfl
    obtain ⟨p2', q2'⟩ := HDL 2 a2 rfl
    have h := moves_31 m s c a0 a1 a2 b off cap w hbl (hc 0 _ rfl).1 (hc 1 _ rfl).1 (hc 2 _ rfl).1 p0' q0' p1' q1' p2' q2'
    have e : movesOf ⟨m, s, c, 31, [a0, a1, a2]⟩ = [⟨a0, 0, 0⟩, ⟨0, a1, 0⟩, ⟨0, 0, a2⟩] := by simp [movesOf, legsOf, moveOf, stepP]
    rw [← e] at h
    exact h
  · obtain ⟨a0, a1, a2, a3, a4, rfl⟩ := l5 rfl
    obtain ⟨p0', q0'⟩ := HDL 0 a0 rfl
    obtain ⟨p1', q1'⟩ := HDL 1 a1 rfl
    obtain ⟨p2', q2'⟩ := HDL 2 a2 rfl
    obtain ⟨p3', q3'⟩ := HDL 3 a3 rfl
    obtain ⟨p4', q4'⟩ := HDL 4 a4 rfl
    have h := moves_41 m s c a0 a1 a2 a3 a4 b off cap w hbl (hc 0 _ rfl).1 (hc 1 _ rfl).1 (hc 2 _ rfl).1 (hc 3 _ rfl).1 (hc 4 _ rfl).1 p0' q0' p1' q1' p2' q2' p3' q3' p4' q4'
    have e : movesOf ⟨m, s, c, 41, [a0, a1, a2, a3, a4]⟩ = [⟨a0, 0, 0⟩, ⟨0, a1, 0⟩, ⟨a2, 0, 0⟩, ⟨0, -a3, 0⟩, ⟨a4, 0, 0⟩] := by simp [movesOf, legsOf, moveOf, stepP]
    rw [← e] at h
    exact h
  · obtain ⟨a0, a1, a2, rfl⟩ := l3 rfl
    obtain ⟨p0', q0'⟩ := HDL 0 a0 rfl
    obtain ⟨p1', q1'⟩ := HDL 1 a1 rfl
    obtain ⟨p2', q2'⟩ := HDL 2 a2 rfl
    have h := moves_51 m s c a0 a1 a2 b off cap w hbl (hc 0 _ rfl).1 (hc 1 _ rfl).1 (hc 2 _ rfl).1 p0' q0' p1' q1' p2' q2'
    have e : movesOf ⟨m, s, c, 51, [a0, a1, a2]⟩ = [⟨0, -a2, 0⟩, ⟨a0, 0, 0⟩, ⟨0, a1, 0⟩, ⟨-a0, 0, 0⟩, ⟨0, -a1, 0⟩, ⟨a2, 0, 0⟩] := by simp [movesOf, legsOf, moveOf, stepP]
    rw [← e] at h
    exact h
  · obtain ⟨a0, a1, a2, rfl⟩ := l3 rfl
    obtain ⟨p0', q0'⟩ := HDL 0 a0 rfl
    obtain ⟨p1', q1'⟩ := HDL 1 a1 rfl
    obtain ⟨p2', q2'⟩ := HDL 2 a2 rfl
    have h := moves_98 m s c a0 a1 a2 b off cap w hbl (hc 0 _ rfl).1 (hc 1 _ rfl).1 (hc 2 _ rfl).1 p0' q0' p1' q1' p2' q2'
    have e : movesOf ⟨m, s, c, 98, [a0, a1, a2]⟩ = [⟨0, 0, a0⟩, ⟨0, -a1, 0⟩, ⟨a2, 0, 0⟩, ⟨0, a1, 0⟩, ⟨0, 0, a0⟩] := by simp [movesOf, legsOf, moveOf, stepP]
    rw [← e] at h
    exact h
  · omega
end Go.Proofs.Ytpidjgljeooblaa
