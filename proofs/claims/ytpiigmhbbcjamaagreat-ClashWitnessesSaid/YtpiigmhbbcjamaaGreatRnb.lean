/-
  The reference of boxes: Along.
-/
import Derived.Test.YtpiigmhbbcjamaaGreatRna
import Derived.Test.YtpiigmhbbcjamaaGreatQbl
namespace Go.Proofs.YtpiigmhbbcjamaaGreat
section
open Go.RowKit
set_option linter.unusedVariables false
set_option linter.unusedSimpArgs false
attribute [local go_sem ↓] Go.wp_at_zero Go.wp_at_succ

theorem rcoord_lo (p : Bx) (k : Nat) (w : World) : Calls Tryz.prog 88 #[.agg #[.int .i64 p.lo.x, .int .i64 p.lo.y, .int .i64 p.lo.z], .int .i64 (k : Int)] w fun e w' => e = .returned (.int .i64 (ax p.lo k)) ∧ Below w.heap.size w w' := rcoord_any p.lo k w
theorem rcoord_hi (p : Bx) (k : Nat) (w : World) : Calls Tryz.prog 88 #[.agg #[.int .i64 p.hi.x, .int .i64 p.hi.y, .int .i64 p.hi.z], .int .i64 (k : Int)] w fun e w' => e = .returned (.int .i64 (ax p.hi k)) ∧ Below w.heap.size w w' := rcoord_any p.hi k w

set_option maxRecDepth 100000 in
set_option maxHeartbeats 2000000 in
theorem ralong_any (a b : Bx) (k : Nat) (w : World) (hk : k < 3) (ha : bxOk a = true) (hb : bxOk b = true) :
    Calls Tryz.prog 87 #[bxv a, bxv b, .int .i64 (k : Int)] w fun e w' => e = .returned (.int .i64 (gp a b k)) ∧ Below w.heap.size w w' := by
  obtain ⟨a1, a2, a3, a4⟩ := ax_bd ha hk
  obtain ⟨b1, b2, b3, b4⟩ := ax_bd hb hk
  have HA := Lib.hid (fun W => rcoord_lo a k W)
  have HB := Lib.hid (fun W => rcoord_lo b k W)
  have HC := Lib.hid (fun W => rcoord_hi a k W)
  have HD := Lib.hid (fun W => rcoord_hi b k W)
  have HG : Hid (gp a b k = if ax b.lo k - ax a.hi k < ax a.lo k - ax b.hi k then ax a.lo k - ax b.hi k else ax b.lo k - ax a.hi k) := rfl
  generalize gp a b k = G at *
  generalize ax a.lo k = al at *
  generalize ax a.hi k = ah at *
  generalize ax b.lo k = bl at *
  generalize ax b.hi k = bh at *
  have s0 : IntKind.i64.wrap (bl - ah) = bl - ah := IntWalk.i64_in _ (by omega)
  have s1 : IntKind.i64.wrap (al - bh) = al - bh := IntWalk.i64_in _ (by omega)
  have X1 := Lib.hid (BlkIs.alloc (BlkIs.new w (bxCellsA a) 96) (.cells (bxCellsA b) 96))
  have X2 := Lib.hid (BlkIs.new1 w (.cells (bxCellsA a) 96) (bxCellsA b) 96)
  have HW0 : Hid (Below w.heap.size w ((w.alloc (.cells (bxCellsA a) 96)).alloc (.cells (bxCellsA b) 96))) := by unfold Hid; go_grown
  clear ha hb
  go_enter Tryz.func87, Tryz.ntmps87
  go_upto_region 1 with fail
  obtain ⟨W0, hW0⟩ : ∃ W, (w.alloc (.cells (bxCellsA a) 96)).alloc (.cells (bxCellsA b) 96) = W := ⟨_, rfl⟩
  rw [hW0] at X1 X2 HW0 ⊢
  clear hW0
  have c0 : ∀ d os, (Go.Sort.grow (redrawn W0 d) os).cell? ⟨w.heap.size, 0, none⟩ = some (.int .i64 a.lo.x) := fun d os => cell_regrown (X1.out.cell 0) d os
  have c1 : ∀ d os, (Go.Sort.grow (redrawn W0 d) os).cell? ⟨w.heap.size, 1, none⟩ = some (.int .i64 a.lo.y) := fun d os => cell_regrown (X1.out.cell 1) d os
  have c2 : ∀ d os, (Go.Sort.grow (redrawn W0 d) os).cell? ⟨w.heap.size, 2, none⟩ = some (.int .i64 a.lo.z) := fun d os => cell_regrown (X1.out.cell 2) d os
  have c3 : ∀ d os, (Go.Sort.grow (redrawn W0 d) os).cell? ⟨w.heap.size, 3, none⟩ = some (.int .i64 a.hi.x) := fun d os => cell_regrown (X1.out.cell 3) d os
  have c4 : ∀ d os, (Go.Sort.grow (redrawn W0 d) os).cell? ⟨w.heap.size, 4, none⟩ = some (.int .i64 a.hi.y) := fun d os => cell_regrown (X1.out.cell 4) d os
  have c5 : ∀ d os, (Go.Sort.grow (redrawn W0 d) os).cell? ⟨w.heap.size, 5, none⟩ = some (.int .i64 a.hi.z) := fun d os => cell_regrown (X1.out.cell 5) d os
  have e0 : ∀ d os, (Go.Sort.grow (redrawn W0 d) os).cell? ⟨w.heap.size + 1, 0, none⟩ = some (.int .i64 b.lo.x) := fun d os => cell_regrown (X2.out.cell 0) d os
  have e1 : ∀ d os, (Go.Sort.grow (redrawn W0 d) os).cell? ⟨w.heap.size + 1, 1, none⟩ = some (.int .i64 b.lo.y) := fun d os => cell_regrown (X2.out.cell 1) d os
  have e2 : ∀ d os, (Go.Sort.grow (redrawn W0 d) os).cell? ⟨w.heap.size + 1, 2, none⟩ = some (.int .i64 b.lo.z) := fun d os => cell_regrown (X2.out.cell 2) d os
  have e3 : ∀ d os, (Go.Sort.grow (redrawn W0 d) os).cell? ⟨w.heap.size + 1, 3, none⟩ = some (.int .i64 b.hi.x) := fun d os => cell_regrown (X2.out.cell 3) d os
  have e4 : ∀ d os, (Go.Sort.grow (redrawn W0 d) os).cell? ⟨w.heap.size + 1, 4, none⟩ = some (.int .i64 b.hi.y) := fun d os => cell_regrown (X2.out.cell 4) d os
  have e5 : ∀ d os, (Go.Sort.grow (redrawn W0 d) os).cell? ⟨w.heap.size + 1, 5, none⟩ = some (.int .i64 b.hi.z) := fun d os => cell_regrown (X2.out.cell 5) d os
  refine wp_region_quiet_below (by kernel_rfl) (by kernel_rfl) ?_
  repeat (go_big_quiet_step ((first
    | (go_at_call 88; with_reducible exact Calls.regrown_of (HA.out _))
    | (go_at_call 88; with_reducible exact Calls.regrown_of (HB.out _))
    | (go_at_call 88; with_reducible exact Calls.regrown_of (HC.out _))
    | (go_at_call 88; with_reducible exact Calls.regrown_of (HD.out _)))))
  refine wpQuiet_nil ?_
  intro _ hw'
  obtain ⟨⟨nq, osq⟩, hw''⟩ := hw'
  subst hw''
  have HBZ := Lib.hid (bstep HW0.out (below_regrown W0 nq osq))
  go_wp2
  all_goals (go_ret; exact ⟨ret_int (by rw [HG.out]; first | rw [if_pos (by omega)] | rw [if_neg (by omega)]), HBZ.out⟩)
end
end Go.Proofs.YtpiigmhbbcjamaaGreat
