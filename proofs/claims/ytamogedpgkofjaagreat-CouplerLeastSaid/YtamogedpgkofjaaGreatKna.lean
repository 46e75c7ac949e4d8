/-
  Base texts, shaken by wip/shake.py: Rna Rnb Rni Rnj Rnc.
-/
import Derived.Test.YtamogedpgkofjaaGreatKba
import Derived.Test.YtamogedpgkofjaaGreatKqb
namespace Go.Proofs.YtamogedpgkofjaaGreat
section
section
open Go.RowKit
set_option linter.unusedVariables false
set_option linter.unusedSimpArgs false
attribute [local go_sem ↓] Go.wp_at_zero Go.wp_at_succ

theorem rcoord_any (p : Pt) (k : Nat) (w : World) : Calls Tryz.prog 181 #[ptv p, .int .i64 (k : Int)] w fun e w' => e = .returned (.int .i64 (ax p k)) ∧ Below w.heap.size w w' := by
  by_cases h0 : k = 0
  · subst h0
    have HE : Hid (ax p 0 = p.x) := rfl
    generalize ax p 0 = v at *
    go_enter Tryz.func181, Tryz.ntmps181
    go_wp2
    go_ret
    exact ⟨by rw [HE.out]; rfl, by go_grown⟩
  · by_cases h1 : k = 1
    · subst h1
      have HE : Hid (ax p 1 = p.y) := rfl
      generalize ax p 1 = v at *
      clear h0
      go_enter Tryz.func181, Tryz.ntmps181
      go_wp2
      go_ret
      exact ⟨by rw [HE.out]; rfl, by go_grown⟩
    · have HE : Hid (ax p k = p.z) := by unfold Hid ax; rw [if_neg h0, if_neg h1]
      generalize ax p k = v at *
      obtain ⟨i, hi⟩ : ∃ i : Int, (k : Int) = i := ⟨_, rfl⟩
      have n0 : ¬ i = 0 := by omega
      have n1 : ¬ i = 1 := by omega
      rw [hi]
      clear h0 h1 hi
      go_enter Tryz.func181, Tryz.ntmps181
      go_wp2
      go_ret
      exact ⟨by rw [HE.out]; rfl, by go_grown⟩
def withP (p : Pt) (k : Nat) (n : Int) : Pt := if k = 0 then ⟨n, p.y, p.z⟩ else if k = 1 then ⟨p.x, n, p.z⟩ else ⟨p.x, p.y, n⟩
theorem rwith_any (p : Pt) (k : Nat) (n : Int) (w : World) : Calls Tryz.prog 182 #[ptv p, .int .i64 (k : Int), .int .i64 n] w fun e w' => e = .returned (ptv (withP p k n)) ∧ Below w.heap.size w w' := by
  by_cases h0 : k = 0
  · subst h0
    have HE : Hid (withP p 0 n = ⟨n, p.y, p.z⟩) := rfl
    generalize withP p 0 n = v at *
    go_enter Tryz.func182, Tryz.ntmps182
    go_wp2
    exact bodyPost_ret (v := ptv ⟨n, p.y, p.z⟩) (by simp [results, Tryz.results182, go_sem]) rfl ⟨by rw [HE.out], by go_grown⟩
  · by_cases h1 : k = 1
    · subst h1
      have HE : Hid (withP p 1 n = ⟨p.x, n, p.z⟩) := rfl
      generalize withP p 1 n = v at *
      clear h0
      go_enter Tryz.func182, Tryz.ntmps182
      go_wp2
      exact bodyPost_ret (v := ptv ⟨p.x, n, p.z⟩) (by simp [results, Tryz.results182, go_sem]) rfl ⟨by rw [HE.out], by go_grown⟩
    · have HE : Hid (withP p k n = ⟨p.x, p.y, n⟩) := by unfold Hid withP; rw [if_neg h0, if_neg h1]
      generalize withP p k n = v at *
      obtain ⟨i, hi⟩ : ∃ i : Int, (k : Int) = i := ⟨_, rfl⟩
      have n0 : ¬ i = 0 := by omega
      have n1 : ¬ i = 1 := by omega
      rw [hi]
      clear h0 h1 hi
      go_enter Tryz.func182, Tryz.ntmps182
      go_wp2
      exact bodyPost_ret (v := ptv ⟨p.x, p.y, n⟩) (by simp [results, Tryz.results182, go_sem]) rfl ⟨by rw [HE.out], by go_grown⟩
end
end
section
section
open Go.RowKit
set_option linter.unusedVariables false
set_option linter.unusedSimpArgs false
attribute [local go_sem ↓] Go.wp_at_zero Go.wp_at_succ

theorem rcoord_lo (p : Bx) (k : Nat) (w : World) : Calls Tryz.prog 181 #[.agg #[.int .i64 p.lo.x, .int .i64 p.lo.y, .int .i64 p.lo.z], .int .i64 (k : Int)] w fun e w' => e = .returned (.int .i64 (ax p.lo k)) ∧ Below w.heap.size w w' := rcoord_any p.lo k w
theorem rcoord_hi (p : Bx) (k : Nat) (w : World) : Calls Tryz.prog 181 #[.agg #[.int .i64 p.hi.x, .int .i64 p.hi.y, .int .i64 p.hi.z], .int .i64 (k : Int)] w fun e w' => e = .returned (.int .i64 (ax p.hi k)) ∧ Below w.heap.size w w' := rcoord_any p.hi k w

set_option maxRecDepth 100000 in
set_option maxHeartbeats 2000000 in
theorem ralong_any (a b : Bx) (k : Nat) (w : World) (hk : k < 3) (ha : bxOk a = true) (hb : bxOk b = true) :
    Calls Tryz.prog 198 #[bxv a, bxv b, .int .i64 (k : Int)] w fun e w' => e = .returned (.int .i64 (gp a b k)) ∧ Below w.heap.size w w' := by
  obtain ⟨a1, a2, a3, a4⟩ := ax_bd ha hk
  obtain ⟨b1, b2, b3, b4⟩ := ax_bd hb hk
  have HA := Lib.hid (fun W => rcoord_lo a k W)
  have HB := Lib.hid (fun W => rcoord_lo b k W)
  have HC := Lib.hid (fun W => rcoord_hi a k W)
  have HD := Lib.hid (fun W => rcoord_hi b k W)
  have HG : Hid (gp a b k = if ax b.lo k - ax a.hi k < ax a.lo k - ax b.hi k then ax a.lo k - ax b.hi k else ax b.lo k - ax a.hi k) := rfl
  generalize gp a b k = G at *
  generalize ax a.lo k = al at *
  generalize ax a.hi k = ah at *
  generalize ax b.lo k = bl at *
  generalize ax b.hi k = bh at *
  have s0 : IntKind.i64.wrap (bl - ah) = bl - ah := IntWalk.i64_in _ (by omega)
  have s1 : IntKind.i64.wrap (al - bh) = al - bh := IntWalk.i64_in _ (by omega)
  have X1 := Lib.hid (BlkIs.alloc (BlkIs.new w (bxCellsA a) 134) (.cells (bxCellsA b) 134))
  have X2 := Lib.hid (BlkIs.new1 w (.cells (bxCellsA a) 134) (bxCellsA b) 134)
  have HW0 : Hid (Below w.heap.size w ((w.alloc (.cells (bxCellsA a) 134)).alloc (.cells (bxCellsA b) 134))) := by unfold Hid; go_grown
  clear ha hb
  go_enter Tryz.func198, Tryz.ntmps198
  go_upto_region 1 with fail
  obtain ⟨W0, hW0⟩ : ∃ W, (w.alloc (.cells (bxCellsA a) 134)).alloc (.cells (bxCellsA b) 134) = W := ⟨_, rfl⟩
  rw [hW0] at X1 X2 HW0 ⊢
  clear hW0
  have c0 : ∀ d os, (Go.Sort.grow (redrawn W0 d) os).cell? ⟨w.heap.size, 0, none⟩ = some (.int .i64 a.lo.x) := fun d os => cell_regrown (X1.out.cell 0) d os
  have c1 : ∀ d os, (Go.Sort.grow (redrawn W0 d) os).cell? ⟨w.heap.size, 1, none⟩ = some (.int .i64 a.lo.y) := fun d os => cell_regrown (X1.out.cell 1) d os
  have c2 : ∀ d os, (Go.Sort.grow (redrawn W0 d) os).cell? ⟨w.heap.size, 2, none⟩ = some (.int .i64 a.lo.z) := fun d os => cell_regrown (X1.out.cell 2) d os
  have c3 : ∀ d os, (Go.Sort.grow (redrawn W0 d) os).cell? ⟨w.heap.size, 3, none⟩ = some (.int .i64 a.hi.x) := fun d os => cell_regrown (X1.out.cell 3) d os
  have c4 : ∀ d os, (Go.Sort.grow (redrawn W0 d) os).cell? ⟨w.heap.size, 4, none⟩ = some (.int .i64 a.hi.y) := fun d os => cell_regrown (X1.out.cell 4) d os
  have c5 : ∀ d os, (Go.Sort.grow (redrawn W0 d) os).cell? ⟨w.heap.size, 5, none⟩ = some (.int .i64 a.hi.z) := fun d os => cell_regrown (X1.out.cell 5) d os
  have e0 : ∀ d os, (Go.Sort.grow (redrawn W0 d) os).cell? ⟨w.heap.size + 1, 0, none⟩ = some (.int .i64 b.lo.x) := fun d os => cell_regrown (X2.out.cell 0) d os
  have e1 : ∀ d os, (Go.Sort.grow (redrawn W0 d) os).cell? ⟨w.heap.size + 1, 1, none⟩ = some (.int .i64 b.lo.y) := fun d os => cell_regrown (X2.out.cell 1) d os
  have e2 : ∀ d os, (Go.Sort.grow (redrawn W0 d) os).cell? ⟨w.heap.size + 1, 2, none⟩ = some (.int .i64 b.lo.z) := fun d os => cell_regrown (X2.out.cell 2) d os
  have e3 : ∀ d os, (Go.Sort.grow (redrawn W0 d) os).cell? ⟨w.heap.size + 1, 3, none⟩ = some (.int .i64 b.hi.x) := fun d os => cell_regrown (X2.out.cell 3) d os
  have e4 : ∀ d os, (Go.Sort.grow (redrawn W0 d) os).cell? ⟨w.heap.size + 1, 4, none⟩ = some (.int .i64 b.hi.y) := fun d os => cell_regrown (X2.out.cell 4) d os
  have e5 : ∀ d os, (Go.Sort.grow (redrawn W0 d) os).cell? ⟨w.heap.size + 1, 5, none⟩ = some (.int .i64 b.hi.z) := fun d os => cell_regrown (X2.out.cell 5) d os
  refine wp_region_quiet_below (by kernel_rfl) (by kernel_rfl) ?_
  repeat (go_big_quiet_step ((first
    | (go_at_call 181; with_reducible exact Calls.regrown_of (HA.out _))
    | (go_at_call 181; with_reducible exact Calls.regrown_of (HB.out _))
    | (go_at_call 181; with_reducible exact Calls.regrown_of (HC.out _))
    | (go_at_call 181; with_reducible exact Calls.regrown_of (HD.out _)))))
  refine wpQuiet_nil ?_
  intro _ hw'
  obtain ⟨⟨nq, osq⟩, hw''⟩ := hw'
  subst hw''
  have HBZ := Lib.hid (bstep HW0.out (below_regrown W0 nq osq))
  go_wp2
  all_goals (go_ret; exact ⟨ret_int (by rw [HG.out]; first | rw [if_pos (by omega)] | rw [if_neg (by omega)]), HBZ.out⟩)
end
end
section
/-- The first k coordinates of a point, the others 0. -/
def ptTo (f : Pt) (k : Nat) : Pt := ⟨if 0 < k then f.x else 0, if 1 < k then f.y else 0, if 2 < k then f.z else 0⟩
theorem ptTo_three (f : Pt) : ptTo f 3 = f := rfl
theorem ptTo_step (f : Pt) {k : Nat} (hk : k < 3) : withP (ptTo f k) k (ax f k) = ptTo f (k + 1) := by
  obtain rfl | rfl | rfl : k = 0 ∨ k = 1 ∨ k = 2 := by omega
  all_goals rfl
theorem rnearP_ax (a b : Bx) {k : Nat} (hk : k < 3) : ax (nearP a b) k = npA (ax a.lo k) (ax a.hi k) (ax b.lo k) (ax b.hi k) := by
  obtain rfl | rfl | rfl : k = 0 ∨ k = 1 ∨ k = 2 := by omega
  all_goals rfl
theorem rnearQ_ax (a b : Bx) {k : Nat} (hk : k < 3) : ax (nearQ a b) k = npB (ax a.lo k) (ax a.hi k) (ax b.lo k) (ax b.hi k) := by
  obtain rfl | rfl | rfl : k = 0 ∨ k = 1 ∨ k = 2 := by omega
  all_goals rfl
end
section
section
open Go.RowKit
set_option linter.unusedVariables false
set_option linter.unusedSimpArgs false
attribute [local go_sem ↓] Go.wp_at_zero Go.wp_at_succ

/-- The two boxes, the two results' blocks, and the two points as far as they are known. -/
structure NrW (w : World) (a b : Bx) (P Q : Pt) (wr : World) : Prop where
  below : Below w.heap.size w wr
  ba : BlkIs wr w.heap.size 134 (bxCellsA a)
  bb : BlkIs wr (w.heap.size + 1) 134 (bxCellsA b)
  r1 : BlkIs wr (w.heap.size + 2) 88 #[.int .i64 0, .int .i64 0, .int .i64 0]
  r2 : BlkIs wr (w.heap.size + 3) 88 #[.int .i64 0, .int .i64 0, .int .i64 0]
  bp : BlkIs wr (w.heap.size + 4) 88 #[.int .i64 P.x, .int .i64 P.y, .int .i64 P.z]
  bq : BlkIs wr (w.heap.size + 5) 88 #[.int .i64 Q.x, .int .i64 Q.y, .int .i64 Q.z]
theorem NrW.after {w wr w' : World} {a b : Bx} {P Q : Pt} (h : NrW w a b P Q wr) (hb : Below wr.heap.size wr w') : NrW w a b P Q w' :=
  ⟨bstep h.below hb, h.ba.below hb, h.bb.below hb, h.r1.below hb, h.r2.below hb, h.bp.below hb, h.bq.below hb⟩
theorem NrW.setP {w wr : World} {a b : Bx} {P Q : Pt} (h : NrW w a b P Q wr) (R : Pt) : NrW w a b R Q (((wr.setCell ⟨w.heap.size + 4, 0, none⟩ (.int .i64 R.x)).setCell ⟨w.heap.size + 4, 1, none⟩ (.int .i64 R.y)).setCell ⟨w.heap.size + 4, 2, none⟩ (.int .i64 R.z)) :=
  ⟨((h.below.setCell (p := ⟨w.heap.size + 4, 0, none⟩) (by simp) _).setCell (p := ⟨w.heap.size + 4, 1, none⟩) (by simp) _).setCell (p := ⟨w.heap.size + 4, 2, none⟩) (by simp) _,
   ((h.ba.far (by simp) _).far (by simp) _).far (by simp) _, ((h.bb.far (by simp) _).far (by simp) _).far (by simp) _,
   ((h.r1.far (by simp) _).far (by simp) _).far (by simp) _, ((h.r2.far (by simp) _).far (by simp) _).far (by simp) _,
   ((h.bp.set 0 _).set 1 _).set 2 _, ((h.bq.far (by simp) _).far (by simp) _).far (by simp) _⟩
theorem NrW.setQ {w wr : World} {a b : Bx} {P Q : Pt} (h : NrW w a b P Q wr) (R : Pt) : NrW w a b P R (((wr.setCell ⟨w.heap.size + 5, 0, none⟩ (.int .i64 R.x)).setCell ⟨w.heap.size + 5, 1, none⟩ (.int .i64 R.y)).setCell ⟨w.heap.size + 5, 2, none⟩ (.int .i64 R.z)) :=
  ⟨((h.below.setCell (p := ⟨w.heap.size + 5, 0, none⟩) (by simp) _).setCell (p := ⟨w.heap.size + 5, 1, none⟩) (by simp) _).setCell (p := ⟨w.heap.size + 5, 2, none⟩) (by simp) _,
   ((h.ba.far (by simp) _).far (by simp) _).far (by simp) _, ((h.bb.far (by simp) _).far (by simp) _).far (by simp) _,
   ((h.r1.far (by simp) _).far (by simp) _).far (by simp) _, ((h.r2.far (by simp) _).far (by simp) _).far (by simp) _,
   ((h.bp.far (by simp) _).far (by simp) _).far (by simp) _, ((h.bq.set 0 _).set 1 _).set 2 _⟩
/-- The cells of the two boxes, whatever has grown. -/
theorem NrW.regs {w wr : World} {a b : Bx} {P Q : Pt} (h : NrW w a b P Q wr) :
    (∀ d os, (Go.Sort.grow (redrawn wr d) os).cell? ⟨w.heap.size, 0, none⟩ = some (.int .i64 a.lo.x)) ∧ (∀ d os, (Go.Sort.grow (redrawn wr d) os).cell? ⟨w.heap.size, 1, none⟩ = some (.int .i64 a.lo.y)) ∧ (∀ d os, (Go.Sort.grow (redrawn wr d) os).cell? ⟨w.heap.size, 2, none⟩ = some (.int .i64 a.lo.z)) ∧
    (∀ d os, (Go.Sort.grow (redrawn wr d) os).cell? ⟨w.heap.size, 3, none⟩ = some (.int .i64 a.hi.x)) ∧ (∀ d os, (Go.Sort.grow (redrawn wr d) os).cell? ⟨w.heap.size, 4, none⟩ = some (.int .i64 a.hi.y)) ∧ (∀ d os, (Go.Sort.grow (redrawn wr d) os).cell? ⟨w.heap.size, 5, none⟩ = some (.int .i64 a.hi.z)) ∧
    (∀ d os, (Go.Sort.grow (redrawn wr d) os).cell? ⟨w.heap.size + 1, 0, none⟩ = some (.int .i64 b.lo.x)) ∧ (∀ d os, (Go.Sort.grow (redrawn wr d) os).cell? ⟨w.heap.size + 1, 1, none⟩ = some (.int .i64 b.lo.y)) ∧ (∀ d os, (Go.Sort.grow (redrawn wr d) os).cell? ⟨w.heap.size + 1, 2, none⟩ = some (.int .i64 b.lo.z)) ∧
    (∀ d os, (Go.Sort.grow (redrawn wr d) os).cell? ⟨w.heap.size + 1, 3, none⟩ = some (.int .i64 b.hi.x)) ∧ (∀ d os, (Go.Sort.grow (redrawn wr d) os).cell? ⟨w.heap.size + 1, 4, none⟩ = some (.int .i64 b.hi.y)) ∧ (∀ d os, (Go.Sort.grow (redrawn wr d) os).cell? ⟨w.heap.size + 1, 5, none⟩ = some (.int .i64 b.hi.z)) :=
  ⟨fun d os => cell_regrown (h.ba.cell 0) d os, fun d os => cell_regrown (h.ba.cell 1) d os, fun d os => cell_regrown (h.ba.cell 2) d os, fun d os => cell_regrown (h.ba.cell 3) d os, fun d os => cell_regrown (h.ba.cell 4) d os, fun d os => cell_regrown (h.ba.cell 5) d os,
   fun d os => cell_regrown (h.bb.cell 0) d os, fun d os => cell_regrown (h.bb.cell 1) d os, fun d os => cell_regrown (h.bb.cell 2) d os, fun d os => cell_regrown (h.bb.cell 3) d os, fun d os => cell_regrown (h.bb.cell 4) d os, fun d os => cell_regrown (h.bb.cell 5) d os⟩
theorem NrW.cells {w wr : World} {a b : Bx} {P Q : Pt} (h : NrW w a b P Q wr) :
    wr.cell? ⟨w.heap.size, 0, none⟩ = some (.int .i64 a.lo.x) ∧ wr.cell? ⟨w.heap.size, 1, none⟩ = some (.int .i64 a.lo.y) ∧ wr.cell? ⟨w.heap.size, 2, none⟩ = some (.int .i64 a.lo.z) ∧
    wr.cell? ⟨w.heap.size, 3, none⟩ = some (.int .i64 a.hi.x) ∧ wr.cell? ⟨w.heap.size, 4, none⟩ = some (.int .i64 a.hi.y) ∧ wr.cell? ⟨w.heap.size, 5, none⟩ = some (.int .i64 a.hi.z) ∧
    wr.cell? ⟨w.heap.size + 1, 0, none⟩ = some (.int .i64 b.lo.x) ∧ wr.cell? ⟨w.heap.size + 1, 1, none⟩ = some (.int .i64 b.lo.y) ∧ wr.cell? ⟨w.heap.size + 1, 2, none⟩ = some (.int .i64 b.lo.z) ∧
    wr.cell? ⟨w.heap.size + 1, 3, none⟩ = some (.int .i64 b.hi.x) ∧ wr.cell? ⟨w.heap.size + 1, 4, none⟩ = some (.int .i64 b.hi.y) ∧ wr.cell? ⟨w.heap.size + 1, 5, none⟩ = some (.int .i64 b.hi.z) :=
  ⟨h.ba.cell 0, h.ba.cell 1, h.ba.cell 2, h.ba.cell 3, h.ba.cell 4, h.ba.cell 5, h.bb.cell 0, h.bb.cell 1, h.bb.cell 2, h.bb.cell 3, h.bb.cell 4, h.bb.cell 5⟩

abbrev set3 (w : World) (g : Nat) (P : Pt) : World := ((w.setCell ⟨g, 0, none⟩ (.int .i64 P.x)).setCell ⟨g, 1, none⟩ (.int .i64 P.y)).setCell ⟨g, 2, none⟩ (.int .i64 P.z)
theorem blk_set3 {w : World} {g : Nat} {t : TypeId} {a b c : Value} (h : BlkIs w g t #[a, b, c]) (P : Pt) : BlkIs (set3 w g P) g t #[.int .i64 P.x, .int .i64 P.y, .int .i64 P.z] := ((h.set 0 _).set 1 _).set 2 _
theorem blk_far3 {w : World} {g G : Nat} {t : TypeId} {cs : Array Value} (h : BlkIs w g t cs) (hne : g ≠ G) (P : Pt) : BlkIs (set3 w G P) g t cs := ((h.far (p := ⟨G, 0, none⟩) hne _).far (p := ⟨G, 1, none⟩) hne _).far (p := ⟨G, 2, none⟩) hne _
theorem below_set3 {w0 w : World} {B g : Nat} (h : Below B w0 w) (hg : B ≤ g) (P : Pt) : Below B w0 (set3 w g P) := ((h.setCell (p := ⟨g, 0, none⟩) hg _).setCell (p := ⟨g, 1, none⟩) hg _).setCell (p := ⟨g, 2, none⟩) hg _
theorem blk_drew {w : World} {g : Nat} {t : TypeId} {cs : Array Value} (h : BlkIs w g t cs) : BlkIs w.drew g t cs := h
theorem NrW.outs {w wr W9 : World} {a b : Bx} {P Q : Pt} (h : NrW w a b P Q wr) (R S : Pt) (hW : (set3 (set3 wr (w.heap.size + 1 + 1) R) (w.heap.size + 1 + 1 + 1) S).drew = W9) :
    BlkIs W9 (w.heap.size + 1 + 1) 88 #[.int .i64 R.x, .int .i64 R.y, .int .i64 R.z] ∧ BlkIs W9 (w.heap.size + 1 + 1 + 1) 88 #[.int .i64 S.x, .int .i64 S.y, .int .i64 S.z] ∧ Below w.heap.size w W9 := by
  have h1 : BlkIs wr (w.heap.size + 1 + 1) 88 #[.int .i64 0, .int .i64 0, .int .i64 0] := h.r1
  have h2 : BlkIs wr (w.heap.size + 1 + 1 + 1) 88 #[.int .i64 0, .int .i64 0, .int .i64 0] := h.r2
  have hb := h.below
  have g1 : w.heap.size ≤ w.heap.size + 1 + 1 := by omega
  have g2 : w.heap.size ≤ w.heap.size + 1 + 1 + 1 := by omega
  have g3 : w.heap.size + 1 + 1 ≠ w.heap.size + 1 + 1 + 1 := by omega
  rw [← hW]
  generalize w.heap.size + 1 + 1 + 1 = G at *
  generalize w.heap.size + 1 + 1 = H at *
  exact ⟨blk_drew (blk_far3 (blk_set3 h1 R) g3 S), blk_drew (blk_set3 (blk_far3 h2 g3.symm R) S), (below_set3 (below_set3 hb g1 R) g2 S).drew⟩

set_option maxRecDepth 100000 in
set_option maxHeartbeats 8000000 in
theorem rnearest_any (a b : Bx) (w : World) (ha : bxOk a = true) (hb : bxOk b = true) :
    Calls Tryz.prog 143 #[bxv a, bxv b] w fun e w' => e = .returned (.tuple #[ptv (nearP a b), ptv (nearQ a b)]) ∧ Below w.heap.size w w' := by
  have HBA := Lib.hid (fun k (hk : k < 3) => bxOk_iff ha k hk)
  have HBB := Lib.hid (fun k (hk : k < 3) => bxOk_iff hb k hk)
  have HA0 := Lib.hid (fun k W => rcoord_lo a k W)
  have HB0 := Lib.hid (fun k W => rcoord_lo b k W)
  have HC0 := Lib.hid (fun k W => rcoord_hi a k W)
  have HD0 := Lib.hid (fun k W => rcoord_hi b k W)
  have HPX := Lib.hid (fun k (hk : k < 3) => rnearP_ax a b hk)
  have HQX := Lib.hid (fun k (hk : k < 3) => rnearQ_ax a b hk)
  generalize hNP : nearP a b = NP at *
  generalize hNQ : nearQ a b = NQ at *
  have HWI := Lib.hid (fun R k n W => rwith_any R k n W)
  have hx2 := (((BlkIs.new1 (w.alloc (.cells (bxCellsA a) 134)) (.cells (bxCellsA b) 134) #[.int .i64 0, .int .i64 0, .int .i64 0] 88).alloc (.cells #[.int .i64 0, .int .i64 0, .int .i64 0] 88)).alloc (.cells #[.int .i64 0, .int .i64 0, .int .i64 0] 88)).alloc (.cells #[.int .i64 0, .int .i64 0, .int .i64 0] 88)
  have hx3 := ((BlkIs.new1 ((w.alloc (.cells (bxCellsA a) 134)).alloc (.cells (bxCellsA b) 134)) (.cells #[.int .i64 0, .int .i64 0, .int .i64 0] 88) #[.int .i64 0, .int .i64 0, .int .i64 0] 88).alloc (.cells #[.int .i64 0, .int .i64 0, .int .i64 0] 88)).alloc (.cells #[.int .i64 0, .int .i64 0, .int .i64 0] 88)
  have hx4 := (BlkIs.new1 (((w.alloc (.cells (bxCellsA a) 134)).alloc (.cells (bxCellsA b) 134)).alloc (.cells #[.int .i64 0, .int .i64 0, .int .i64 0] 88)) (.cells #[.int .i64 0, .int .i64 0, .int .i64 0] 88) #[.int .i64 0, .int .i64 0, .int .i64 0] 88).alloc (.cells #[.int .i64 0, .int .i64 0, .int .i64 0] 88)
  have hx5 := (BlkIs.new1 ((((w.alloc (.cells (bxCellsA a) 134)).alloc (.cells (bxCellsA b) 134)).alloc (.cells #[.int .i64 0, .int .i64 0, .int .i64 0] 88)).alloc (.cells #[.int .i64 0, .int .i64 0, .int .i64 0] 88)) (.cells #[.int .i64 0, .int .i64 0, .int .i64 0] 88) #[.int .i64 0, .int .i64 0, .int .i64 0] 88)
  simp only [World.size_alloc] at hx2 hx3 hx4 hx5
  have HW0 : Hid (NrW w a b (ptTo NP 0) (ptTo NQ 0) ((((((w.alloc (.cells (bxCellsA a) 134)).alloc (.cells (bxCellsA b) 134)).alloc (.cells #[.int .i64 0, .int .i64 0, .int .i64 0] 88)).alloc (.cells #[.int .i64 0, .int .i64 0, .int .i64 0] 88)).alloc (.cells #[.int .i64 0, .int .i64 0, .int .i64 0] 88)).alloc (.cells #[.int .i64 0, .int .i64 0, .int .i64 0] 88))) :=
    ⟨by go_grown, (((((BlkIs.new w (bxCellsA a) 134).alloc _).alloc _).alloc _).alloc _).alloc _, ((((BlkIs.new1 w (.cells (bxCellsA a) 134) (bxCellsA b) 134).alloc _).alloc _).alloc _).alloc _, hx2, hx3, hx4, hx5⟩
  clear hx2 hx3 hx4 hx5 ha hb
  go_enter Tryz.func143, Tryz.ntmps143
  go_wp2_with fail
  go_loopw [8] (fun i wr => ∃ k : Nat, k ≤ 3 ∧ i = .int .i64 (k : Int) ∧ NrW w a b (ptTo NP k) (ptTo NQ k) wr) (fun i _ => 3 - (intOf i).toNat)
  case atStart => exact ⟨0, by omega, rfl, HW0.out⟩
  case round =>
    clear HW0
    obtain ⟨k, hk, rfl, hW⟩ := hrel
    have HW := Lib.hid hW
    clear hW
    by_cases hk2 : k < 3
    · obtain ⟨ga, _, _⟩ := HBA.out k hk2
      obtain ⟨gb, _, _⟩ := HBB.out k hk2
      have HA := Lib.hid (HA0.out k)
      have HB := Lib.hid (HB0.out k)
      have HC := Lib.hid (HC0.out k)
      have HD := Lib.hid (HD0.out k)
      have HPK := Lib.hid (HPX.out k hk2)
      have HQK := Lib.hid (HQX.out k hk2)
      have HPS := Lib.hid (ptTo_step NP hk2)
      have HQS := Lib.hid (ptTo_step NQ hk2)
      have HWP := Lib.hid (fun n W => HWI.out (ptTo NP k) k n W)
      have HWQ := Lib.hid (fun n W => HWI.out (ptTo NQ k) k n W)
      clear HA0 HB0 HC0 HD0 HPX HQX HWI HBA HBB
      generalize ax a.lo k = al at *
      generalize ax a.hi k = ah at *
      generalize ax b.lo k = bl at *
      generalize ax b.hi k = bh at *
      generalize hP1 : ptTo NP (k + 1) = P1 at *
      generalize hQ1 : ptTo NQ (k + 1) = Q1 at *
      have HP1 := Lib.hid hP1
      have HQ1 := Lib.hid hQ1
      clear hP1 hQ1
      generalize ptTo NP k = P at *
      generalize ptTo NQ k = Q at *
      generalize ax NP k = X at *
      generalize ax NQ k = Y at *
      by_cases hm : al < bl
      · by_cases h1 : ah < bl
        · have h2 : ¬ bh < al := by omega
          have dm : decide (al < bl) = true := dec_yes hm
          have d1 : decide (ah < bl) = true := dec_yes h1
          have d2 : decide (bh < al) = false := dec_no h2
          have hX : X = ah := by rw [HPK.out]; simp [npA, mx, h1, h2, hm]
          have hY : Y = bl := by rw [HQK.out]; simp [npB, mx, h1, h2, hm]
          rw [hX] at HPS
          rw [hY] at HQS
          clear hX hY HPK HQK
          obtain ⟨c0, c1, c2, c3, c4, c5, e0, e1, e2, e3, e4, e5⟩ := HW.out.regs
          go_wp2_with fail
          refine wp_region_quiet_below (by kernel_rfl) (by kernel_rfl) ?_
          repeat (go_big_quiet_step ((first
            | (go_at_call 181; with_reducible exact Calls.regrown_of (HA.out _))
            | (go_at_call 181; with_reducible exact Calls.regrown_of (HB.out _)))))
          refine wpQuiet_nil ?_
          intro _ hw'
          obtain ⟨⟨nq, osq⟩, hw''⟩ := hw'
          subst hw''
          have HW1 := Lib.hid (HW.out.after (below_regrown wr nq osq))
          generalize Go.Sort.grow (redrawn wr nq) osq = W1 at *
          clear c0 c1 c2 c3 c4 c5 e0 e1 e2 e3 e4 e5
          obtain ⟨c0, c1, c2, c3, c4, c5, e0, e1, e2, e3, e4, e5⟩ := HW1.out.regs
          go_wp2_with fail
          refine wp_region_quiet_below (by kernel_rfl) (by kernel_rfl) ?_
          repeat (go_big_quiet_step ((first
            | (go_at_call 181; with_reducible exact Calls.regrown_of (HC.out _))
            | (go_at_call 181; with_reducible exact Calls.regrown_of (HB.out _)))))
          refine wpQuiet_nil ?_
          intro _ hw'
          obtain ⟨⟨nq, osq⟩, hw''⟩ := hw'
          subst hw''
          have HW2 := Lib.hid (HW1.out.after (below_regrown W1 nq osq))
          generalize Go.Sort.grow (redrawn W1 nq) osq = W2 at *
          clear c0 c1 c2 c3 c4 c5 e0 e1 e2 e3 e4 e5
          obtain ⟨c0, c1, c2, c3, c4, c5, e0, e1, e2, e3, e4, e5⟩ := HW2.out.cells
          go_wp2_with fail
          refine (HC.out _).mono ?_
          rintro e W3 ⟨rfl, hb9⟩
          have HW3 := Lib.hid (HW2.out.after hb9)
          clear hb9 c0 c1 c2 c3 c4 c5 e0 e1 e2 e3 e4 e5
          obtain ⟨c0, c1, c2, c3, c4, c5, e0, e1, e2, e3, e4, e5⟩ := HW3.out.cells
          go_wp2_with fail
          refine (HB.out _).mono ?_
          rintro e W4 ⟨rfl, hb9⟩
          have HW4 := Lib.hid (HW3.out.after hb9)
          clear hb9 c0 c1 c2 c3 c4 c5 e0 e1 e2 e3 e4 e5
          obtain ⟨c0, c1, c2, c3, c4, c5, e0, e1, e2, e3, e4, e5⟩ := HW4.out.regs
          go_wp2_with fail
          refine wp_region_quiet_below (by kernel_rfl) (by kernel_rfl) ?_
          repeat (go_big_quiet_step ((first
            | (go_at_call 181; with_reducible exact Calls.regrown_of (HD.out _))
            | (go_at_call 181; with_reducible exact Calls.regrown_of (HA.out _)))))
          refine wpQuiet_nil ?_
          intro _ hw'
          obtain ⟨⟨nq, osq⟩, hw''⟩ := hw'
          subst hw''
          have HW5 := Lib.hid (HW4.out.after (below_regrown W4 nq osq))
          generalize Go.Sort.grow (redrawn W4 nq) osq = W5 at *
          clear c0 c1 c2 c3 c4 c5 e0 e1 e2 e3 e4 e5
          have p0 := HW5.out.bp.cell 0
          have p1 := HW5.out.bp.cell 1
          have p2 := HW5.out.bp.cell 2
          go_wp2_with fail
          refine (HWP.out _ _).mono ?_
          rintro e w20 ⟨rfl, hb9⟩
          rw [HPS.out]
          have H20 := Lib.hid (HW5.out.after hb9)
          clear hb9 p0 p1 p2
          have p0 := H20.out.bp.cell 0
          have p1 := H20.out.bp.cell 1
          have p2 := H20.out.bp.cell 2
          have pf := H20.out.bp.free
          have pz := H20.out.bp.lt
          have H21 := Lib.hid (H20.out.setP P1)
          have q0 := H21.out.bq.cell 0
          have q1 := H21.out.bq.cell 1
          have q2 := H21.out.bq.cell 2
          go_wp2_with fail
          refine (HWQ.out _ _).mono ?_
          rintro e w22 ⟨rfl, hb9⟩
          rw [HQS.out]
          have H22 := Lib.hid (H21.out.after hb9)
          clear hb9 p0 p1 p2 pf pz q0 q1 q2
          have q0 := H22.out.bq.cell 0
          have q1 := H22.out.bq.cell 1
          have q2 := H22.out.bq.cell 2
          have qf := H22.out.bq.free
          have qz := H22.out.bq.lt
          have H23 := Lib.hid (H22.out.setQ Q1)
          go_wp2_with fail
          go_roundw
          case rel => exact ⟨k + 1, by omega, by go_num, by rw [HP1.out, HQ1.out]; exact H23.out⟩
          case measure => simp [intOf]; omega
        · have h2 : ¬ bh < al := by omega
          have dm : decide (al < bl) = true := dec_yes hm
          have d1 : decide (ah < bl) = false := dec_no h1
          have d2 : decide (bh < al) = false := dec_no h2
          have hX : X = bl := by rw [HPK.out]; simp [npA, mx, h1, h2, hm]
          have hY : Y = bl := by rw [HQK.out]; simp [npB, mx, h1, h2, hm]
          rw [hX] at HPS
          rw [hY] at HQS
          clear hX hY HPK HQK
          obtain ⟨c0, c1, c2, c3, c4, c5, e0, e1, e2, e3, e4, e5⟩ := HW.out.regs
          go_wp2_with fail
          refine wp_region_quiet_below (by kernel_rfl) (by kernel_rfl) ?_
          repeat (go_big_quiet_step ((first
            | (go_at_call 181; with_reducible exact Calls.regrown_of (HA.out _))
            | (go_at_call 181; with_reducible exact Calls.regrown_of (HB.out _)))))
          refine wpQuiet_nil ?_
          intro _ hw'
          obtain ⟨⟨nq, osq⟩, hw''⟩ := hw'
          subst hw''
          have HW1 := Lib.hid (HW.out.after (below_regrown wr nq osq))
          generalize Go.Sort.grow (redrawn wr nq) osq = W1 at *
          clear c0 c1 c2 c3 c4 c5 e0 e1 e2 e3 e4 e5
          obtain ⟨c0, c1, c2, c3, c4, c5, e0, e1, e2, e3, e4, e5⟩ := HW1.out.regs
          go_wp2_with fail
          refine wp_region_quiet_below (by kernel_rfl) (by kernel_rfl) ?_
          repeat (go_big_quiet_step ((first
            | (go_at_call 181; with_reducible exact Calls.regrown_of (HC.out _))
            | (go_at_call 181; with_reducible exact Calls.regrown_of (HB.out _)))))
          refine wpQuiet_nil ?_
          intro _ hw'
          obtain ⟨⟨nq, osq⟩, hw''⟩ := hw'
          subst hw''
          have HW2 := Lib.hid (HW1.out.after (below_regrown W1 nq osq))
          generalize Go.Sort.grow (redrawn W1 nq) osq = W2 at *
          clear c0 c1 c2 c3 c4 c5 e0 e1 e2 e3 e4 e5
          obtain ⟨c0, c1, c2, c3, c4, c5, e0, e1, e2, e3, e4, e5⟩ := HW2.out.regs
          go_wp2_with fail
          refine wp_region_quiet_below (by kernel_rfl) (by kernel_rfl) ?_
          repeat (go_big_quiet_step ((first
            | (go_at_call 181; with_reducible exact Calls.regrown_of (HD.out _))
            | (go_at_call 181; with_reducible exact Calls.regrown_of (HA.out _)))))
          refine wpQuiet_nil ?_
          intro _ hw'
          obtain ⟨⟨nq, osq⟩, hw''⟩ := hw'
          subst hw''
          have HW5 := Lib.hid (HW2.out.after (below_regrown W2 nq osq))
          generalize Go.Sort.grow (redrawn W2 nq) osq = W5 at *
          clear c0 c1 c2 c3 c4 c5 e0 e1 e2 e3 e4 e5
          have p0 := HW5.out.bp.cell 0
          have p1 := HW5.out.bp.cell 1
          have p2 := HW5.out.bp.cell 2
          go_wp2_with fail
          refine (HWP.out _ _).mono ?_
          rintro e w20 ⟨rfl, hb9⟩
          rw [HPS.out]
          have H20 := Lib.hid (HW5.out.after hb9)
          clear hb9 p0 p1 p2
          have p0 := H20.out.bp.cell 0
          have p1 := H20.out.bp.cell 1
          have p2 := H20.out.bp.cell 2
          have pf := H20.out.bp.free
          have pz := H20.out.bp.lt
          have H21 := Lib.hid (H20.out.setP P1)
          have q0 := H21.out.bq.cell 0
          have q1 := H21.out.bq.cell 1
          have q2 := H21.out.bq.cell 2
          go_wp2_with fail
          refine (HWQ.out _ _).mono ?_
          rintro e w22 ⟨rfl, hb9⟩
          rw [HQS.out]
          have H22 := Lib.hid (H21.out.after hb9)
          clear hb9 p0 p1 p2 pf pz q0 q1 q2
          have q0 := H22.out.bq.cell 0
          have q1 := H22.out.bq.cell 1
          have q2 := H22.out.bq.cell 2
          have qf := H22.out.bq.free
          have qz := H22.out.bq.lt
          have H23 := Lib.hid (H22.out.setQ Q1)
          go_wp2_with fail
          go_roundw
          case rel => exact ⟨k + 1, by omega, by go_num, by rw [HP1.out, HQ1.out]; exact H23.out⟩
          case measure => simp [intOf]; omega
      · have h1 : ¬ ah < bl := by omega
        by_cases h2 : bh < al
        · skip
          have dm : decide (al < bl) = false := dec_no hm
          have d1 : decide (ah < bl) = false := dec_no h1
          have d2 : decide (bh < al) = true := dec_yes h2
          have hX : X = al := by rw [HPK.out]; simp [npA, mx, h1, h2, hm]
          have hY : Y = bh := by rw [HQK.out]; simp [npB, mx, h1, h2, hm]
          rw [hX] at HPS
          rw [hY] at HQS
          clear hX hY HPK HQK
          obtain ⟨c0, c1, c2, c3, c4, c5, e0, e1, e2, e3, e4, e5⟩ := HW.out.regs
          go_wp2_with fail
          refine wp_region_quiet_below (by kernel_rfl) (by kernel_rfl) ?_
          repeat (go_big_quiet_step ((first
            | (go_at_call 181; with_reducible exact Calls.regrown_of (HA.out _))
            | (go_at_call 181; with_reducible exact Calls.regrown_of (HB.out _)))))
          refine wpQuiet_nil ?_
          intro _ hw'
          obtain ⟨⟨nq, osq⟩, hw''⟩ := hw'
          subst hw''
          have HW1 := Lib.hid (HW.out.after (below_regrown wr nq osq))
          generalize Go.Sort.grow (redrawn wr nq) osq = W1 at *
          clear c0 c1 c2 c3 c4 c5 e0 e1 e2 e3 e4 e5
          obtain ⟨c0, c1, c2, c3, c4, c5, e0, e1, e2, e3, e4, e5⟩ := HW1.out.regs
          go_wp2_with fail
          refine wp_region_quiet_below (by kernel_rfl) (by kernel_rfl) ?_
          repeat (go_big_quiet_step ((first
            | (go_at_call 181; with_reducible exact Calls.regrown_of (HC.out _))
            | (go_at_call 181; with_reducible exact Calls.regrown_of (HB.out _)))))
          refine wpQuiet_nil ?_
          intro _ hw'
          obtain ⟨⟨nq, osq⟩, hw''⟩ := hw'
          subst hw''
          have HW2 := Lib.hid (HW1.out.after (below_regrown W1 nq osq))
          generalize Go.Sort.grow (redrawn W1 nq) osq = W2 at *
          clear c0 c1 c2 c3 c4 c5 e0 e1 e2 e3 e4 e5
          obtain ⟨c0, c1, c2, c3, c4, c5, e0, e1, e2, e3, e4, e5⟩ := HW2.out.regs
          go_wp2_with fail
          refine wp_region_quiet_below (by kernel_rfl) (by kernel_rfl) ?_
          repeat (go_big_quiet_step ((first
            | (go_at_call 181; with_reducible exact Calls.regrown_of (HD.out _))
            | (go_at_call 181; with_reducible exact Calls.regrown_of (HA.out _)))))
          refine wpQuiet_nil ?_
          intro _ hw'
          obtain ⟨⟨nq, osq⟩, hw''⟩ := hw'
          subst hw''
          have HW5 := Lib.hid (HW2.out.after (below_regrown W2 nq osq))
          generalize Go.Sort.grow (redrawn W2 nq) osq = W5 at *
          clear c0 c1 c2 c3 c4 c5 e0 e1 e2 e3 e4 e5
          obtain ⟨c0, c1, c2, c3, c4, c5, e0, e1, e2, e3, e4, e5⟩ := HW5.out.cells
          go_wp2_with fail
          refine (HA.out _).mono ?_
          rintro e W6 ⟨rfl, hb9⟩
          have HW6 := Lib.hid (HW5.out.after hb9)
          clear hb9 c0 c1 c2 c3 c4 c5 e0 e1 e2 e3 e4 e5
          obtain ⟨c0, c1, c2, c3, c4, c5, e0, e1, e2, e3, e4, e5⟩ := HW6.out.cells
          go_wp2_with fail
          refine (HD.out _).mono ?_
          rintro e W7 ⟨rfl, hb9⟩
          have HW7 := Lib.hid (HW6.out.after hb9)
          clear hb9 c0 c1 c2 c3 c4 c5 e0 e1 e2 e3 e4 e5
          have p0 := HW7.out.bp.cell 0
          have p1 := HW7.out.bp.cell 1
          have p2 := HW7.out.bp.cell 2
          go_wp2_with fail
          refine (HWP.out _ _).mono ?_
          rintro e w20 ⟨rfl, hb9⟩
          rw [HPS.out]
          have H20 := Lib.hid (HW7.out.after hb9)
          clear hb9 p0 p1 p2
          have p0 := H20.out.bp.cell 0
          have p1 := H20.out.bp.cell 1
          have p2 := H20.out.bp.cell 2
          have pf := H20.out.bp.free
          have pz := H20.out.bp.lt
          have H21 := Lib.hid (H20.out.setP P1)
          have q0 := H21.out.bq.cell 0
          have q1 := H21.out.bq.cell 1
          have q2 := H21.out.bq.cell 2
          go_wp2_with fail
          refine (HWQ.out _ _).mono ?_
          rintro e w22 ⟨rfl, hb9⟩
          rw [HQS.out]
          have H22 := Lib.hid (H21.out.after hb9)
          clear hb9 p0 p1 p2 pf pz q0 q1 q2
          have q0 := H22.out.bq.cell 0
          have q1 := H22.out.bq.cell 1
          have q2 := H22.out.bq.cell 2
          have qf := H22.out.bq.free
          have qz := H22.out.bq.lt
          have H23 := Lib.hid (H22.out.setQ Q1)
          go_wp2_with fail
          go_roundw
          case rel => exact ⟨k + 1, by omega, by go_num, by rw [HP1.out, HQ1.out]; exact H23.out⟩
          case measure => simp [intOf]; omega
        · skip
          have dm : decide (al < bl) = false := dec_no hm
          have d1 : decide (ah < bl) = false := dec_no h1
          have d2 : decide (bh < al) = false := dec_no h2
          have hX : X = al := by rw [HPK.out]; simp [npA, mx, h1, h2, hm]
          have hY : Y = al := by rw [HQK.out]; simp [npB, mx, h1, h2, hm]
          rw [hX] at HPS
          rw [hY] at HQS
          clear hX hY HPK HQK
          obtain ⟨c0, c1, c2, c3, c4, c5, e0, e1, e2, e3, e4, e5⟩ := HW.out.regs
          go_wp2_with fail
          refine wp_region_quiet_below (by kernel_rfl) (by kernel_rfl) ?_
          repeat (go_big_quiet_step ((first
            | (go_at_call 181; with_reducible exact Calls.regrown_of (HA.out _))
            | (go_at_call 181; with_reducible exact Calls.regrown_of (HB.out _)))))
          refine wpQuiet_nil ?_
          intro _ hw'
          obtain ⟨⟨nq, osq⟩, hw''⟩ := hw'
          subst hw''
          have HW1 := Lib.hid (HW.out.after (below_regrown wr nq osq))
          generalize Go.Sort.grow (redrawn wr nq) osq = W1 at *
          clear c0 c1 c2 c3 c4 c5 e0 e1 e2 e3 e4 e5
          obtain ⟨c0, c1, c2, c3, c4, c5, e0, e1, e2, e3, e4, e5⟩ := HW1.out.regs
          go_wp2_with fail
          refine wp_region_quiet_below (by kernel_rfl) (by kernel_rfl) ?_
          repeat (go_big_quiet_step ((first
            | (go_at_call 181; with_reducible exact Calls.regrown_of (HC.out _))
            | (go_at_call 181; with_reducible exact Calls.regrown_of (HB.out _)))))
          refine wpQuiet_nil ?_
          intro _ hw'
          obtain ⟨⟨nq, osq⟩, hw''⟩ := hw'
          subst hw''
          have HW2 := Lib.hid (HW1.out.after (below_regrown W1 nq osq))
          generalize Go.Sort.grow (redrawn W1 nq) osq = W2 at *
          clear c0 c1 c2 c3 c4 c5 e0 e1 e2 e3 e4 e5
          obtain ⟨c0, c1, c2, c3, c4, c5, e0, e1, e2, e3, e4, e5⟩ := HW2.out.regs
          go_wp2_with fail
          refine wp_region_quiet_below (by kernel_rfl) (by kernel_rfl) ?_
          repeat (go_big_quiet_step ((first
            | (go_at_call 181; with_reducible exact Calls.regrown_of (HD.out _))
            | (go_at_call 181; with_reducible exact Calls.regrown_of (HA.out _)))))
          refine wpQuiet_nil ?_
          intro _ hw'
          obtain ⟨⟨nq, osq⟩, hw''⟩ := hw'
          subst hw''
          have HW5 := Lib.hid (HW2.out.after (below_regrown W2 nq osq))
          generalize Go.Sort.grow (redrawn W2 nq) osq = W5 at *
          clear c0 c1 c2 c3 c4 c5 e0 e1 e2 e3 e4 e5
          have p0 := HW5.out.bp.cell 0
          have p1 := HW5.out.bp.cell 1
          have p2 := HW5.out.bp.cell 2
          go_wp2_with fail
          refine (HWP.out _ _).mono ?_
          rintro e w20 ⟨rfl, hb9⟩
          rw [HPS.out]
          have H20 := Lib.hid (HW5.out.after hb9)
          clear hb9 p0 p1 p2
          have p0 := H20.out.bp.cell 0
          have p1 := H20.out.bp.cell 1
          have p2 := H20.out.bp.cell 2
          have pf := H20.out.bp.free
          have pz := H20.out.bp.lt
          have H21 := Lib.hid (H20.out.setP P1)
          have q0 := H21.out.bq.cell 0
          have q1 := H21.out.bq.cell 1
          have q2 := H21.out.bq.cell 2
          go_wp2_with fail
          refine (HWQ.out _ _).mono ?_
          rintro e w22 ⟨rfl, hb9⟩
          rw [HQS.out]
          have H22 := Lib.hid (H21.out.after hb9)
          clear hb9 p0 p1 p2 pf pz q0 q1 q2
          have q0 := H22.out.bq.cell 0
          have q1 := H22.out.bq.cell 1
          have q2 := H22.out.bq.cell 2
          have qf := H22.out.bq.free
          have qz := H22.out.bq.lt
          have H23 := Lib.hid (H22.out.setQ Q1)
          go_wp2_with fail
          go_roundw
          case rel => exact ⟨k + 1, by omega, by go_num, by rw [HP1.out, HQ1.out]; exact H23.out⟩
          case measure => simp [intOf]; omega
    · obtain rfl : k = 3 := by omega
      rw [ptTo_three, ptTo_three] at HW
      have p0 := HW.out.bp.cell 0
      have p1 := HW.out.bp.cell 1
      have p2 := HW.out.bp.cell 2
      have q0 := HW.out.bq.cell 0
      have q1 := HW.out.bq.cell 1
      have q2 := HW.out.bq.cell 2
      have r0 := HW.out.r1.cell 0
      have r1 := HW.out.r1.cell 1
      have r2 := HW.out.r1.cell 2
      have rf := HW.out.r1.free
      have s0 := HW.out.r2.cell 0
      have s1 := HW.out.r2.cell 1
      have s2 := HW.out.r2.cell 2
      have sf := HW.out.r2.free
      clear HA0 HB0 HC0 HD0 HPX HQX HWI HBA HBB hNP hNQ
      go_wp2_with fail
      go_region
      all_goals
        obtain ⟨W9, hW9⟩ : ∃ W, ((((((wr.setCell ⟨w.heap.size + 1 + 1, 0, none⟩ (.int .i64 NP.x)).setCell ⟨w.heap.size + 1 + 1, 1, none⟩ (.int .i64 NP.y)).setCell ⟨w.heap.size + 1 + 1, 2, none⟩ (.int .i64 NP.z)).setCell ⟨w.heap.size + 1 + 1 + 1, 0, none⟩ (.int .i64 NQ.x)).setCell ⟨w.heap.size + 1 + 1 + 1, 1, none⟩ (.int .i64 NQ.y)).setCell ⟨w.heap.size + 1 + 1 + 1, 2, none⟩ (.int .i64 NQ.z)).drew = W := ⟨_, rfl⟩
        rw [hW9]
        obtain ⟨hx4, hx5, hbz⟩ := HW.out.outs NP NQ hW9
        have HBZ := Lib.hid hbz
        clear hbz
        clear hW9 p0 p1 p2 q0 q1 q2 r0 r1 r2 rf s0 s1 s2 sf
        have e0 : W9.cell? ⟨w.heap.size + 1 + 1, 0, none⟩ = some (.int .i64 NP.x) := hx4.cell 0
        have e1 : W9.cell? ⟨w.heap.size + 1 + 1, 1, none⟩ = some (.int .i64 NP.y) := hx4.cell 1
        have e2 : W9.cell? ⟨w.heap.size + 1 + 1, 2, none⟩ = some (.int .i64 NP.z) := hx4.cell 2
        have g0 : W9.cell? ⟨w.heap.size + 1 + 1 + 1, 0, none⟩ = some (.int .i64 NQ.x) := hx5.cell 0
        have g1 : W9.cell? ⟨w.heap.size + 1 + 1 + 1, 1, none⟩ = some (.int .i64 NQ.y) := hx5.cell 1
        have g2 : W9.cell? ⟨w.heap.size + 1 + 1 + 1, 2, none⟩ = some (.int .i64 NQ.z) := hx5.cell 2
        have e0' : W9.cell? ⟨w.heap.size + 2, 0, none⟩ = some (.int .i64 NP.x) := hx4.cell 0
        have e1' : W9.cell? ⟨w.heap.size + 2, 1, none⟩ = some (.int .i64 NP.y) := hx4.cell 1
        have e2' : W9.cell? ⟨w.heap.size + 2, 2, none⟩ = some (.int .i64 NP.z) := hx4.cell 2
        have g0' : W9.cell? ⟨w.heap.size + 3, 0, none⟩ = some (.int .i64 NQ.x) := hx5.cell 0
        have g1' : W9.cell? ⟨w.heap.size + 3, 1, none⟩ = some (.int .i64 NQ.y) := hx5.cell 1
        have g2' : W9.cell? ⟨w.heap.size + 3, 2, none⟩ = some (.int .i64 NQ.z) := hx5.cell 2
        clear hx4 hx5
        go_wp2
        exact bodyPost_ret (v := .tuple #[ptv NP, ptv NQ]) (by simp [results, Tryz.results143, go_sem, e0, e1, e2, g0, g1, g2, e0', e1', e2', g0', g1', g2']) rfl ⟨rfl, HBZ.out⟩
end
end
section
section
open Go.RowKit
set_option linter.unusedVariables false
set_option linter.unusedSimpArgs false
attribute [local go_sem ↓] Go.wp_at_zero Go.wp_at_succ

set_option maxRecDepth 100000 in
set_option maxHeartbeats 2000000 in
theorem rsquare_any (a b : Bx) (w : World) (ha : bxOk a = true) (hb : bxOk b = true) :
    Calls Tryz.prog 180 #[bxv a, bxv b] w fun e w' => e = .returned (.int .i64 (sqN a b 3)) ∧ Below w.heap.size w w' := by
  have HAL := Lib.hid (fun k (hk : k < 3) W => ralong_any a b k W hk ha hb)
  have HGB := Lib.hid (fun k (hk : k < 3) => gq_bd ha hb hk)
  have HSB := Lib.hid (sqN_bd ha hb)
  have HGE : Hid (∀ k, gq a b k = if 0 < gp a b k then gp a b k else 0) := fun _ => rfl
  have HSN : Hid (∀ k, sqN a b (k + 1) = sqN a b k + gq a b k * gq a b k) := fun _ => rfl
  have HW2 : Hid (SqW w a b ((w.alloc (.cells (bxCellsA a) 134)).alloc (.cells (bxCellsA b) 134))) := ⟨by go_grown, (BlkIs.new w _ _).alloc _, BlkIs.new1 w _ _ _⟩
  clear ha hb
  go_enter Tryz.func180, Tryz.ntmps180
  go_wp2_with fail
  go_loopw [5, 6] (fun t i wr => ∃ k : Nat, k ≤ 3 ∧ i = .int .i64 (k : Int) ∧ t = .int .i64 (sqN a b k) ∧ SqW w a b wr) (fun _ i _ => 3 - (intOf i).toNat)
  case atStart => exact ⟨0, by omega, rfl, rfl, HW2.out⟩
  case round =>
    clear HW2
    obtain ⟨k, hk, rfl, rfl, hW⟩ := hrel
    have HW := Lib.hid hW
    clear hW
    by_cases hk2 : k < 3
    · have a0 := HW.out.ba.cell 0
      have a1 := HW.out.ba.cell 1
      have a2 := HW.out.ba.cell 2
      have a3 := HW.out.ba.cell 3
      have a4 := HW.out.ba.cell 4
      have a5 := HW.out.ba.cell 5
      have c0 := HW.out.bb.cell 0
      have c1 := HW.out.bb.cell 1
      have c2 := HW.out.bb.cell 2
      have c3 := HW.out.bb.cell 3
      have c4 := HW.out.bb.cell 4
      have c5 := HW.out.bb.cell 5
      have HALK := Lib.hid (HAL.out k hk2)
      obtain ⟨g0, g1⟩ := HGB.out k hk2
      obtain ⟨s0, s1⟩ := HSB.out k hk
      have HN := Lib.hid (HSN.out k)
      have HE := Lib.hid (HGE.out k)
      go_wp2_with fail
      refine (HALK.out _).mono ?_
      rintro e w3 ⟨rfl, hb3⟩
      have HW3 := Lib.hid (HW.out.after hb3)
      clear hb3 a0 a1 a2 a3 a4 a5 c0 c1 c2 c3 c4 c5 HALK HAL HGB HSB HSN HGE
      have hgq := HE.out
      generalize gp a b k = g at *
      generalize gq a b k = n at *
      generalize sqN a b k = s at *
      obtain ⟨q0, q1⟩ := sq_bd g0 g1
      by_cases hg : 0 < g
      · have hn : n = g := by rw [hgq, if_pos hg]
        subst hn
        clear hgq HE
        generalize hsq : n * n = m at *
        go_wp2_with fail
        go_roundw
        case rel => exact ⟨k + 1, by omega, by go_num, by rw [HN.out], HW3.out⟩
        case measure => simp [intOf]; omega
      · have hn : n = 0 := by rw [hgq, if_neg hg]
        subst hn
        clear hgq HE
        go_wp2_with fail
        go_roundw
        case rel => exact ⟨k + 1, by omega, by go_num, by rw [HN.out]; exact val_int (by omega), HW3.out⟩
        case measure => simp [intOf]; omega
    · obtain rfl : k = 3 := by omega
      go_wp2
      go_ret
      exact ⟨rfl, HW.out.below⟩

end
end
end Go.Proofs.YtamogedpgkofjaaGreat
