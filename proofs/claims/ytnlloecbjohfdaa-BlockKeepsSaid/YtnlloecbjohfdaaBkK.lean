/-
  A map from numbers to points that the call itself fills; boxes moved back.
-/
import Derived.Test.YtnlloecbjohfdaaBkR
import Derived.MapKept
namespace Go.Proofs.Ytnlloecbjohfdaa
open Go.RowKit
set_option linter.unusedVariables false
set_option linter.unusedSimpArgs false
attribute [local go_sem ↓] Go.wp_at_zero Go.wp_at_succ

theorem run_ins (W : World) (b : Nat) (es : Array MapEntry) (c : Nat) (k : Int) (v : Value) (hb : W.heap[b]? = some (.map es c)) (hno : Instr.findNow (.int .i64) (.int .i64 k) es.toList 0 = some none) :
    (Instr.mapUpdate 37 (.map (some b)) (.int .i64 k) v).run Try.prog W = .ok () { W with heap := W.heap.setIfInBounds b (.map (es.push ⟨.int .i64 k, v, c⟩) (c + 1)) } := by
  unfold Instr.mapUpdate
  simp only [Sem.run_bind, run_underlying Try.underlying37, Result.andThen_ok, Go.MapKept.run_getObj_map hb, Go.MapKept.run_checkKey Try.underlying3 (k := .int .i64 k) rfl, Go.MapKept.run_findKey Try.underlying3 hno, Go.MapKept.run_setObj_map _ hb]
theorem run_look (W : World) (b : Nat) (es : Array MapEntry) (c i : Nat) (k : Int) (v : Value) (hb : W.heap[b]? = some (.map es c)) (hno : Instr.findNow (.int .i64) (.int .i64 k) es.toList 0 = some (some (i, v))) :
    (Instr.lookup 37 (.map (some b)) (.int .i64 k) false).run Try.prog W = .ok v W := by
  unfold Instr.lookup
  simp [Sem.run_bind, run_underlying Try.underlying37, Result.andThen_ok, Go.MapKept.run_getObj_map hb, Go.MapKept.run_checkKey Try.underlying3 (k := .int .i64 k) rfl, Go.MapKept.run_findKey Try.underlying3 hno]
theorem ins_step (W : World) (b : Nat) (es : Array MapEntry) (c : Nat) (k : Int) (v : Value) (hb : W.heap[b]? = some (.map es c)) (hno : Instr.findNow (.int .i64) (.int .i64 k) es.toList 0 = some none) :
    ∃ W', (Instr.mapUpdate 37 (.map (some b)) (.int .i64 k) v).run Try.prog W = .ok () W' ∧ W'.heap[b]? = some (.map (es.push ⟨.int .i64 k, v, c⟩) (c + 1)) ∧ W.grownBy W' (some b) := by
  have hlt := (Array.getElem?_eq_some_iff.1 hb).1
  refine ⟨_, run_ins W b es c k v hb hno, by simp [hlt], ⟨rfl, rfl, rfl, by simp, fun i hi hne => ?_⟩⟩
  have : b ≠ i := fun e => hne (by rw [e])
  simp [Array.getElem?_setIfInBounds, this]
abbrev kpE (n : Int) : Array MapEntry := #[⟨.int .i64 1, ptv ⟨-n, 0, 0⟩, 0⟩, ⟨.int .i64 2, ptv ⟨0, -n, 0⟩, 1⟩, ⟨.int .i64 3, ptv ⟨0, 0, -n⟩, 2⟩, ⟨.int .i64 (-1), ptv ⟨n, 0, 0⟩, 3⟩, ⟨.int .i64 (-2), ptv ⟨0, n, 0⟩, 4⟩, ⟨.int .i64 (-3), ptv ⟨0, 0, n⟩, 5⟩]
theorem kp_look (W : World) (b c : Nat) (n x : Int) (hb : W.heap[b]? = some (.map (kpE n) c)) (hx : axB x = true) :
    (Instr.lookup 37 (.map (some b)) (.int .i64 x) false).run Try.prog W = .ok (ptv (backP x n)) W := by
  rcases ax_cases hx with rfl | rfl | rfl | rfl | rfl | rfl
  · exact run_look W b _ c 0 _ _ hb rfl
  · exact run_look W b _ c 1 _ _ hb rfl
  · exact run_look W b _ c 2 _ _ hb rfl
  · exact run_look W b _ c 3 _ _ hb rfl
  · exact run_look W b _ c 4 _ _ hb rfl
  · exact run_look W b _ c 5 _ _ hb rfl

/-! ### the box moved back: cells of the two blocks that it is made of -/
structure KpW (w : World) (g h : Nat) (q : Bx) (p : Pt) (W : World) : Prop where
  below : Below w.heap.size w W
  bq : BlkIs W g 39 (bxCellsA q)
  bp : BlkIs W h 35 #[.int .i64 p.x, .int .i64 p.y, .int .i64 p.z]
abbrev KpS (g h : Nat) (q : Bx) (p : Pt) (W : World) : Prop :=
  (W.cell? ⟨g, 0, none⟩ = some (.int .i64 q.lo.x) ∧ W.cell? ⟨g, 1, none⟩ = some (.int .i64 q.lo.y) ∧ W.cell? ⟨g, 2, none⟩ = some (.int .i64 q.lo.z) ∧ W.cell? ⟨g, 3, none⟩ = some (.int .i64 q.hi.x) ∧ W.cell? ⟨g, 4, none⟩ = some (.int .i64 q.hi.y) ∧ W.cell? ⟨g, 5, none⟩ = some (.int .i64 q.hi.z)) ∧
  W.cell? ⟨h, 0, none⟩ = some (.int .i64 p.x) ∧ W.cell? ⟨h, 1, none⟩ = some (.int .i64 p.y) ∧ W.cell? ⟨h, 2, none⟩ = some (.int .i64 p.z)
section
variable {w W W' : World} {g h : Nat} {q : Bx} {p : Pt}
theorem KpW.after (H : KpW w g h q p W) (hb : Below W.heap.size W W') : KpW w g h q p W' := ⟨bstep H.below hb, H.bq.below hb, H.bp.below hb⟩
theorem KpW.drew (H : KpW w g h q p W) : KpW w g h q p W.drew := H.after (Below.refl _ _).drew
theorem KpW.alloc (H : KpW w g h q p W) (o : Obj) : KpW w g h q p (W.alloc o) := H.after (below_new W o)
theorem KpW.s (H : KpW w g h q p W) : KpS g h q p W := ⟨⟨H.bq.cell 0, H.bq.cell 1, H.bq.cell 2, H.bq.cell 3, H.bq.cell 4, H.bq.cell 5⟩, H.bp.cell 0, H.bp.cell 1, H.bp.cell 2⟩
theorem KpW.set6 {f : Nat} (H : KpW w g h q p W) (h1 : g < f) (h2 : h < f) (h3 : w.heap.size ≤ f) (a b c d e u : Value) : KpW w g h q p (set6 W f a b c d e u) :=
  ⟨((((((H.below.setCell (p := ⟨f, 0, none⟩) h3 a).setCell (p := ⟨f, 1, none⟩) h3 b).setCell (p := ⟨f, 2, none⟩) h3 c).setCell (p := ⟨f, 3, none⟩) h3 d).setCell (p := ⟨f, 4, none⟩) h3 e).setCell (p := ⟨f, 5, none⟩) h3 u), blk_far6 H.bq (Nat.ne_of_lt h1) _ _ _ _ _ _, blk_far6 H.bp (Nat.ne_of_lt h2) _ _ _ _ _ _⟩
end
theorem back_bd (x : Int) {n : Int} (h0 : 0 ≤ n) (h1 : n ≤ 2097152) : (-2097152 ≤ (backP x n).x ∧ (backP x n).x ≤ 2097152) ∧ (-2097152 ≤ (backP x n).y ∧ (backP x n).y ≤ 2097152) ∧ (-2097152 ≤ (backP x n).z ∧ (backP x n).z ≤ 2097152) := by
  unfold backP
  (repeat' split) <;> simp only <;> refine ⟨⟨?_, ?_⟩, ⟨?_, ?_⟩, ?_, ?_⟩ <;> omega
/-- A bar that is not blocked is not too near. -/
theorem keeps_far {A B : List Bx} {x need : Int} (h : blkP A B x need = false) {a b : Bx} (ha : a ∈ A) (hb : b ∈ B) (hA : A.all bxOk = true) (hB : B.all bxOk = true) : tooNear need a b = false := by
  refine dec_no fun h4 => ?_
  have h1 := way_near (List.all_eq_true.1 hA a ha) (List.all_eq_true.1 hB b hb) x
  have := blk_iff.2 ⟨a, ha, b, hb, (by omega : 4 * sqN (wayB a x) b 3 < need)⟩
  rw [h] at this; cases this
theorem keeps_back {A B : List Bx} {x need n : Int} (h : blkP A B x need = false) (hx : axB x = true) (hn : 0 ≤ n) {a b : Bx} (ha : a ∈ A) (hb : b ∈ B) (hA : A.all bxOk = true) (hB : B.all bxOk = true) (hy : bxOk (shB (backP x n) a) = true) : tooNear need (shB (backP x n) a) b = false := by
  refine dec_no fun h4 => ?_
  have h1 := back_near (List.all_eq_true.1 hA a ha) (List.all_eq_true.1 hB b hb) hx hn hy
  have := blk_iff.2 ⟨a, ha, b, hb, (by omega : 4 * sqN (wayB a x) b 3 < need)⟩
  rw [h] at this; cases this
end Go.Proofs.Ytnlloecbjohfdaa
