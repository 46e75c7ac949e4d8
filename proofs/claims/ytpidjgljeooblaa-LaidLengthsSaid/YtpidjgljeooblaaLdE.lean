/-
  The image of a point under a turn.
-/
import Derived.Test.YtpidjgljeooblaaLdC
namespace Go.Proofs.Ytpidjgljeooblaa
open Go.RowKit
set_option linter.unusedVariables false
set_option linter.unusedSimpArgs false

/-- The image of a point: the columns times its coordinates. -/
def img (x y : Int) (p : Pt) : Pt :=
  ⟨(uv x).x * p.x + (uv y).x * p.y + (crossP (uv x) (uv y)).x * p.z, (uv x).y * p.x + (uv y).y * p.y + (crossP (uv x) (uv y)).y * p.z, (uv x).z * p.x + (uv y).z * p.y + (crossP (uv x) (uv y)).z * p.z⟩

theorem prod_bd {c x N : Int} (h : -2 ≤ c ∧ c ≤ 2) (hx : -N ≤ x) (hx2 : x ≤ N) : -(2 * N) ≤ c * x ∧ c * x ≤ 2 * N := by
  obtain ⟨h1, h2⟩ := h
  obtain rfl | rfl | rfl | rfl | rfl : c = -2 ∨ c = -1 ∨ c = 0 ∨ c = 1 ∨ c = 2 := by omega
  all_goals omega
theorem cross_bd {a b : Pt} (ha : PtIn 1 a) (hb : PtIn 1 b) : PtIn 2 (crossP a b) := by
  have key : ∀ x y : Int, -1 ≤ x → x ≤ 1 → -1 ≤ y → y ≤ 1 → -1 ≤ x * y ∧ x * y ≤ 1 := by
    intro x y h1 h2 h3 h4
    obtain rfl | rfl | rfl : x = -1 ∨ x = 0 ∨ x = 1 := by omega
    all_goals omega
  obtain ⟨a1, a2, a3, a4, a5, a6⟩ := ha
  obtain ⟨b1, b2, b3, b4, b5, b6⟩ := hb
  have c1 := key a.y b.z a3 a4 b5 b6
  have c2 := key a.z b.y a5 a6 b3 b4
  have c3 := key a.z b.x a5 a6 b1 b2
  have c4 := key a.x b.z a1 a2 b5 b6
  have d1 := key a.x b.y a1 a2 b3 b4
  have d2 := key a.y b.x a3 a4 b1 b2
  unfold crossP PtIn
  simp only
  omega

/-- What the loop has written after k rounds. -/
def imgCells (a b c : Pt) (p : Pt) (k : Nat) : Array Value :=
  #[.int .i64 (if 0 < k then a.x * p.x + b.x * p.y + c.x * p.z else 0), .int .i64 (if 1 < k then a.y * p.x + b.y * p.y + c.y * p.z else 0), .int .i64 (if 2 < k then a.z * p.x + b.z * p.y + c.z * p.z else 0)]

theorem img0 (a b c p : Pt) : imgCells a b c p 0 = #[.int .i64 0, .int .i64 0, .int .i64 0] := by simp [imgCells]
theorem img1 (a b c p : Pt) : imgCells a b c p 1 = #[.int .i64 (a.x * p.x + b.x * p.y + c.x * p.z), .int .i64 0, .int .i64 0] := by simp [imgCells]
theorem img2 (a b c p : Pt) : imgCells a b c p 2 = #[.int .i64 (a.x * p.x + b.x * p.y + c.x * p.z), .int .i64 (a.y * p.x + b.y * p.y + c.y * p.z), .int .i64 0] := by simp [imgCells]
theorem img3 (a b c p : Pt) : imgCells a b c p 3 = #[.int .i64 (a.x * p.x + b.x * p.y + c.x * p.z), .int .i64 (a.y * p.x + b.y * p.y + c.y * p.z), .int .i64 (a.z * p.x + b.z * p.y + c.z * p.z)] := by simp [imgCells]
/-- The world of the loop: the point's box, the columns' block, the block that is written. -/
structure ImgW (w : World) (G C V : Nat) (a b c p : Pt) (k : Nat) (wr : World) : Prop where
  below : Below w.heap.size w wr
  hG : w.heap.size ≤ G ∧ G ≠ V
  hC : C ≠ V
  hV : w.heap.size ≤ V
  pt : wr.heap[G]? = some (.cells #[.int .i64 p.x, .int .i64 p.y, .int .i64 p.z] 31 (0, 0))
  col : wr.heap[C]? = some (.cells #[.int .i64 a.x, .int .i64 a.y, .int .i64 a.z, .int .i64 b.x, .int .i64 b.y, .int .i64 b.z, .int .i64 c.x, .int .i64 c.y, .int .i64 c.z] 137 (0, 0))
  out : wr.heap[V]? = some (.cells (imgCells a b c p k) 128 (0, 0))
  hR : w.heap.size ≤ G + 1 ∧ G + 1 ≠ V
  res : wr.heap[G + 1]? = some (.cells #[.int .i64 0, .int .i64 0, .int .i64 0] 31 (0, 0))
theorem ImgW.store {w : World} {G C V : Nat} {a b c p : Pt} {k : Nat} {wr : World} (h : ImgW w G C V a b c p k wr) (u : Value) (hu : (imgCells a b c p k).setIfInBounds k u = imgCells a b c p (k + 1)) : ImgW w G C V a b c p (k + 1) (wr.drew.setCell ⟨V, k, none⟩ u) := by
  refine ⟨h.below.drew.grown (only_set wr.drew V k u) h.below.size (by intro j hj; cases hj; exact h.hV), h.hG, h.hC, h.hV, ?_, ?_, ?_, h.hR, ?_⟩
  · rw [heap_setCell_other _ _ _ _ h.hG.2]; exact h.pt
  · rw [heap_setCell_other _ _ _ _ h.hC]; exact h.col
  · have := heap_setCell_same wr.drew V k _ _ u h.out
    rw [hu] at this; exact this
  · rw [heap_setCell_other _ _ _ _ h.hR.2]; exact h.res
theorem ImgW.facts {w : World} {G C V : Nat} {a b c p : Pt} {k : Nat} {wr : World} (h : ImgW w G C V a b c p k wr) :
    (wr.cell? ⟨G, 0, none⟩ = some (.int .i64 p.x) ∧ wr.cell? ⟨G, 1, none⟩ = some (.int .i64 p.y) ∧ wr.cell? ⟨G, 2, none⟩ = some (.int .i64 p.z)) ∧
    (∀ i : Nat, wr.cell? ⟨C, i, none⟩ = (#[.int .i64 a.x, .int .i64 a.y, .int .i64 a.z, .int .i64 b.x, .int .i64 b.y, .int .i64 b.z, .int .i64 c.x, .int .i64 c.y, .int .i64 c.z] : Array Value)[i]?) ∧ (∀ i : Nat, wr.cell? ⟨V, i, none⟩ = (imgCells a b c p k)[i]?) ∧ (∀ i : Nat, wr.frozen? ⟨V, i, none⟩ = false) ∧ (∀ i : Nat, wr.cell? ⟨G + 1, i, none⟩ = (#[.int .i64 0, .int .i64 0, .int .i64 0] : Array Value)[i]?) ∧ (∀ i : Nat, wr.frozen? ⟨G + 1, i, none⟩ = false) :=
  ⟨⟨cell_of_row _ _ _ _ _ _ h.pt, cell_of_row _ _ _ _ _ _ h.pt, cell_of_row _ _ _ _ _ _ h.pt⟩, fun i => cell_of_row _ _ _ _ _ _ h.col, fun i => cell_of_row _ _ _ _ _ _ h.out, fun i => frozen_of_row _ _ _ _ _ h.out, fun i => cell_of_row _ _ _ _ _ _ h.res, fun i => frozen_of_row _ _ _ _ _ h.res⟩

set_option maxRecDepth 100000 in
set_option maxHeartbeats 4000000 in
theorem image_any (x y : Int) (p : Pt) (w : World) (hx : axB x = true) (hy : axB y = true) (hp : PtIn 1048576 p) :
    Calls Try.prog 111 #[.agg #[.int .i64 x, .int .i64 y], ptv p] w fun e w' => e = .returned (ptv (img x y p)) ∧ Below w.heap.size w w' := by
  have HC := Lib.hid (fun W => columns_any x y W hx hy)
  have hA := uv_bd hx
  have hB := uv_bd hy
  have hC := cross_bd hA hB
  have HR := Lib.hid (show img x y p = ⟨(uv x).x * p.x + (uv y).x * p.y + (crossP (uv x) (uv y)).x * p.z, (uv x).y * p.x + (uv y).y * p.y + (crossP (uv x) (uv y)).y * p.z, (uv x).z * p.x + (uv y).z * p.y + (crossP (uv x) (uv y)).z * p.z⟩ from rfl)
  generalize img x y p = r at *
  generalize uv x = a at *
  generalize uv y = b at *
  generalize crossP a b = c at *
  obtain ⟨a1, a2, a3, a4, a5, a6⟩ := hA
  obtain ⟨b1, b2, b3, b4, b5, b6⟩ := hB
  obtain ⟨c1, c2, c3, c4, c5, c6⟩ := hC
  obtain ⟨p1, p2, p3, p4, p5, p6⟩ := hp
  obtain ⟨d1, d2⟩ := prod_bd (c := a.x) ⟨by omega, by omega⟩ p1 p2
  obtain ⟨d3, d4⟩ := prod_bd (c := a.y) ⟨by omega, by omega⟩ p1 p2
  obtain ⟨d5, d6⟩ := prod_bd (c := a.z) ⟨by omega, by omega⟩ p1 p2
  obtain ⟨e1, e2⟩ := prod_bd (c := b.x) ⟨by omega, by omega⟩ p3 p4
  obtain ⟨e3, e4⟩ := prod_bd (c := b.y) ⟨by omega, by omega⟩ p3 p4
  obtain ⟨e5, e6⟩ := prod_bd (c := b.z) ⟨by omega, by omega⟩ p3 p4
  obtain ⟨f1, f2⟩ := prod_bd (c := c.x) ⟨by omega, by omega⟩ p5 p6
  obtain ⟨f3, f4⟩ := prod_bd (c := c.y) ⟨by omega, by omega⟩ p5 p6
  obtain ⟨f5, f6⟩ := prod_bd (c := c.z) ⟨by omega, by omega⟩ p5 p6
  clear a1 a2 a3 a4 a5 a6 b1 b2 b3 b4 b5 b6 c1 c2 c3 c4 c5 c6 p1 p2 p3 p4 p5 p6 hx hy
  go_enter Try.func111, Try.ntmps111
  go_wp2_with fail
  refine (HC.out _).mono ?_
  rintro e w9 ⟨rfl, hb9⟩
  have hz : w.heap.size + 1 + 1 < w9.heap.size := by have := hb9.size; simp at this; omega
  have q2 : w9.heap[w.heap.size + 1 + 1]? = some (.cells #[.int .i64 0, .int .i64 0, .int .i64 0] 31 (0, 0)) := (hb9.block _ (by simp)).trans (by have h := heap_alloc2_new (w.alloc (.cells #[.int .i64 x, .int .i64 y] 58)) (.cells #[.int .i64 p.x, .int .i64 p.y, .int .i64 p.z] 31) (.cells #[.int .i64 0, .int .i64 0, .int .i64 0] 31); rw [World.size_alloc] at h; exact h)
  have q1 : w9.heap[w.heap.size + 1]? = some (.cells #[.int .i64 p.x, .int .i64 p.y, .int .i64 p.z] 31 (0, 0)) := (hb9.block _ (by simp)).trans (by rw [Below.heap_alloc _ _ _ (by simp)]; exact heap_two _ _ _)
  have HI0 : Hid (ImgW w (w.heap.size + 1) w9.heap.size (w9.heap.size + 1) a b c p 0 ((w9.alloc (.cells #[.int .i64 a.x, .int .i64 a.y, .int .i64 a.z, .int .i64 b.x, .int .i64 b.y, .int .i64 b.z, .int .i64 c.x, .int .i64 c.y, .int .i64 c.z] 137)).alloc (.cells #[.int .i64 0, .int .i64 0, .int .i64 0] 128))) :=
    ⟨((bstep (by go_grown) hb9).alloc (by omega) _).alloc (by simp; omega) _, ⟨by omega, by omega⟩, by omega, by omega, by rw [Below.heap_alloc _ _ _ (by simp; omega), Below.heap_alloc _ _ _ (by omega)]; exact q1, heap_alloc2_old _ _ _, by rw [img0]; exact heap_alloc2_new _ _ _, ⟨by omega, by omega⟩, by rw [Below.heap_alloc _ _ _ (by simp; omega), Below.heap_alloc _ _ _ (by omega)]; exact q2⟩
  clear hb9 q1 q2
  have HZ := Lib.hid hz
  clear hz
  go_wp2_with fail
  go_loopw [10] (fun i wr => ∃ k : Nat, k ≤ 3 ∧ i = .int .i64 k ∧ ImgW w (w.heap.size + 1) w9.heap.size (w9.heap.size + 1) a b c p k wr) (fun i _ => 3 - (intOf i).toNat)
  case atStart => exact ⟨0, by omega, rfl, HI0.out⟩
  case round =>
    obtain ⟨k, hk, rfl, HI⟩ := hrel
    obtain rfl | rfl | rfl | rfl : k = 0 ∨ k = 1 ∨ k = 2 ∨ k = 3 := by omega
    · obtain ⟨⟨g1, g2, g3⟩, fC, fV, fF, _, _⟩ := HI.facts
      have c1 := fC 0
      have c2 := fC (3 + 0)
      have c3 := fC (6 + 0)
      have v1 := fV 0
      have v2 := fF 0
      rw [img0] at v1
      simp only [Nat.reduceAdd, List.getElem?_toArray, List.getElem?_cons_zero, List.getElem?_cons_succ] at c1 c2 c3 v1
      clear fC fV fF
      obtain ⟨wq, rfl⟩ : ∃ wq : World, wq = wr := ⟨_, rfl⟩
      have HI := Lib.hid HI
      go_upto_region 6 with fail
      go_still_tail 25, (by kernel_rfl)
      change wpList _ _ _ _ _ wq.drew
      obtain ⟨W10, hW10⟩ : ∃ W10, wq.drew = W10 := ⟨_, rfl⟩
      replace v1 : W10.cell? ⟨w9.heap.size + 1, 0, none⟩ = some (.int .i64 0) := by rw [← hW10]; exact v1
      replace v2 : W10.frozen? ⟨w9.heap.size + 1, 0, none⟩ = false := by rw [← hW10]; exact v2
      have HS : Hid (∀ u, (imgCells a b c p 0).setIfInBounds 0 u = imgCells a b c p (1) → ImgW w (w.heap.size + 1) w9.heap.size (w9.heap.size + 1) a b c p (1) (W10.setCell ⟨w9.heap.size + 1, 0, none⟩ u)) := fun u hu => by rw [← hW10]; exact HI.out.store u hu
      rw [hW10]
      clear hW10 c1 c2 c3 g1 g2 g3
      go_wp2
      go_roundw
      case rel => exact ⟨1, by omega, by go_num, HS.out _ (by rw [img0, img1]; rfl)⟩
      case measure => simp [intOf]
    · obtain ⟨⟨g1, g2, g3⟩, fC, fV, fF, _, _⟩ := HI.facts
      have c1 := fC 1
      have c2 := fC (3 + 1)
      have c3 := fC (6 + 1)
      have v1 := fV 1
      have v2 := fF 1
      rw [img1] at v1
      simp only [Nat.reduceAdd, List.getElem?_toArray, List.getElem?_cons_zero, List.getElem?_cons_succ] at c1 c2 c3 v1
      clear fC fV fF
      obtain ⟨wq, rfl⟩ : ∃ wq : World, wq = wr := ⟨_, rfl⟩
      have HI := Lib.hid HI
      go_upto_region 6 with fail
      go_still_tail 25, (by kernel_rfl)
      change wpList _ _ _ _ _ wq.drew
      obtain ⟨W10, hW10⟩ : ∃ W10, wq.drew = W10 := ⟨_, rfl⟩
      replace v1 : W10.cell? ⟨w9.heap.size + 1, 1, none⟩ = some (.int .i64 0) := by rw [← hW10]; exact v1
      replace v2 : W10.frozen? ⟨w9.heap.size + 1, 1, none⟩ = false := by rw [← hW10]; exact v2
      have HS : Hid (∀ u, (imgCells a b c p 1).setIfInBounds 1 u = imgCells a b c p (2) → ImgW w (w.heap.size + 1) w9.heap.size (w9.heap.size + 1) a b c p (2) (W10.setCell ⟨w9.heap.size + 1, 1, none⟩ u)) := fun u hu => by rw [← hW10]; exact HI.out.store u hu
      rw [hW10]
      clear hW10 c1 c2 c3 g1 g2 g3
      go_wp2
      go_roundw
      case rel => exact ⟨2, by omega, by go_num, HS.out _ (by rw [img1, img2]; rfl)⟩
      case measure => simp [intOf]
    · obtain ⟨⟨g1, g2, g3⟩, fC, fV, fF, _, _⟩ := HI.facts
      have c1 := fC 2
      have c2 := fC (3 + 2)
      have c3 := fC (6 + 2)
      have v1 := fV 2
      have v2 := fF 2
      rw [img2] at v1
      simp only [Nat.reduceAdd, List.getElem?_toArray, List.getElem?_cons_zero, List.getElem?_cons_succ] at c1 c2 c3 v1
      clear fC fV fF
      obtain ⟨wq, rfl⟩ : ∃ wq : World, wq = wr := ⟨_, rfl⟩
      have HI := Lib.hid HI
      go_upto_region 6 with fail
      go_still_tail 25, (by kernel_rfl)
      change wpList _ _ _ _ _ wq.drew
      obtain ⟨W10, hW10⟩ : ∃ W10, wq.drew = W10 := ⟨_, rfl⟩
      replace v1 : W10.cell? ⟨w9.heap.size + 1, 2, none⟩ = some (.int .i64 0) := by rw [← hW10]; exact v1
      replace v2 : W10.frozen? ⟨w9.heap.size + 1, 2, none⟩ = false := by rw [← hW10]; exact v2
      have HS : Hid (∀ u, (imgCells a b c p 2).setIfInBounds 2 u = imgCells a b c p (3) → ImgW w (w.heap.size + 1) w9.heap.size (w9.heap.size + 1) a b c p (3) (W10.setCell ⟨w9.heap.size + 1, 2, none⟩ u)) := fun u hu => by rw [← hW10]; exact HI.out.store u hu
      rw [hW10]
      clear hW10 c1 c2 c3 g1 g2 g3
      go_wp2
      go_roundw
      case rel => exact ⟨3, by omega, by go_num, HS.out _ (by rw [img2, img3]; rfl)⟩
      case measure => simp [intOf]
    · obtain ⟨_, fC, fV, fF, fR, fS⟩ := HI.facts
      have r0 := fR 0
      have r1 := fR 1
      have r2 := fR 2
      have v0 := fV 0
      have v1 := fV 1
      have v2 := fV 2
      rw [img3] at v0 v1 v2
      simp only [List.getElem?_toArray, List.getElem?_cons_zero, List.getElem?_cons_succ] at v0 v1 v2 r0 r1 r2
      clear fC fV fF fR
      have HI := Lib.hid HI
      go_wp2
      refine bodyPost_ret (v := ptv r) (by rw [HR.out]; simp [results, Try.results111, go_sem, r0, r1, r2, fS]) rfl ⟨rfl, ?_⟩
      exact (((HI.out.below).setCell (by simp; omega) _).setCell (by simp; omega) _).setCell (by simp; omega) _
end Go.Proofs.Ytpidjgljeooblaa
