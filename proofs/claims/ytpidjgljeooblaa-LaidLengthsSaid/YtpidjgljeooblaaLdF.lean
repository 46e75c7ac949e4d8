/-
  The reference's image of a point.
-/
import Derived.Test.YtpidjgljeooblaaLdE
namespace Go.Proofs.Ytpidjgljeooblaa
open Go.RowKit
set_option linter.unusedVariables false
set_option linter.unusedSimpArgs false
attribute [local go_sem ↓] Go.wp_at_zero Go.wp_at_succ

theorem runit_pos (n : Int) (w : World) (h : n = 1 ∨ n = 2 ∨ n = 3) : Calls Try.prog 103 #[.int .i64 n] w fun e w' => e = .returned (ptv (uv n)) ∧ Below w.heap.size w w' := by
  rcases h with rfl | rfl | rfl
  all_goals
    go_enter Try.func103, Try.ntmps103
    go_wp2
    exact bodyPost_ret (v := ptv (uv _)) (by simp [results, Try.results103, go_sem]; first | rfl | decide) rfl ⟨rfl, by go_grown⟩

theorem runit_any (n : Int) (w : World) (h : axB n = true) : Calls Try.prog 103 #[.int .i64 n] w fun e w' => e = .returned (ptv (uv n)) ∧ Below w.heap.size w w' := by
  by_cases h0 : 0 < n
  · exact runit_pos n w (by have := axis_cases h; omega)
  · have h3 : n = -1 ∨ n = -2 ∨ n = -3 := by have := axis_cases h; omega
    clear h h0
    rcases h3 with rfl | rfl | rfl
    · have H : Hid (∀ W, Calls Try.prog 103 #[.int .i64 1] W fun e w' => e = .returned (.agg #[.int .i64 1, .int .i64 0, .int .i64 0]) ∧ Below W.heap.size W w') := fun W => runit_pos 1 W (.inl rfl)
      go_enter Try.func103, Try.ntmps103
      go_wp2_with fail
      refine (H.out _).mono ?_
      rintro e w9 ⟨rfl, hb9⟩
      obtain ⟨hc, hf⟩ := bcell hb9
      have hz : w.heap.size < w9.heap.size := by have := hb9.size; simp at this; omega
      have HB := Lib.hid (bstep (by go_grown) hb9 : Below w.heap.size w w9)
      clear hb9
      go_wp2
      exact bodyPost_ret (v := ptv (uv (-1))) (by simp [results, Try.results103, go_sem, hc, hz]; first | rfl | decide) rfl ⟨rfl, (((HB.out.setCell (by simp) _).setCell (by simp) _).setCell (by simp) _).alloc (by simp; omega) _⟩
    · have H : Hid (∀ W, Calls Try.prog 103 #[.int .i64 2] W fun e w' => e = .returned (.agg #[.int .i64 0, .int .i64 1, .int .i64 0]) ∧ Below W.heap.size W w') := fun W => runit_pos 2 W (.inr (.inl rfl))
      go_enter Try.func103, Try.ntmps103
      go_wp2_with fail
      refine (H.out _).mono ?_
      rintro e w9 ⟨rfl, hb9⟩
      obtain ⟨hc, hf⟩ := bcell hb9
      have hz : w.heap.size < w9.heap.size := by have := hb9.size; simp at this; omega
      have HB := Lib.hid (bstep (by go_grown) hb9 : Below w.heap.size w w9)
      clear hb9
      go_wp2
      exact bodyPost_ret (v := ptv (uv (-2))) (by simp [results, Try.results103, go_sem, hc, hz]; first | rfl | decide) rfl ⟨rfl, (((HB.out.setCell (by simp) _).setCell (by simp) _).setCell (by simp) _).alloc (by simp; omega) _⟩
    · have H : Hid (∀ W, Calls Try.prog 103 #[.int .i64 3] W fun e w' => e = .returned (.agg #[.int .i64 0, .int .i64 0, .int .i64 1]) ∧ Below W.heap.size W w') := fun W => runit_pos 3 W (.inr (.inr rfl))
      go_enter Try.func103, Try.ntmps103
      go_wp2_with fail
      refine (H.out _).mono ?_
      rintro e w9 ⟨rfl, hb9⟩
      obtain ⟨hc, hf⟩ := bcell hb9
      have hz : w.heap.size < w9.heap.size := by have := hb9.size; simp at this; omega
      have HB := Lib.hid (bstep (by go_grown) hb9 : Below w.heap.size w w9)
      clear hb9
      go_wp2
      exact bodyPost_ret (v := ptv (uv (-3))) (by simp [results, Try.results103, go_sem, hc, hz]; first | rfl | decide) rfl ⟨rfl, (((HB.out.setCell (by simp) _).setCell (by simp) _).setCell (by simp) _).alloc (by simp; omega) _⟩

theorem rcross_any (a b : Pt) (w : World) (ha : PtIn 1 a) (hb : PtIn 1 b) : Calls Try.prog 105 #[ptv a, ptv b] w fun e w' => e = .returned (ptv (crossP a b)) ∧ Below w.heap.size w w' := by
  have key : ∀ x y : Int, -1 ≤ x → x ≤ 1 → -1 ≤ y → y ≤ 1 → -1 ≤ x * y ∧ x * y ≤ 1 := by
    intro x y h1 h2 h3 h4
    obtain rfl | rfl | rfl : x = -1 ∨ x = 0 ∨ x = 1 := by omega
    all_goals omega
  obtain ⟨a1, a2, a3, a4, a5, a6⟩ := ha
  obtain ⟨b1, b2, b3, b4, b5, b6⟩ := hb
  obtain ⟨ax, ay, az⟩ := a
  obtain ⟨bx, by_, bz⟩ := b
  simp only at *
  obtain ⟨c1, c2⟩ := key ay bz a3 a4 b5 b6
  obtain ⟨c3, c4⟩ := key az by_ a5 a6 b3 b4
  obtain ⟨c5, c6⟩ := key az bx a5 a6 b1 b2
  obtain ⟨c7, c8⟩ := key ax bz a1 a2 b5 b6
  obtain ⟨d1, d2⟩ := key ax by_ a1 a2 b3 b4
  obtain ⟨d3, d4⟩ := key ay bx a3 a4 b1 b2
  clear key
  go_enter Try.func105, Try.ntmps105
  go_wp2
  exact bodyPost_ret (v := ptv (crossP _ _)) (by simp [results, Try.results105, go_sem, crossP]) rfl ⟨rfl, by go_grown⟩

/-! ### blocks known whole -/
def BlkIs (w : World) (g : Nat) (t : TypeId) (cs : Array Value) : Prop := w.heap[g]? = some (.cells cs t (0, 0))
section
variable {w w' : World} {g : Nat} {t : TypeId} {cs : Array Value}
theorem BlkIs.lt (h : BlkIs w g t cs) : g < w.heap.size := (Array.getElem?_eq_some_iff.1 h).1
theorem BlkIs.below (h : BlkIs w g t cs) (hb : Below w.heap.size w w') : BlkIs w' g t cs := (hb.block _ h.lt).trans h
theorem BlkIs.cell (h : BlkIs w g t cs) (i : Nat) : w.cell? ⟨g, i, none⟩ = cs[i]? := cell_of_row _ _ _ _ _ _ h
theorem BlkIs.free (h : BlkIs w g t cs) (i : Nat) : w.frozen? ⟨g, i, none⟩ = false := frozen_of_row _ _ _ _ _ h
theorem BlkIs.alloc (h : BlkIs w g t cs) (o : Obj) : BlkIs (w.alloc o) g t cs := (Below.heap_alloc w o g h.lt).trans h
theorem BlkIs.new (w : World) (cs : Array Value) (t : TypeId) : BlkIs (w.alloc (.cells cs t)) w.heap.size t cs := heap_alloc_new w _
theorem BlkIs.new1 (w : World) (o : Obj) (cs : Array Value) (t : TypeId) : BlkIs ((w.alloc o).alloc (.cells cs t)) (w.heap.size + 1) t cs := heap_alloc2_new w _ _
theorem BlkIs.far (h : BlkIs w g t cs) {p : Addr} (hp : g ≠ p.block) (u : Value) : BlkIs (w.setCell p u) g t cs := (heap_setCell_other _ _ _ _ hp).trans h
theorem BlkIs.set (h : BlkIs w g t cs) (i : Nat) (u : Value) : BlkIs (w.setCell ⟨g, i, none⟩ u) g t (cs.setIfInBounds i u) := heap_setCell_same _ _ _ _ _ _ h
end

end Go.Proofs.Ytpidjgljeooblaa
