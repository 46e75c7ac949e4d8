/-
  Steel: the law of the sizes.
-/
import Derived.Test.YtoddlkpglfccaaaStF
namespace Go.Proofs.Ytoddlkpglfccaaa
open Go.RowKit

theorem szs_ints2 (w : World) (n : Nat) (hn : n = w.heap.size) : Ints (w.alloc (.cells szCells 3)) (.slice (some ⟨n, 0, none⟩) 9 9) szs := by
  subst hn; exact szs_ints w _ rfl

theorem szs_eq2 (w : World) (n : Nat) (hn : n = w.heap.size + 1) :
    Calls Try.prog 22 #[.slice (some ⟨w.heap.size, 0, none⟩) 9 9, .slice (some ⟨n, 0, none⟩) 9 9] ((w.alloc (.cells szCells 3)).alloc (.cells szCells 3)) fun e w' =>
      e = .returned (.bool true) ∧ Below ((w.alloc (.cells szCells 3)).alloc (.cells szCells 3)).heap.size ((w.alloc (.cells szCells 3)).alloc (.cells szCells 3)) w' := by
  refine (equal_any _ _ szs szs _ ((szs_ints2 w _ rfl).below (below_new _ _)) (szs_ints2 _ _ (by simp; omega)) (by decide) (by decide)).mono ?_
  rintro e w' ⟨rfl, hb⟩
  exact ⟨by simp, hb⟩

set_option maxRecDepth 100000 in
set_option maxHeartbeats 800000 in
theorem sizeslaw_any (d : Int) (w : World) : Calls Try.prog 9 #[.int .i64 d] w fun e w' => e = .returned (.bool true) ∧ Below w.heap.size w w' := by
  by_cases hs : szB d = true
  · have hb : 0 ≤ d ∧ d ≤ 40 := by have := szB_cases hs; omega
    go_enter Try.func9, Try.ntmps9
    go_wp2_with (first
      | (go_at_call 10; refine (awake_any _).mono ?_; rintro e w9 ⟨rfl, hb1⟩; have hB := bstep (w := w) (by go_grown) hb1; have hz := hB.size; have hw1 : Hid (w9 = w9) := rfl; obtain ⟨w1, rfl⟩ : ∃ w1, w1 = w9 := ⟨_, rfl⟩)
      | (go_at_call 16; refine (sizes_any _).mono ?_; rintro e w2 ⟨rfl, rfl⟩)
      | (go_at_call 23; refine (rsizes_any _).mono ?_; rintro e w2 ⟨rfl, rfl⟩)
      | (go_at_call 22; refine (szs_eq2 _ _ (by rfl)).mono ?_; rintro e w9 ⟨rfl, hb1⟩; have hB := bstep (w := w) (by go_grown) hb1; have hz := hB.size; (try (have hc3 := (hb1.cell (p := ⟨w1.heap.size, 0, none⟩) (by simp; omega)).trans ((Below.cell (below_new _ _) (by simp)).trans (szs_cell w1 0 (by decide))); have hf3 := (hb1.frozen (p := ⟨w1.heap.size, 0, none⟩) (by simp; omega)).trans (show World.frozen? _ _ = false by simp [go_sem]))))
      | (go_at_call 19; refine (size_any _ _).mono ?_; rintro e w9 ⟨rfl, hb1⟩; have hB := bstep (w := w) (by go_grown) hb1; have hz := hB.size)
      | (go_at_call 12; refine (rsize_any _ _).mono ?_; rintro e w9 ⟨rfl, hb1⟩; have hB := bstep (w := w) (by go_grown) hb1; have hz := hB.size)
      | (go_at_call 17; refine (area_ok _ _ (by assumption)).mono ?_; rintro e w9 ⟨rfl, hb1⟩; have hB := bstep (w := w) (by go_grown) hb1; have hz := hB.size)
      | (go_at_call 18; refine (bend_ok _ _ (by assumption)).mono ?_; rintro e w9 ⟨rfl, hb1⟩; have hB := bstep (w := w) (by go_grown) hb1; have hz := hB.size)
      | (go_at_call 21; refine (round_ok _ _ (by assumption)).mono ?_; rintro e w9 ⟨rfl, hb1⟩; have hB := bstep (w := w) (by go_grown) hb1; have hz := hB.size)
      | (go_at_call 24; refine (rarea_in _ _ hb.1 hb.2).mono ?_; rintro e w9 ⟨rfl, rfl⟩)
      | (go_at_call 25; refine (rbend_in _ _ hb.1 hb.2).mono ?_; rintro e w9 ⟨rfl, rfl⟩)
      | (go_at_call 26; refine (rround_in _ _ hb.1 hb.2).mono ?_; rintro e w9 ⟨rfl, rfl⟩))
    go_ret
    exact ⟨rfl, by go_grown⟩
  · have hs' : szB d = false := by simpa using hs
    clear hs
    go_enter Try.func9, Try.ntmps9
    go_wp2_with (first
      | (go_at_call 10; refine (awake_any _).mono ?_; rintro e w9 ⟨rfl, hb1⟩; have hB := bstep (w := w) (by go_grown) hb1; have hz := hB.size; have hw1 : Hid (w9 = w9) := rfl; obtain ⟨w1, rfl⟩ : ∃ w1, w1 = w9 := ⟨_, rfl⟩)
      | (go_at_call 16; refine (sizes_any _).mono ?_; rintro e w2 ⟨rfl, rfl⟩)
      | (go_at_call 23; refine (rsizes_any _).mono ?_; rintro e w2 ⟨rfl, rfl⟩)
      | (go_at_call 22; refine (szs_eq2 _ _ (by rfl)).mono ?_; rintro e w9 ⟨rfl, hb1⟩; have hB := bstep (w := w) (by go_grown) hb1; have hz := hB.size; (try (have hc3 := (hb1.cell (p := ⟨w1.heap.size, 0, none⟩) (by simp; omega)).trans ((Below.cell (below_new _ _) (by simp)).trans (szs_cell w1 0 (by decide))); have hf3 := (hb1.frozen (p := ⟨w1.heap.size, 0, none⟩) (by simp; omega)).trans (show World.frozen? _ _ = false by simp [go_sem]))))
      | (go_at_call 19; refine (size_any _ _).mono ?_; rintro e w9 ⟨rfl, hb1⟩; have hB := bstep (w := w) (by go_grown) hb1; have hz := hB.size)
      | (go_at_call 12; refine (rsize_any _ _).mono ?_; rintro e w9 ⟨rfl, hb1⟩; have hB := bstep (w := w) (by go_grown) hb1; have hz := hB.size)
      | (go_at_call 17; refine (area_no _ _ (by assumption)).mono ?_; rintro e w9 ⟨rfl, hb1⟩; have hB := bstep (w := w) (by go_grown) hb1; have hz := hB.size)
      | (go_at_call 18; refine (bend_no _ _ (by assumption)).mono ?_; rintro e w9 ⟨rfl, hb1⟩; have hB := bstep (w := w) (by go_grown) hb1; have hz := hB.size)
      | (go_at_call 21; refine (round_no _ _ (by assumption)).mono ?_; rintro e w9 ⟨rfl, hb1⟩; have hB := bstep (w := w) (by go_grown) hb1; have hz := hB.size))
    go_ret
    exact ⟨rfl, by go_grown⟩
end Go.Proofs.Ytoddlkpglfccaaa
