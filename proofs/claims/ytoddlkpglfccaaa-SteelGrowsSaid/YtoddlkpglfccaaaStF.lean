/-
  Steel: the law of growing sizes.
-/
import Derived.Test.YtoddlkpglfccaaaStE
namespace Go.Proofs.Ytoddlkpglfccaaa
open Go.RowKit

theorem grow_facts (n : Int) (h0 : 1000 ≤ n) (j : Nat) (hj : j + 1 < 9) :
    szs.getD j 0 < szs.getD (j + 1) 0 ∧ areaOf (szs.getD j 0) < areaOf (szs.getD (j + 1) 0) ∧ massOf (szs.getD j 0) n < massOf (szs.getD (j + 1) 0) n ∧ bendOf (szs.getD j 0) < bendOf (szs.getD (j + 1) 0) := by
  match j, hj with
  | 0, _ => simp [szs, areaOf, massOf, bendOf]; omega
  | 1, _ => simp [szs, areaOf, massOf, bendOf]; omega
  | 2, _ => simp [szs, areaOf, massOf, bendOf]; omega
  | 3, _ => simp [szs, areaOf, massOf, bendOf]; omega
  | 4, _ => simp [szs, areaOf, massOf, bendOf]; omega
  | 5, _ => simp [szs, areaOf, massOf, bendOf]; omega
  | 6, _ => simp [szs, areaOf, massOf, bendOf]; omega
  | 7, _ => simp [szs, areaOf, massOf, bendOf]; omega

theorem szs_below {w0 w1 : World} (hb : Below (w0.alloc (.cells szCells 3)).heap.size (w0.alloc (.cells szCells 3)) w1) (k : Nat) (hk : k < 9) : w1.cell? ⟨w0.heap.size, k, none⟩ = some (.int .i64 (szs.getD k 0)) :=
  (hb.cell (p := ⟨w0.heap.size, k, none⟩) (by simp)).trans (szs_cell w0 k hk)

set_option maxHeartbeats 1600000 in
set_option maxRecDepth 100000 in
theorem grows_any (a : Int) (ha : 0 ≤ a ∧ a ≤ 4294967295) (w : World) : Calls Try.prog 5 #[.int .u32 a] w fun e w' => e = .returned (.bool true) ∧ Below w.heap.size w w' := by
  have n0 : 1000 ≤ 1000 + a % 1047577 ∧ 1000 + a % 1047577 ≤ 1048576 := by omega
  go_enter Try.func5, Try.ntmps5
  go_wp2_with (first
    | (go_at_call 10; refine (awake_any _).mono ?_; rintro e w1 ⟨rfl, hb1⟩; have hB := bstep (w := w) (by go_grown) hb1; have hz := hB.size)
    | (go_at_call 16; refine (sizes_any _).mono ?_; rintro e w2 ⟨rfl, rfl⟩))
  go_loopw [2, 28] (fun _ i wr => ∃ k : Nat, k ≤ 9 ∧ i = .int .i64 k ∧ Below w.heap.size w wr ∧ Below (w1.alloc (.cells szCells 3)).heap.size (w1.alloc (.cells szCells 3)) wr) (fun _ i _ => 9 - (intOf i).toNat)
  case atStart => exact ⟨0, by omega, rfl, by go_grown, Below.refl _ _⟩
  case round =>
    obtain ⟨k, hk, rfl, hBr, hBr2⟩ := hrel
    have hzr := hBr.size
    by_cases hlt : k < 9
    · obtain ⟨y, hy⟩ : ∃ y, szs.getD k 0 = y := ⟨_, rfl⟩
      have HY := Lib.hid hy
      clear hy
      have c1 := szs_below hBr2 k hlt
      rw [HY.out] at c1
      have hs : szB y = true := szB_hit hlt HY.out
      by_cases hk0 : k = 0
      · subst hk0
        go_wp2_with (first
          | (go_at_call 17; refine (area_ok _ _ (by assumption)).mono ?_; rintro e w9 ⟨rfl, hb1⟩; have hB := bstep (w := w) (by go_grown) hb1; have hz := hB.size; have hB2 := bstep (w := w1.alloc (.cells szCells 3)) (by go_grown) hb1; have c1 := szs_below hB2 _ hlt; rw [HY.out] at c1)
          | (go_at_call 11; refine (mass_ok _ _ _ (by assumption) (by omega) n0.2).mono ?_; rintro e w9 ⟨rfl, hb1⟩; have hB := bstep (w := w) (by go_grown) hb1; have hz := hB.size; have hB2 := bstep (w := w1.alloc (.cells szCells 3)) (by go_grown) hb1; have c1 := szs_below hB2 _ hlt; rw [HY.out] at c1)
          | (go_at_call 18; refine (bend_ok _ _ (by assumption)).mono ?_; rintro e w9 ⟨rfl, hb1⟩; have hB := bstep (w := w) (by go_grown) hb1; have hz := hB.size; have hB2 := bstep (w := w1.alloc (.cells szCells 3)) (by go_grown) hb1; have c1 := szs_below hB2 _ hlt; rw [HY.out] at c1)
          | (go_at_call 19; refine (size_any _ _).mono ?_; rintro e w9 ⟨rfl, hb1⟩; have hB := bstep (w := w) (by go_grown) hb1; have hz := hB.size; have hB2 := bstep (w := w1.alloc (.cells szCells 3)) (by go_grown) hb1; have c1 := szs_below hB2 _ hlt; rw [HY.out] at c1))
        go_roundw
        case rel => exact ⟨1, by omega, rfl, by go_grown, by go_grown⟩
        case measure => simp [intOf]
      · obtain ⟨j, rfl⟩ : ∃ j, k = j + 1 := ⟨k - 1, by omega⟩
        obtain ⟨z, hz0⟩ : ∃ z, szs.getD j 0 = z := ⟨_, rfl⟩
        have HZ := Lib.hid hz0
        clear hz0
        have c2 := szs_below hBr2 j (by omega)
        rw [HZ.out] at c2
        have hs2 : szB z = true := szB_hit (by omega) HZ.out
        obtain ⟨f1, f2, f3, f4⟩ := grow_facts _ n0.1 j hlt
        rw [HY.out, HZ.out] at f1 f2 f3 f4
        go_wp2_with (first
          | (go_at_call 17; refine (area_ok _ _ (by assumption)).mono ?_; rintro e w9 ⟨rfl, hb1⟩; have hB := bstep (w := w) (by go_grown) hb1; have hz := hB.size; have hB2 := bstep (w := w1.alloc (.cells szCells 3)) (by go_grown) hb1; have c1 := szs_below hB2 _ hlt; rw [HY.out] at c1; have c2 := szs_below hB2 j (by omega); rw [HZ.out] at c2)
          | (go_at_call 11; refine (mass_ok _ _ _ (by assumption) (by omega) n0.2).mono ?_; rintro e w9 ⟨rfl, hb1⟩; have hB := bstep (w := w) (by go_grown) hb1; have hz := hB.size; have hB2 := bstep (w := w1.alloc (.cells szCells 3)) (by go_grown) hb1; have c1 := szs_below hB2 _ hlt; rw [HY.out] at c1; have c2 := szs_below hB2 j (by omega); rw [HZ.out] at c2)
          | (go_at_call 18; refine (bend_ok _ _ (by assumption)).mono ?_; rintro e w9 ⟨rfl, hb1⟩; have hB := bstep (w := w) (by go_grown) hb1; have hz := hB.size; have hB2 := bstep (w := w1.alloc (.cells szCells 3)) (by go_grown) hb1; have c1 := szs_below hB2 _ hlt; rw [HY.out] at c1; have c2 := szs_below hB2 j (by omega); rw [HZ.out] at c2)
          | (go_at_call 19; refine (size_any _ _).mono ?_; rintro e w9 ⟨rfl, hb1⟩; have hB := bstep (w := w) (by go_grown) hb1; have hz := hB.size; have hB2 := bstep (w := w1.alloc (.cells szCells 3)) (by go_grown) hb1; have c1 := szs_below hB2 _ hlt; rw [HY.out] at c1; have c2 := szs_below hB2 j (by omega); rw [HZ.out] at c2))
        go_roundw
        case rel => exact ⟨j + 2, by omega, by go_num, by go_grown, by go_grown⟩
        case measure => simp [intOf]; omega
    · go_wp2
      go_ret
      exact ⟨rfl, by go_grown⟩
end Go.Proofs.Ytoddlkpglfccaaa
