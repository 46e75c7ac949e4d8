/-
  Couplers: BinarySearch at ascending numbers.
-/
import Derived.Test.YtamogedpgkofjaaGreatCpa
import Derived.Test.YtamogedpgkofjaaGreatCqm
namespace Go.Proofs.YtamogedpgkofjaaGreat
section
open Go.RowKit Go.Shelf
set_option linter.unusedVariables false
set_option linter.unusedSimpArgs false

theorem count_idx : ∀ {l : List Nat} {x : Nat}, l.Pairwise (· < ·) → x ∈ l → (ntI l).countP (fun y => decide (y < (x : Int))) = l.idxOf x
  | [], x, _, h => by simp at h
  | a :: l, x, hs, h => by
    obtain ⟨h1, h2⟩ := List.pairwise_cons.1 hs
    show ((a : Int) :: ntI l).countP _ = _
    by_cases e : a = x
    · subst e
      rw [List.idxOf_cons_self, List.countP_eq_zero]
      intro y hy
      rcases List.mem_cons.1 hy with rfl | hy
      · simp
      · unfold ntI at hy
        obtain ⟨k, hk, rfl⟩ := List.mem_map.1 hy
        have := h1 k hk
        simp only [decide_eq_true_eq]
        omega
    · have hx : x ∈ l := by
        rcases List.mem_cons.1 h with e2 | h3
        · exact absurd e2.symm e
        · exact h3
      have hax := h1 x hx
      rw [List.countP_cons_of_pos (by simp only [decide_eq_true_eq]; omega), count_idx h2 hx, List.idxOf_cons, beq_eq_false_iff_ne.2 e]; rfl
theorem bsearch_nat (v : Value) (l : List Nat) (x : Nat) (w : World) (h : Nats w v l) (hs : l.Pairwise (· < ·)) (hl : l.length ≤ 1000) :
    Calls Tryz.prog 72 #[v, .int .i64 (x : Int)] w fun e w' => ∃ p : Nat, e = .returned (.tuple #[.int .i64 (p : Int), .bool (decide (x ∈ l))]) ∧ (x ∈ l → p = l.idxOf x) ∧ Below w.heap.size w w' := by
  obtain ⟨ao, cap, rfl, hc⟩ := h
  rcases Nat.eq_zero_or_pos l.length with h0 | h0
  · have hl0 : l = [] := List.eq_nil_of_length_eq_zero h0
    subst hl0
    refine (Tryz.slices_BinarySearch_int_empty ao cap (x : Int) w).mono ?_
    rintro e w' ⟨rfl, rfl⟩
    exact ⟨0, by simp, fun h => by simp at h, Below.refl _ _⟩
  · obtain ⟨b, off, rfl, hlt, hcell⟩ := hc h0
    refine (Tryz.slices_BinarySearch_int b off l.length cap (ntI l) (x : Int) w (by rw [ntI_len]; exact Nat.le_refl _) (by omega) (fun j hj => ?_) ?_).mono ?_
    · rw [ntI_len] at hj
      rw [ntI_getD]
      have := hcell j _ (List.getElem?_eq_getElem hj)
      rw [this, List.getD_eq_getElem?_getD, List.getElem?_eq_getElem hj]
      rfl
    · rw [List.take_of_length_le (by rw [ntI_len]; exact Nat.le_refl _)]
      unfold ntI
      exact List.Pairwise.map _ (fun a b h => by omega) hs
    · rintro e w' ⟨rfl, q, rfl⟩
      rw [List.take_of_length_le (by rw [ntI_len]; exact Nat.le_refl _)]
      refine ⟨_, ?_, fun hx => count_idx hs hx, below_drewN' (Below.refl _ _) q⟩
      have : (ntI l).contains (x : Int) = decide (x ∈ l) := by
        rw [Bool.eq_iff_iff, List.contains_iff_mem, decide_eq_true_eq]
        exact ntI_mem
      rw [this]
end
end Go.Proofs.YtamogedpgkofjaaGreat
