/-
  A slice of points made and filled: make, a point stored.
-/
import Derived.Test.YtpidjgljeooblaaLdH
import Derived.Laws.MakeOwn
namespace Go.Proofs.Ytpidjgljeooblaa
open Go.RowKit
set_option linter.unusedVariables false
set_option linter.unusedSimpArgs false

theorem made_zeros (n : Nat) : (madeCells #[.int .i64 0, .int .i64 0, .int .i64 0] n).toList = List.replicate n (.int .i64 0) := by
  apply List.ext_getElem?
  intro j
  by_cases hj : j < n
  · have h3 : j % 3 = 0 ∨ j % 3 = 1 ∨ j % 3 = 2 := by omega
    rcases h3 with h | h | h <;> simp [madeCells, hj, h]
  · simp [madeCells, hj]
theorem zeros_flat (n : Nat) : (List.replicate n (⟨0, 0, 0⟩ : Pt)).flatMap ptCells = List.replicate (n * 3) (.int .i64 0) := by
  induction n with
  | zero => rfl
  | succ n ih =>
    rw [List.replicate_succ, List.flatMap_cons, ih, Nat.succ_mul, Nat.add_comm (n * 3) 3, ← List.replicate_append_replicate]
    rfl
theorem run_make_pts (n : Nat) (hn : n ≤ 1099511627776) (w : World) : (Instr.makeSlice 82 (.int .i64 (n : Int)) (.int .i64 (n : Int))).run Try.prog w = .ok (.slice (some ⟨w.heap.size, 0, none⟩) n n) (w.alloc (.cells (madeCells #[.int .i64 0, .int .i64 0, .int .i64 0] (n * 3)) 31)) := by
  obtain ⟨ht, i, z, h1, h2, h3, h4, h5, h6⟩ := elemPt
  have hz : z = .agg #[.int .i64 0, .int .i64 0, .int .i64 0] := by
    have e : (Try.prog.info? 31).map (fun i => i.zero) = some (some (.agg #[.int .i64 0, .int .i64 0, .int .i64 0])) := by kernel_rfl
    rw [h1] at e
    simp only [Option.map_some, Option.some.injEq] at e
    rw [h2] at e
    simpa using e
  subst hz
  have hr := run_make (P := Try.prog) w 82 31 i _ ht h1 h2 .i64 .i64 n n (by omega) (by omega) (by rw [h4]; omega) (by omega)
  simp only [Int.toNat_natCast, h3] at hr
  exact hr
theorem own_made_pts (w : World) (n base : Nat) (hn : n ≤ 1099511627776) (hb : base ≤ w.heap.size) : OwnPts (w.alloc (.cells (madeCells #[.int .i64 0, .int .i64 0, .int .i64 0] (n * 3)) 31)) base (.slice (some ⟨w.heap.size, 0, none⟩) n n) (List.replicate n ⟨0, 0, 0⟩) := by
  have hs : (madeCells #[.int .i64 0, .int .i64 0, .int .i64 0] (n * 3)).size = n * 3 := by simp [madeCells]
  have h := World.ownsRow_lit (base := base) (e := 31) (size := 3) w (madeCells #[.int .i64 0, .int .i64 0, .int .i64 0] (n * 3)) n hb (by unfold maxLen; omega) hs
  unfold OwnPts OwnN
  rw [List.length_replicate, zeros_flat, ← made_zeros]
  exact h
theorem flat_set (ps : List Pt) : ∀ (j : Nat) (q : Pt), j < ps.length → (((ps.flatMap ptCells).set (j * 3) (.int .i64 q.x)).set (j * 3 + 1) (.int .i64 q.y)).set (j * 3 + 2) (.int .i64 q.z) = (ps.set j q).flatMap ptCells := by
  induction ps with
  | nil => intro j q h; simp at h
  | cons a ps ih =>
    intro j q h
    have e : (a :: ps).flatMap ptCells = .int .i64 a.x :: .int .i64 a.y :: .int .i64 a.z :: ps.flatMap ptCells := rfl
    cases j with
    | zero => rw [e]; rfl
    | succ j =>
      rw [e]
      have h2 := ih j q (by simpa using h)
      rw [show (j + 1) * 3 = j * 3 + 1 + 1 + 1 by omega]
      simp only [List.set_cons_succ]
      rw [h2]; rfl
theorem own_set3 {w : World} {base g n cap : Nat} {ps : List Pt} (h : OwnPts w base (.slice (some ⟨g, 0, none⟩) n cap) ps) (j : Nat) (q : Pt) (hj : j < ps.length) :
    OwnPts (((w.setCell ⟨g, j * 3, none⟩ (.int .i64 q.x)).setCell ⟨g, j * 3 + 1, none⟩ (.int .i64 q.y)).setCell ⟨g, j * 3 + 2, none⟩ (.int .i64 q.z)) base (.slice (some ⟨g, 0, none⟩) n cap) (ps.set j q) := by
  have hn : n = ps.length := by
    rcases h.2 with ⟨h', _⟩ | ⟨g', cap', cur, h', _⟩
    · cases h'
    · cases h'; rfl
  subst hn
  have h1 := (World.ownsRow.stored h (j * 3) (.int .i64 q.x)).1
  have h2 := (World.ownsRow.stored h1 (j * 3 + 1) (.int .i64 q.y)).1
  have h3 := (World.ownsRow.stored h2 (j * 3 + 2) (.int .i64 q.z)).1
  rw [flat_set ps j q hj] at h3
  unfold OwnPts OwnN
  rw [List.length_set]
  exact h3
theorem grown_set3 (w : World) (g j : Nat) (a b c : Value) : w.grownBy (((w.setCell ⟨g, j * 3, none⟩ a).setCell ⟨g, j * 3 + 1, none⟩ b).setCell ⟨g, j * 3 + 2, none⟩ c) (some g) :=
  only_trans (only_trans (only_set w g _ a) (only_set _ g _ b)) (only_set _ g _ c)
/-- The cells of a point of the call's own, and that they may be written. -/
theorem own_at3 {w : World} {base g n cap : Nat} {ps : List Pt} (h : OwnPts w base (.slice (some ⟨g, 0, none⟩) n cap) ps) {j : Nat} {p : Pt} (hj : ps[j]? = some p) :
    w.cell? ⟨g, j * 3, none⟩ = some (.int .i64 p.x) ∧ w.cell? ⟨g, j * 3 + 1, none⟩ = some (.int .i64 p.y) ∧ w.cell? ⟨g, j * 3 + 2, none⟩ = some (.int .i64 p.z) ∧ (∀ o, w.frozen? ⟨g, o, none⟩ = false) ∧ g < w.heap.size := by
  obtain ⟨ao, cp, hv, hc⟩ := OwnN.fl pt_len h
  cases hv
  obtain ⟨b, off, e, hlt, hcell⟩ := hc (by have := (List.getElem?_eq_some_iff.1 hj).1; omega)
  cases e
  have c0 := hcell j p hj 0 _ rfl
  have c1 := hcell j p hj 1 _ rfl
  have c2 := hcell j p hj 2 _ rfl
  rw [Nat.zero_add] at c0 c1 c2
  refine ⟨c0, c1, c2, fun o => ?_, hlt⟩
  rcases h.2 with ⟨h', _⟩ | ⟨g', cap', cur, h', hb, hg, _⟩
  · cases h'
  · cases h'
    exact frozen_of_row _ _ _ _ _ hg
end Go.Proofs.Ytpidjgljeooblaa
