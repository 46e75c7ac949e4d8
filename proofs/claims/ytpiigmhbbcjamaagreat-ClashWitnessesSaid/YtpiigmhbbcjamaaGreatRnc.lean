/-
  The reference of boxes: Square.
-/
import Derived.Test.YtpiigmhbbcjamaaGreatRnb
namespace Go.Proofs.YtpiigmhbbcjamaaGreat
section
open Go.RowKit
set_option linter.unusedVariables false
set_option linter.unusedSimpArgs false
attribute [local go_sem ↓] Go.wp_at_zero Go.wp_at_succ

set_option maxRecDepth 100000 in
set_option maxHeartbeats 2000000 in
theorem rsquare_any (a b : Bx) (w : World) (ha : bxOk a = true) (hb : bxOk b = true) :
    Calls Tryz.prog 65 #[bxv a, bxv b] w fun e w' => e = .returned (.int .i64 (sqN a b 3)) ∧ Below w.heap.size w w' := by
  have HAL := Lib.hid (fun k (hk : k < 3) W => ralong_any a b k W hk ha hb)
  have HGB := Lib.hid (fun k (hk : k < 3) => gq_bd ha hb hk)
  have HSB := Lib.hid (sqN_bd ha hb)
  have HGE : Hid (∀ k, gq a b k = if 0 < gp a b k then gp a b k else 0) := fun _ => rfl
  have HSN : Hid (∀ k, sqN a b (k + 1) = sqN a b k + gq a b k * gq a b k) := fun _ => rfl
  have HW2 : Hid (SqW w a b ((w.alloc (.cells (bxCellsA a) 96)).alloc (.cells (bxCellsA b) 96))) := ⟨by go_grown, (BlkIs.new w _ _).alloc _, BlkIs.new1 w _ _ _⟩
  clear ha hb
  go_enter Tryz.func65, Tryz.ntmps65
  go_wp2_with fail
  go_loopw [5, 6] (fun t i wr => ∃ k : Nat, k ≤ 3 ∧ i = .int .i64 (k : Int) ∧ t = .int .i64 (sqN a b k) ∧ SqW w a b wr) (fun _ i _ => 3 - (intOf i).toNat)
  case atStart => exact ⟨0, by omega, rfl, rfl, HW2.out⟩
  case round =>
    clear HW2
    obtain ⟨k, hk, rfl, rfl, hW⟩ := hrel
    have HW := Lib.hid hW
    clear hW
    by_cases hk2 : k < 3
    · have a0 := HW.out.ba.cell 0
      have a1 := HW.out.ba.cell 1
      have a2 := HW.out.ba.cell 2
      have a3 := HW.out.ba.cell 3
      have a4 := HW.out.ba.cell 4
      have a5 := HW.out.ba.cell 5
      have c0 := HW.out.bb.cell 0
      have c1 := HW.out.bb.cell 1
      have c2 := HW.out.bb.cell 2
      have c3 := HW.out.bb.cell 3
      have c4 := HW.out.bb.cell 4
      have c5 := HW.out.bb.cell 5
      have HALK := Lib.hid (HAL.out k hk2)
      obtain ⟨g0, g1⟩ := HGB.out k hk2
      obtain ⟨s0, s1⟩ := HSB.out k hk
      have HN := Lib.hid (HSN.out k)
      have HE := Lib.hid (HGE.out k)
      go_wp2_with fail
      refine (HALK.out _).mono ?_
      rintro e w3 ⟨rfl, hb3⟩
      have HW3 := Lib.hid (HW.out.after hb3)
      clear hb3 a0 a1 a2 a3 a4 a5 c0 c1 c2 c3 c4 c5 HALK HAL HGB HSB HSN HGE
      have hgq := HE.out
      generalize gp a b k = g at *
      generalize gq a b k = n at *
      generalize sqN a b k = s at *
      obtain ⟨q0, q1⟩ := sq_bd g0 g1
      by_cases hg : 0 < g
      · have hn : n = g := by rw [hgq, if_pos hg]
        subst hn
        clear hgq HE
        generalize hsq : n * n = m at *
        go_wp2_with fail
        go_roundw
        case rel => exact ⟨k + 1, by omega, by go_num, by rw [HN.out], HW3.out⟩
        case measure => simp [intOf]; omega
      · have hn : n = 0 := by rw [hgq, if_neg hg]
        subst hn
        clear hgq HE
        go_wp2_with fail
        go_roundw
        case rel => exact ⟨k + 1, by omega, by go_num, by rw [HN.out]; exact val_int (by omega), HW3.out⟩
        case measure => simp [intOf]; omega
    · obtain rfl : k = 3 := by omega
      go_wp2
      go_ret
      exact ⟨rfl, HW.out.below⟩

end
end Go.Proofs.YtpiigmhbbcjamaaGreat
