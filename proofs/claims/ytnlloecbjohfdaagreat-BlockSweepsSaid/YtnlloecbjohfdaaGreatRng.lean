/-
  The reference of boxes: Valid.
-/
import Derived.Test.YtnlloecbjohfdaaGreatRnb
namespace Go.Proofs.YtnlloecbjohfdaaGreat
section
open Go.RowKit
set_option linter.unusedVariables false
set_option linter.unusedSimpArgs false
attribute [local go_sem ↓] Go.wp_at_zero Go.wp_at_succ

theorem rislen_to (n : Int) (q : Bool) (h : decide (-1048576 ≤ n ∧ n ≤ 1048576) = q) (w : World) : Calls Tryz.prog 101 #[.int .i64 n] w fun e w' => e = .returned (.bool q) ∧ w' = w := h ▸ rislen_any n w
set_option maxRecDepth 100000 in
set_option maxHeartbeats 2000000 in
theorem rvalid9_any (b : Bx) (w : World) : Calls Tryz.prog 62 #[bxv b] w fun e w' => e = .returned (.bool (bxOk b)) ∧ Below w.heap.size w w' := by
  have HL := Lib.hid (fun k W => rcoord_lo b k W)
  have HH := Lib.hid (fun k W => rcoord_hi b k W)
  have HN := Lib.hid (fun k hk => bxOk_no (b := b) (k := k) hk)
  have HY := Lib.hid (bxOk_yes (b := b))
  have HX : Hid (∀ k, axB3 b k = (ax b.lo k ≤ ax b.hi k ∧ -1048576 ≤ ax b.lo k ∧ ax b.hi k ≤ 1048576)) := fun _ => rfl
  generalize bxOk b = ok at *
  go_enter Tryz.func62, Tryz.ntmps62
  go_wp2
  go_loopw [3] (fun i wr => ∃ k : Nat, k ≤ 3 ∧ i = .int .i64 k ∧ Below w.heap.size w wr ∧ BlkIs wr w.heap.size 36 (bxCellsA b) ∧ Hid (∀ j, j < k → axB3 b j)) (fun i _ => 3 - (intOf i).toNat)
  case atStart => exact ⟨0, by omega, rfl, below_new _ _, BlkIs.new _ _ _, fun j hj => by omega⟩
  case round =>
    obtain ⟨k, hk, rfl, hB, hX, hA⟩ := hrel
    by_cases hk2 : k < 3
    · have HB := Lib.hid hB
      have HXB := Lib.hid hX
      have HLK := Lib.hid (HL.out k)
      have HHK := Lib.hid (HH.out k)
      have HNK := Lib.hid (HN.out k hk2)
      have HXK := Lib.hid (HX.out k)
      have c0 : ∀ d os, (Go.Sort.grow (redrawn wr d) os).cell? ⟨w.heap.size, 0, none⟩ = some (.int .i64 b.lo.x) := fun d os => cell_regrown (HXB.out.cell 0) d os
      have c1 : ∀ d os, (Go.Sort.grow (redrawn wr d) os).cell? ⟨w.heap.size, 1, none⟩ = some (.int .i64 b.lo.y) := fun d os => cell_regrown (HXB.out.cell 1) d os
      have c2 : ∀ d os, (Go.Sort.grow (redrawn wr d) os).cell? ⟨w.heap.size, 2, none⟩ = some (.int .i64 b.lo.z) := fun d os => cell_regrown (HXB.out.cell 2) d os
      have c3 : ∀ d os, (Go.Sort.grow (redrawn wr d) os).cell? ⟨w.heap.size, 3, none⟩ = some (.int .i64 b.hi.x) := fun d os => cell_regrown (HXB.out.cell 3) d os
      have c4 : ∀ d os, (Go.Sort.grow (redrawn wr d) os).cell? ⟨w.heap.size, 4, none⟩ = some (.int .i64 b.hi.y) := fun d os => cell_regrown (HXB.out.cell 4) d os
      have c5 : ∀ d os, (Go.Sort.grow (redrawn wr d) os).cell? ⟨w.heap.size, 5, none⟩ = some (.int .i64 b.hi.z) := fun d os => cell_regrown (HXB.out.cell 5) d os
      generalize hlo : ax b.lo k = lo at *
      generalize hhi : ax b.hi k = hi at *
      have HI1 := Lib.hid (fun q h W => rislen_to lo q h W)
      have HI2 := Lib.hid (fun q h W => rislen_to hi q h W)
      clear hB hX hlo hhi HL HH HN HX
      go_upto_region 4 with fail
      have g1 : ∀ W, Calls Tryz.prog 101 #[.int .i64 lo] W fun e w' => e = .returned (.bool (decide (-1048576 ≤ lo ∧ lo ≤ 1048576))) ∧ Below W.heap.size W w' := fun W => (rislen_any lo W).mono fun e w' h => ⟨h.1, by rw [h.2]; exact Below.refl _ _⟩
      have g2 : ∀ W, Calls Tryz.prog 101 #[.int .i64 hi] W fun e w' => e = .returned (.bool (decide (-1048576 ≤ hi ∧ hi ≤ 1048576))) ∧ Below W.heap.size W w' := fun W => (rislen_any hi W).mono fun e w' h => ⟨h.1, by rw [h.2]; exact Below.refl _ _⟩
      clear HI1 HI2
      by_cases h1 : -1048576 ≤ lo ∧ lo ≤ 1048576
      · rw [dec_yes h1] at g1
        by_cases h2 : -1048576 ≤ hi ∧ hi ≤ 1048576
        · rw [dec_yes h2] at g2
          have HJ1 := Lib.hid g1
          have HJ2 := Lib.hid g2
          clear g1 g2
          by_cases h3 : hi < lo
          · have HF := Lib.hid (HNK.out (by rw [HXK.out]; omega))
            have d3 : decide (hi < lo) = true := dec_yes h3
            refine wp_region_quiet_below (by kernel_rfl) (by kernel_rfl) ?_
            repeat (go_big_quiet_step ((first
              | (go_at_call 102; with_reducible exact Calls.regrown_of (HLK.out _))
              | (go_at_call 102; with_reducible exact Calls.regrown_of (HHK.out _))
              | (go_at_call 101; with_reducible exact Calls.regrown_of (HJ1.out _))
              | (go_at_call 101; with_reducible exact Calls.regrown_of (HJ2.out _)))))
            refine wpQuiet_nil ?_
            intro _ hw'
            obtain ⟨⟨nq, osq⟩, hw''⟩ := hw'
            subst hw''
            have HBZ := Lib.hid (bstep HB.out (below_regrown wr nq osq))
            go_wp2
            go_ret
            exact ⟨ret_bool HF.out.symm, HBZ.out⟩
          · have HT := Lib.hid (show axB3 b k by rw [HXK.out]; omega)
            have d3 : decide (hi < lo) = false := dec_no h3
            refine wp_region_quiet_below (by kernel_rfl) (by kernel_rfl) ?_
            repeat (go_big_quiet_step ((first
              | (go_at_call 102; with_reducible exact Calls.regrown_of (HLK.out _))
              | (go_at_call 102; with_reducible exact Calls.regrown_of (HHK.out _))
              | (go_at_call 101; with_reducible exact Calls.regrown_of (HJ1.out _))
              | (go_at_call 101; with_reducible exact Calls.regrown_of (HJ2.out _)))))
            refine wpQuiet_nil ?_
            intro _ hw'
            obtain ⟨⟨nq, osq⟩, hw''⟩ := hw'
            subst hw''
            have HBZ := Lib.hid (bstep HB.out (below_regrown wr nq osq))
            have HXZ := Lib.hid (HXB.out.below (below_regrown wr nq osq))
            go_wp2
            go_roundw
            case rel => exact ⟨k + 1, by omega, by go_num, HBZ.out, HXZ.out, fun j hj => by
              by_cases e : j = k
              · rw [e]; exact HT.out
              · exact hA.out j (by omega)⟩
            case measure => simp [intOf]; omega
        · rw [dec_no h2] at g2
          have HJ1 := Lib.hid g1
          have HJ2 := Lib.hid g2
          clear g1 g2
          have HF := Lib.hid (HNK.out (by rw [HXK.out]; omega))
          refine wp_region_quiet_below (by kernel_rfl) (by kernel_rfl) ?_
          repeat (go_big_quiet_step ((first
            | (go_at_call 102; with_reducible exact Calls.regrown_of (HLK.out _))
            | (go_at_call 102; with_reducible exact Calls.regrown_of (HHK.out _))
            | (go_at_call 101; with_reducible exact Calls.regrown_of (HJ1.out _))
            | (go_at_call 101; with_reducible exact Calls.regrown_of (HJ2.out _)))))
          refine wpQuiet_nil ?_
          intro _ hw'
          obtain ⟨⟨nq, osq⟩, hw''⟩ := hw'
          subst hw''
          have HBZ := Lib.hid (bstep HB.out (below_regrown wr nq osq))
          go_wp2
          go_ret
          exact ⟨ret_bool HF.out.symm, HBZ.out⟩
      · rw [dec_no h1] at g1
        have HJ1 := Lib.hid g1
        have HJ2 := Lib.hid g2
        clear g1 g2
        have HF := Lib.hid (HNK.out (by rw [HXK.out]; omega))
        refine wp_region_quiet_below (by kernel_rfl) (by kernel_rfl) ?_
        repeat (go_big_quiet_step ((first
          | (go_at_call 102; with_reducible exact Calls.regrown_of (HLK.out _))
          | (go_at_call 102; with_reducible exact Calls.regrown_of (HHK.out _))
          | (go_at_call 101; with_reducible exact Calls.regrown_of (HJ1.out _))
          | (go_at_call 101; with_reducible exact Calls.regrown_of (HJ2.out _)))))
        refine wpQuiet_nil ?_
        intro _ hw'
        obtain ⟨⟨nq, osq⟩, hw''⟩ := hw'
        subst hw''
        have HBZ := Lib.hid (bstep HB.out (below_regrown wr nq osq))
        go_wp2
        go_ret
        exact ⟨ret_bool HF.out.symm, HBZ.out⟩
    · have HT := Lib.hid (HY.out (fun j hj => hA.out j (by omega)))
      go_wp2
      go_ret
      exact ⟨ret_bool HT.out.symm, hB⟩
end
end Go.Proofs.YtnlloecbjohfdaaGreat
