/-
  The reference of ways: Axis, Axes, Way, Near.
-/
import Derived.Test.YtnlloecbjohfdaaGreatRnc
import Derived.Test.YtnlloecbjohfdaaGreatBkb
namespace Go.Proofs.YtnlloecbjohfdaaGreat
section
open Go.RowKit
set_option linter.unusedVariables false
set_option linter.unusedSimpArgs false
attribute [local go_sem ↓] Go.wp_at_zero Go.wp_at_succ

set_option maxRecDepth 100000 in
theorem raxes_any (w : World) : Calls Tryz.prog 94 #[] w fun e w' => e = .returned (.slice (some ⟨w.heap.size, 0, none⟩) 6 6) ∧ Ints w' (.slice (some ⟨w.heap.size, 0, none⟩) 6 6) axesL ∧ Below w.heap.size w w' := by
  go_enter Tryz.func94, Tryz.ntmps94
  go_wp2
  go_ret
  refine ⟨rfl, ⟨some ⟨w.heap.size, 0, none⟩, 6, rfl, fun _ => ⟨w.heap.size, 0, rfl, by simp, fun k x hk => ?_⟩⟩, by go_grown⟩
  have h := BlkIs.new w #[.int .i64 1, .int .i64 2, .int .i64 3, .int .i64 (-1), .int .i64 (-2), .int .i64 (-3)] 3
  rw [Nat.zero_add, h.cell k]
  match k, hk with
  | 0, hk => cases hk; rfl
  | 1, hk => cases hk; rfl
  | 2, hk => cases hk; rfl
  | 3, hk => cases hk; rfl
  | 4, hk => cases hk; rfl
  | 5, hk => cases hk; rfl
theorem raxis38_any (x : Int) (w : World) : Calls Tryz.prog 14 #[.int .i64 x] w fun e w' => e = .returned (.bool (axB x)) ∧ w' = w := by
  by_cases h0 : x = 0
  · subst h0
    have HE : Hid (axB 0 = false) := rfl
    rw [HE.out]
    go_enter Tryz.func14, Tryz.ntmps14
    go_wp2
    go_ret
    exact ⟨rfl, rfl⟩
  · by_cases h1 : -3 ≤ x
    · by_cases h2 : x ≤ 3
      · have HE : Hid (axB x = true) := by unfold Hid axB; exact dec_yes (by omega)
        rw [HE.out]
        go_enter Tryz.func14, Tryz.ntmps14
        go_wp2
        go_ret
        exact ⟨ret_bool (bne_yes h0), rfl⟩
      · have HE : Hid (axB x = false) := by unfold Hid axB; exact dec_no (by omega)
        rw [HE.out]
        go_enter Tryz.func14, Tryz.ntmps14
        go_wp2
        go_ret
        exact ⟨rfl, rfl⟩
    · have HE : Hid (axB x = false) := by unfold Hid axB; exact dec_no (by omega)
      rw [HE.out]
      go_enter Tryz.func14, Tryz.ntmps14
      go_wp2
      go_ret
      exact ⟨rfl, rfl⟩
set_option maxHeartbeats 1000000 in
theorem rnear38_any (a b : Bx) (d e : Int) (w : World) (ha : bxOk a = true) (hb : bxOk b = true) (hd : 0 ≤ d ∧ d ≤ 10000) (he : 0 ≤ e ∧ e ≤ 10000) :
    Calls Tryz.prog 69 #[bxv a, bxv b, .int .i64 d, .int .i64 e] w fun en w' => en = .returned (.bool (tooNear ((d + e) * (d + e)) a b)) ∧ Below w.heap.size w w' := by
  have HS := Lib.hid (fun W => rsquare_any a b W ha hb)
  obtain ⟨s0, s1⟩ := sqN_bd ha hb 3 (by omega)
  obtain ⟨q0, q1⟩ := sq_bd (n := d + e) (by omega) (by omega)
  have hw : IntKind.i64.wrap (d + e) = d + e := IntWalk.i64_in _ (by omega)
  have HT : Hid (tooNear ((d + e) * (d + e)) a b = decide (4 * sqN a b 3 < (d + e) * (d + e))) := rfl
  generalize tooNear ((d + e) * (d + e)) a b = q at *
  generalize sqN a b 3 = s at *
  obtain ⟨t, ht⟩ : ∃ t, d + e = t := ⟨_, rfl⟩
  rw [ht] at hw HT q0 q1
  obtain ⟨m, hm⟩ : ∃ m, t * t = m := ⟨_, rfl⟩
  rw [hm] at HT q0 q1
  have hw2 : IntKind.i64.wrap m = m := IntWalk.i64_in _ (by omega)
  have hw4 : IntKind.i64.wrap (4 * s) = 4 * s := IntWalk.i64_in _ (by omega)
  clear ha hb
  go_enter Tryz.func69, Tryz.ntmps69
  go_wp2_with fail
  refine (HS.out _).mono ?_
  rintro en w1 ⟨rfl, hb1⟩
  have HB1 := Lib.hid (bstep (by go_grown) hb1 : Below w.heap.size w w1)
  clear hb1
  by_cases hlt : 4 * s < m
  all_goals
    go_wp2
    go_ret
    exact ⟨ret_bool (by first | exact HT.out.symm | exact (HT.out.trans (dec_yes hlt)).symm | exact (HT.out.trans (dec_no hlt)).symm), HB1.out⟩
end
end Go.Proofs.YtnlloecbjohfdaaGreat
