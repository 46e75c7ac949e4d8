/-
  The walk of BlockTurned.
-/
import Derived.Test.YtnlloecbjohfdaaBkI
namespace Go.Proofs.Ytnlloecbjohfdaa
open Go.RowKit
set_option linter.unusedVariables false
set_option linter.unusedSimpArgs false

theorem blkR_turn {L : List (List Bx)} {Z : List Int} (h : LzOk L Z) (i k x : Int) : blkR L Z k i (-x) = blkR L Z i k x := by
  unfold blkR
  rw [pairE_turn]
  by_cases hc : pairE L.length i k x = 0
  · obtain ⟨⟨i0, i1⟩, ⟨k0, k1⟩, hx, hne⟩ := pairE_zero hc
    have h1 := (h.legs i.toNat (by omega)).2.2
    have h2 := (h.legs k.toNat (by omega)).2.2
    rw [dec_yes hc]
    unfold blkAt
    rw [blk_turn h1 h2 hx, Int.add_comm (Z.getD k.toNat 0)]
  · rw [dec_no hc]; rfl

set_option maxRecDepth 100000 in
set_option maxHeartbeats 4000000 in
theorem blockTurned_walk (w : World) (v : Value) (l : List BarD) (hp : Bars w v l) (hf : FitB l) (hl : l.length * 64 ≤ 140737488351232) (vr : Value) (rs : List RunD) (hr : Runs w vr rs) (hm : ∀ r ∈ rs, r.mark.size ≤ maxLen) (hlr : rs.length * 88 ≤ 140737488351232)
    (i : Int) (wi : (Lit.int .i64 i).wf = true) (k : Int) (wk : (Lit.int .i64 k).wf = true) (x : Int) (wx : (Lit.int .i64 x).wf = true) :
    Calls Try.prog 3 #[v, vr, .int .i64 i, .int .i64 k, .int .i64 x] w fun e w' => e = .returned (.bool true) ∧ Below w.heap.size w w' := by
  have hl2 : l.length ≤ 140737488355328 := by omega
  have hlr2 : rs.length ≤ 140737488355328 := by omega
  have HFW := Lib.hid (fun W (hW : Below w.heap.size w W) => few_any v vr l rs W (hp.below hW) (hr.below hW) hl2 hlr2)
  have HP := Lib.hid hp
  have HR := Lib.hid hr
  have HFI := Lib.hid hf
  clear hp hr hf hl hlr hm wi wk wx
  obtain ⟨b1, c1, HB1, HB2⟩ : ∃ (b : Bool) (c : Int), Hid (∀ W (hW : Below w.heap.size w W), Calls Try.prog 12 #[v, vr, .int .i64 i, .int .i64 k, .int .i64 x] W fun e w' => e = .returned (.tuple #[.bool b, .int .i64 c]) ∧ Below W.heap.size W w') ∧
      Hid (∀ W (hW : Below w.heap.size w W), Calls Try.prog 12 #[v, vr, .int .i64 k, .int .i64 i, .int .i64 (-x)] W fun e w' => e = .returned (.tuple #[.bool b, .int .i64 c]) ∧ Below W.heap.size W w') := by
    cases hok : laidOk l rs with
    | false => exact ⟨false, 1, fun W hW => blocksI_bad v vr i k x l rs W (HP.out.below hW) (HR.out.below hW) hl2 hlr2 HFI.out hok, fun W hW => blocksI_bad v vr k i (-x) l rs W (HP.out.below hW) (HR.out.below hW) hl2 hlr2 HFI.out hok⟩
    | true =>
      have h := lzOk_of hok
      refine ⟨blkR (lgsOf l rs) (szsOf l rs) i k x, pairE (lgsOf l rs).length i k x, fun W hW => blocksI_good v vr i k x l rs W (HP.out.below hW) (HR.out.below hW) hl2 hlr2 HFI.out hok, fun W hW => ?_⟩
      have := blocksI_good v vr k i (-x) l rs W (HP.out.below hW) (HR.out.below hW) hl2 hlr2 HFI.out hok
      rw [blkR_turn h, pairE_turn] at this
      exact this
  have hbb : (b1 == b1) = true := by simp
  go_enter Try.func3, Try.ntmps3
  go_wp2_with fail
  refine (bawake_any _).mono ?_
  rintro e w1 ⟨rfl, hb1⟩
  have HW1 := Lib.hid hb1
  clear hb1
  go_wp2_with fail
  refine (HFW.out _ HW1.out).mono ?_
  rintro e w2 ⟨q, rfl, hb2, hq⟩
  have HW2 := Lib.hid (bstep HW1.out hb2)
  clear hb2 hq
  cases q
  · go_wp2
    go_ret
    exact ⟨rfl, HW2.out⟩
  · by_cases h1 : x < -3
    · have d1 : decide (x < -3) = true := dec_yes h1
      go_wp2
      go_ret
      exact ⟨rfl, HW2.out⟩
    · have d1 : decide (x < -3) = false := dec_no h1
      by_cases h2 : 3 < x
      · have d2 : decide (3 < x) = true := dec_yes h2
        go_wp2
        go_ret
        exact ⟨rfl, HW2.out⟩
      · have d2 : decide (3 < x) = false := dec_no h2
        go_wp2_with fail
        refine (HB1.out _ HW2.out).mono ?_
        rintro e w3 ⟨rfl, hb3⟩
        have HW3 := Lib.hid (bstep HW2.out hb3)
        clear hb3
        go_wp2_with fail
        refine (HB2.out _ HW3.out).mono ?_
        rintro e w4 ⟨rfl, hb4⟩
        have HW4 := Lib.hid (bstep HW3.out hb4)
        clear hb4
        go_wp2
        go_ret
        exact ⟨rfl, HW4.out⟩
end Go.Proofs.Ytnlloecbjohfdaa
