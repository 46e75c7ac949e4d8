/-
  The walk of SequenceOrders (printed by wip/gen_Sqz.py).
-/
import Derived.Test.YthmlejijfgbfbaaGreatSqa
import Derived.Test.YthmlejijfgbfbaaGreatSqy
namespace Go.Proofs.YthmlejijfgbfbaaGreat
section
open Go.RowKit
set_option linter.unusedVariables false
set_option linter.unusedSimpArgs false
attribute [local go_sem ↓] Go.wp_at_zero Go.wp_at_succ

theorem sqOrd_len {w : World} {v vr : Value} {l : List BarD} {rs : List RunD} (hA : SqA w v vr l rs) {X : List Int} : (sqOrd (sqC l rs X) (lgsOf l rs).length (sqEs l rs X)).2.length ≤ 1000000 := by
  unfold sqOrd
  by_cases hc : sqC l rs X = 0
  · rw [if_pos hc]
    have h14 := hA.h14 (sqC_zero hc).1
    cases ho : orderOf (lgsOf l rs).length (sqEs l rs X) with
    | none => simp
    | some D =>
      have := (ordTo_ok _ D ho).1
      simp only
      omega
  · rw [if_neg hc]; simp
theorem sqLop_len {w : World} {v vr : Value} {l : List BarD} {rs : List RunD} (hA : SqA w v vr l rs) {X : List Int} : (sqLop (sqC l rs X) (lgsOf l rs).length (sqEs l rs X)).2.length ≤ 1000000 := by
  unfold sqLop
  by_cases hc : sqC l rs X = 0
  · rw [if_pos hc]
    have h14 := hA.h14 (sqC_zero hc).1
    cases ho : loopOf (lgsOf l rs).length (sqEs l rs X) with
    | none => simp
    | some D =>
      have h := loop_some (edN_ends _ _ _ _) (all_far _ _) _ (Nat.le_refl _) D ho
      have := nodup_len_le _ D h.nodup h.lt
      simp only
      omega
  · rw [if_neg hc]; simp
theorem sqLay_len {w : World} {v vr : Value} {l : List BarD} {rs : List RunD} (hA : SqA w v vr l rs) {X : List Int} : (sqLay (sqC l rs X) (lgsOf l rs).length (sqEs l rs X)).2.length ≤ 1000000 := by
  unfold sqLay
  by_cases hc : sqC l rs X = 0
  · rw [if_pos hc]
    have h14 := hA.h14 (sqC_zero hc).1
    cases ho : orderOf (lgsOf l rs).length (sqEs l rs X) with
    | none => simp
    | some D =>
      simp only
      rw [layT_len]
      omega
  · rw [if_neg hc]; simp
set_option maxRecDepth 100000 in
set_option maxHeartbeats 8000000 in
theorem sequenceOrders_walk (w : World) (v : Value) (l : List BarD) (hp : Bars w v l) (hf : FitB l) (hl : l.length * 64 ≤ 140737488351232) (vr : Value) (rs : List RunD) (hr : Runs w vr rs) (hm : ∀ r ∈ rs, r.mark.size ≤ maxLen) (hlr : rs.length * 88 ≤ 140737488351232)
    (xv : Value) (X : List Int) (hx : Ints w xv X) (hlx : X.length * 8 ≤ 140737488351232) (wx : ∀ x ∈ X, (Lit.int .i64 x).wf = true) :
    Calls Tryz.prog 3 #[v, vr, xv] w fun en w' => en = .returned (.bool true) ∧ Below w.heap.size w w' := by
  have hl2 : l.length ≤ 140737488355328 := by omega
  have hlr2 : rs.length ≤ 140737488355328 := by omega
  have HP := Lib.hid hp
  have HR := Lib.hid hr
  have HFI := Lib.hid hf
  have HX := Lib.hid hx
  obtain ⟨xo, xc, rfl⟩ := Sl.at_ hx
  have HSM := Lib.hid (fun W (hW : Below w.heap.size w W) => ssmall_any v vr l rs W (hp.below hW) (hr.below hW) hl2 hlr2)
  clear hp hr hf hl hlr hm wx hx
  by_cases h70 : 70 < X.length
  · have d1 : decide ((70 : Int) < (X.length : Int)) = true := dec_yes (by omega)
    have d2 : decide (70 < X.length) = true := dec_yes h70
    go_enter Tryz.func3, Tryz.ntmps3
    go_wp2_with fail
    refine (sawake_any _).mono ?_
    rintro en w1 ⟨rfl, hb1⟩
    have HW1 := Lib.hid hb1
    clear hb1
    go_wp2_with fail
    refine (HSM.out _ HW1.out).mono ?_
    rintro en w2 ⟨b, rfl, hb2, hq2⟩
    have HW2 := Lib.hid (bstep HW1.out hb2)
    have HQ2 := Lib.hid hq2
    clear hb2 hq2 HW1 HSM
    cases b
    all_goals
      go_wp2
      go_ret
      exact ⟨rfl, HW2.out⟩
  · have d1 : decide ((70 : Int) < (X.length : Int)) = false := dec_no (by omega)
    have d2 : decide (70 < X.length) = false := dec_no h70
    go_enter Tryz.func3, Tryz.ntmps3
    go_wp2_with fail
    refine (sawake_any _).mono ?_
    rintro en w1 ⟨rfl, hb1⟩
    have HW1 := Lib.hid hb1
    clear hb1
    go_wp2_with fail
    refine (HSM.out _ HW1.out).mono ?_
    rintro en w2 ⟨b, rfl, hb2, hq2⟩
    have HW2 := Lib.hid (bstep HW1.out hb2)
    have HQ2 := Lib.hid hq2
    clear hb2 hq2 HW1 HSM
    cases b
    · go_wp2
      go_ret
      exact ⟨rfl, HW2.out⟩
    · have HA : Hid (SqA w v vr l rs) := ⟨HP.out, HR.out, hl2, hlr2, HFI.out, fun hok => fewN hok (HQ2.out (by simp))⟩
      have hx6 : X.length ≤ 1000000 := by omega
      have hx5 : X.length ≤ 140737488355328 := by omega
      have G1 := Lib.hid (fun W (hW : Below w.heap.size w W) => sorder_any v vr (.slice xo X.length xc) X l rs W (HA.out.below hW) (HX.out.below hW) hx5)
      have G2 := Lib.hid (fun W (hW : Below w.heap.size w W) => sloop_any v vr (.slice xo X.length xc) X l rs W (HA.out.below hW) (HX.out.below hW) hx5)
      have G3 := Lib.hid (fun W (hW : Below w.heap.size w W) => slayers_any v vr (.slice xo X.length xc) X l rs W (HA.out.below hW) (HX.out.below hW) hx5)
      have G4 := Lib.hid (fun W (hW : Below w.heap.size w W) => rord39_any v vr (.slice xo X.length xc) X l rs W (HA.out.below hW) (HX.out.below hW) hx6)
      have G5 := Lib.hid (fun W (hW : Below w.heap.size w W) => rloop39_any v vr (.slice xo X.length xc) X l rs W (HA.out.below hW) (HX.out.below hW) hx6)
      have G6 := Lib.hid (fun W (hW : Below w.heap.size w W) => rlay39_any v vr (.slice xo X.length xc) X l rs W (HA.out.below hW) (HX.out.below hW) hx6)
      have L1 : Hid ((sqOrd (sqC l rs X) (lgsOf l rs).length (sqEs l rs X)).2.length ≤ 1000000) := sqOrd_len HA.out
      have L2 : Hid ((sqLop (sqC l rs X) (lgsOf l rs).length (sqEs l rs X)).2.length ≤ 1000000) := sqLop_len HA.out
      have L3 : Hid ((sqLay (sqC l rs X) (lgsOf l rs).length (sqEs l rs X)).2.length ≤ 1000000) := sqLay_len HA.out
      unfold LPost at G1 G2 G4 G5
      unfold LPostI at G3 G6
      generalize sqOrd (sqC l rs X) (lgsOf l rs).length (sqEs l rs X) = R1 at *
      generalize sqLop (sqC l rs X) (lgsOf l rs).length (sqEs l rs X) = R2 at *
      generalize sqLay (sqC l rs X) (lgsOf l rs).length (sqEs l rs X) = R3 at *
      obtain ⟨c1, D1⟩ := R1
      obtain ⟨c2, D2⟩ := R2
      obtain ⟨c3, D3⟩ := R3
      simp only at G1 G2 G3 G4 G5 G6 L1 L2 L3
      go_wp2_with fail
      refine (G1.out _ HW2.out).mono ?_
      rintro en w3 ⟨o1, rfl, ho, hb⟩
      have HW3 := Lib.hid (bstep HW2.out hb)
      have So1_3 := Lib.hid (ho.sl : Nats w3 o1 D1)
      clear ho hb HW2 G1 
      go_wp2_with fail
      refine (G2.out _ HW3.out).mono ?_
      rintro en w4 ⟨o2, rfl, ho, hb⟩
      have HW4 := Lib.hid (bstep HW3.out hb)
      have So1_4 := Lib.hid (So1_3.out.below hb)
      have So2_4 := Lib.hid (ho.sl : Nats w4 o2 D2)
      clear ho hb HW3 G2 So1_3
      go_wp2_with fail
      refine (G3.out _ HW4.out).mono ?_
      rintro en w5 ⟨o3, rfl, ho, hb⟩
      have HW5 := Lib.hid (bstep HW4.out hb)
      have So1_5 := Lib.hid (So1_4.out.below hb)
      have So2_5 := Lib.hid (So2_4.out.below hb)
      have So3_5 := Lib.hid (ho.sl : Ints w5 o3 D3)
      clear ho hb HW4 G3 So1_4 So2_4
      go_wp2_with fail
      refine (G4.out _ HW5.out).mono ?_
      rintro en w6 ⟨o4, rfl, ho, hb⟩
      have HW6 := Lib.hid (bstep HW5.out hb)
      have So1_6 := Lib.hid (So1_5.out.below hb)
      have So2_6 := Lib.hid (So2_5.out.below hb)
      have So3_6 := Lib.hid (So3_5.out.below hb)
      have So4_6 := Lib.hid (ho.sl : Nats w6 o4 D1)
      clear ho hb HW5 G4 So1_5 So2_5 So3_5
      go_wp2_with fail
      refine (G5.out _ HW6.out).mono ?_
      rintro en w7 ⟨o5, rfl, ho, hb⟩
      have HW7 := Lib.hid (bstep HW6.out hb)
      have So1_7 := Lib.hid (So1_6.out.below hb)
      have So2_7 := Lib.hid (So2_6.out.below hb)
      have So3_7 := Lib.hid (So3_6.out.below hb)
      have So4_7 := Lib.hid (So4_6.out.below hb)
      have So5_7 := Lib.hid (ho.sl : Nats w7 o5 D2)
      clear ho hb HW6 G5 So1_6 So2_6 So3_6 So4_6
      go_wp2_with fail
      refine (G6.out _ HW7.out).mono ?_
      rintro en w8 ⟨o6, rfl, ho, hb⟩
      have HW8 := Lib.hid (bstep HW7.out hb)
      have So1_8 := Lib.hid (So1_7.out.below hb)
      have So2_8 := Lib.hid (So2_7.out.below hb)
      have So3_8 := Lib.hid (So3_7.out.below hb)
      have So4_8 := Lib.hid (So4_7.out.below hb)
      have So5_8 := Lib.hid (So5_7.out.below hb)
      have So6_8 := Lib.hid (ho.sl : Ints w8 o6 D3)
      clear ho hb HW7 G6 So1_7 So2_7 So3_7 So4_7 So5_7
      have E8 := Lib.hid (equalN_any o1 o4 D1 D1 w8 So1_8.out So4_8.out (by have := L1.out; omega) (by have := L1.out; omega))
      rw [dec_yes rfl] at E8
      go_wp2_with fail
      refine E8.out.mono ?_
      rintro en w9 ⟨rfl, hb⟩
      have HW9 := Lib.hid (bstep HW8.out hb)
      have So2_9 := Lib.hid (So2_8.out.below hb)
      have So3_9 := Lib.hid (So3_8.out.below hb)
      have So5_9 := Lib.hid (So5_8.out.below hb)
      have So6_9 := Lib.hid (So6_8.out.below hb)
      clear hb E8 HW8
      have E9 := Lib.hid (equalN_any o2 o5 D2 D2 w9 So2_9.out So5_9.out (by have := L2.out; omega) (by have := L2.out; omega))
      rw [dec_yes rfl] at E9
      go_wp2_with fail
      refine E9.out.mono ?_
      rintro en w10 ⟨rfl, hb⟩
      have HW10 := Lib.hid (bstep HW9.out hb)
      have So3_10 := Lib.hid (So3_9.out.below hb)
      have So6_10 := Lib.hid (So6_9.out.below hb)
      clear hb E9 HW9
      have E10 := Lib.hid (equal_any o3 o6 D3 D3 w10 So3_10.out So6_10.out (by have := L3.out; omega) (by have := L3.out; omega))
      rw [dec_yes rfl] at E10
      go_wp2_with fail
      refine E10.out.mono ?_
      rintro en w11 ⟨rfl, hb⟩
      have HW11 := Lib.hid (bstep HW10.out hb)
      clear hb E10 HW10
      go_wp2
      go_ret
      exact ⟨rfl, HW11.out⟩
end
end Go.Proofs.YthmlejijfgbfbaaGreat
