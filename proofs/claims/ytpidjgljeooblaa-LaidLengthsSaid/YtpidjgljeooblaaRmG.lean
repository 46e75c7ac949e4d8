/-
  The reference's runs that are right are the program's (written by wip/gen_RmG.py).
-/
import Derived.Test.YtpidjgljeooblaaRmF
import Derived.Test.YtpidjgljeooblaaScD
import Derived.Test.YtpidjgljeooblaaQbl
namespace Go.Proofs.Ytpidjgljeooblaa
open Go.RowKit
set_option linter.unusedVariables false
set_option linter.unusedSimpArgs false
attribute [local go_sem ↓] Go.wp_at_zero Go.wp_at_succ

theorem chk_rpts (b : BarD) (r : RunD) (m : Nat) : (rptsOf b r (kOf r.count m)).all (ptIn 1048576) = chkB (turnedOf b r) r m := by
  rw [rpts_eq, List.all_map]; rfl
def RunW (w W : World) (r : RunD) : Prop := Below w.heap.size w W ∧ BlkIs W w.heap.size 60 (runCellsA r)
abbrev RunS (g b o : Nat) (r : RunD) (x : BarD) (dv : Value) (W : World) : Prop :=
  W.cell? ⟨b, o, none⟩ = some (.string x.mark) ∧ W.cell? ⟨b, o + 1, none⟩ = some (.int .i64 x.size) ∧ W.cell? ⟨b, o + 2, none⟩ = some (.int .i64 x.count) ∧ W.cell? ⟨b, o + 3, none⟩ = some (.int .i64 x.code) ∧ W.cell? ⟨b, o + 4, none⟩ = some dv ∧
  W.cell? ⟨g, 0, none⟩ = some (.string r.mark) ∧ W.cell? ⟨g, 1, none⟩ = some (.int .i64 r.tx) ∧ W.cell? ⟨g, 2, none⟩ = some (.int .i64 r.ty) ∧ W.cell? ⟨g, 3, none⟩ = some (.int .i64 r.at_.x) ∧ W.cell? ⟨g, 4, none⟩ = some (.int .i64 r.at_.y) ∧ W.cell? ⟨g, 5, none⟩ = some (.int .i64 r.at_.z) ∧
  W.cell? ⟨g, 6, none⟩ = some (.int .i64 r.step.x) ∧ W.cell? ⟨g, 7, none⟩ = some (.int .i64 r.step.y) ∧ W.cell? ⟨g, 8, none⟩ = some (.int .i64 r.step.z) ∧ W.cell? ⟨g, 9, none⟩ = some (.int .i64 r.count)
def Bar5 (w : World) (b o : Nat) (x : BarD) (dv : Value) : Prop := b < w.heap.size ∧ w.cell? ⟨b, o, none⟩ = some (.string x.mark) ∧ w.cell? ⟨b, o + 1, none⟩ = some (.int .i64 x.size) ∧ w.cell? ⟨b, o + 2, none⟩ = some (.int .i64 x.count) ∧ w.cell? ⟨b, o + 3, none⟩ = some (.int .i64 x.code) ∧ w.cell? ⟨b, o + 4, none⟩ = some dv
section
variable {w W W' : World} {r : RunD} {b o : Nat} {x : BarD} {dv : Value}
theorem RunW.below (h : RunW w W r) : Below w.heap.size w W := h.1
theorem RunW.after (h : RunW w W r) (hb : Below W.heap.size W W') : RunW w W' r := ⟨bstep h.1 hb, h.2.below hb⟩
theorem RunW.drew (h : RunW w W r) : RunW w W.drew r := ⟨h.1.drew, h.2⟩
theorem RunW.s (h : RunW w W r) (h5 : Bar5 w b o x dv) : RunS w.heap.size b o r x dv W := by
  obtain ⟨hb, a0, a1, a2, a3, a4⟩ := h5
  exact ⟨(h.1.cell hb).trans a0, (h.1.cell hb).trans a1, (h.1.cell hb).trans a2, (h.1.cell hb).trans a3, (h.1.cell hb).trans a4, h.2.cell 0, h.2.cell 1, h.2.cell 2, h.2.cell 3, h.2.cell 4, h.2.cell 5, h.2.cell 6, h.2.cell 7, h.2.cell 8, h.2.cell 9⟩
end

set_option maxRecDepth 100000 in
set_option maxHeartbeats 4000000 in
theorem rrun_any (v : Value) (l : List BarD) (r : RunD) (w : World) (hp : Bars w v l) (hl : l.length ≤ 140737488355328) (hs : schedOk l = true) :
    Calls Try.prog 44 #[v, runv r] w fun e w' => e = .returned (.bool (rightB l r)) ∧ Below w.heap.size w w' := by
  obtain ⟨ao, cap, rfl⟩ := hp.at_
  have HP := Lib.hid hp
  have HIX := Lib.hid (fun W (hW : Below w.heap.size w W) => rfind_any (.slice ao l.length cap) l r.mark W (HP.out.below hW) hl)
  cases hln : lineOf l r.mark with
  | none =>
    rw [lineOf_none hln] at HIX
    have HF := Lib.hid (rightB_none hln)
    generalize rightB l r = ok at *
    clear hp hs hln
    go_enter Try.func44, Try.ntmps44
    go_wp2_with fail
    refine (HIX.out _ (by go_grown)).mono ?_
    rintro e w1 ⟨rfl, rfl⟩
    go_wp2
    go_ret
    exact ⟨ret_bool HF.out.symm, by go_grown⟩
  | some b =>
    obtain ⟨i, hi1, hi2, hi3⟩ := lineOf_some hln
    rw [hi1] at HIX
    have hok := (sched_line hs hi2).1
    have HO := Lib.hid (rightB_some hln)
    have HT := Lib.hid (fun W => rturn_any r.tx r.ty W)
    have HQ := Lib.hid (fun W => near_any r.at_ W)
    have HQ2 := Lib.hid (fun W => twice_any r.step W)
    have HOK := Lib.hid hok
    have HC0 := Lib.hid (chk_rpts b r 0)
    have HC1 := Lib.hid (chk_rpts b r 1)
    have HSE := Lib.hid (fun W => run_eq_pt r.step ⟨0, 0, 0⟩ W)
    have HSB : Hid (stepB r = (decide (r.count ≤ 1) || (!decide (r.step = ⟨0, 0, 0⟩) && ptIn 2097152 r.step))) := rfl
    obtain ⟨bb, boff, rfl, hbl, q0, q1, q2, q3, uo, uc, q4, hdx⟩ := bars_get hp hi2
    have H5 : Hid (Bar5 w bb (boff + i * 5) b (.slice uo b.dims.length uc)) := ⟨hbl, q0, q1, q2, q3, q4⟩
    have HPT := Lib.hid (fun (ht : turnB r.tx r.ty = true) (ha : ptIn 1048576 r.at_ = true) (k : Int) (hk0 : 0 ≤ k) (hk1 : k ≤ 999) (hs : 0 < k → ptIn 2097152 r.step = true) (W : World) (hW : Below w.heap.size w W) =>
      rpoints_any b (.slice uo b.dims.length uc) r k W (Sl.below hdx hW) hok ht (ptIn_iff.1 ha) hk0 hk1 (fun h => ptIn_iff.1 (hs h)))
    have hil : i < l.length := (List.getElem?_eq_some_iff.1 hi2).1
    have i0 : ¬ (i : Int) < 0 := by omega
    have i1 : (0 : Int) ≤ (i : Int) := by omega
    have i2 : (i : Int) < (l.length : Int) := by omega
    clear hp hs hln hi1 hi2 hi3 hok hbl q0 q1 q2 q3 q4 hdx
    cases htb : turnB r.tx r.ty with
    | false =>
      have HF := Lib.hid (show rightB l r = false by rw [HO.out, htb]; rfl)
      go_enter Try.func44, Try.ntmps44
      go_wp2_with fail
      refine (HIX.out _ (by go_grown)).mono ?_
      rintro e w1 ⟨rfl, rfl⟩
      go_wp2_with fail
      refine (HT.out _).mono ?_
      rintro e w2 ⟨rfl, hb2⟩
      have HW2 : Hid (RunW w w2 r) := ⟨bstep (by go_grown) hb2, (BlkIs.new w _ _).below hb2⟩
      clear hb2
      rw [htb]
      have k3 := HW2.out.2.cell 3
      have k4 := HW2.out.2.cell 4
      have k5 := HW2.out.2.cell 5
      have k9 := HW2.out.2.cell 9
      go_wp2
      go_ret
      exact ⟨ret_bool HF.out.symm, HW2.out.1⟩
    | true =>
      by_cases hc1 : r.count < 1
      · have HF := Lib.hid (show rightB l r = false by rw [HO.out, dec_no (p := 1 ≤ r.count) (by omega)]; simp)
        go_enter Try.func44, Try.ntmps44
        go_wp2_with fail
        refine (HIX.out _ (by go_grown)).mono ?_
        rintro e w1 ⟨rfl, rfl⟩
        go_wp2_with fail
        refine (HT.out _).mono ?_
        rintro e w2 ⟨rfl, hb2⟩
        have HW2 : Hid (RunW w w2 r) := ⟨bstep (by go_grown) hb2, (BlkIs.new w _ _).below hb2⟩
        clear hb2
        rw [htb]
        have k3 := HW2.out.2.cell 3
        have k4 := HW2.out.2.cell 4
        have k5 := HW2.out.2.cell 5
        have k9 := HW2.out.2.cell 9
        go_wp2
        go_ret
        exact ⟨ret_bool HF.out.symm, HW2.out.1⟩
      · by_cases hc2 : 1000 < r.count
        · have HF := Lib.hid (show rightB l r = false by rw [HO.out, dec_no (p := r.count ≤ 1000) (by omega)]; simp)
          go_enter Try.func44, Try.ntmps44
          go_wp2_with fail
          refine (HIX.out _ (by go_grown)).mono ?_
          rintro e w1 ⟨rfl, rfl⟩
          go_wp2_with fail
          refine (HT.out _).mono ?_
          rintro e w2 ⟨rfl, hb2⟩
          have HW2 : Hid (RunW w w2 r) := ⟨bstep (by go_grown) hb2, (BlkIs.new w _ _).below hb2⟩
          clear hb2
          rw [htb]
          have k3 := HW2.out.2.cell 3
          have k4 := HW2.out.2.cell 4
          have k5 := HW2.out.2.cell 5
          have k9 := HW2.out.2.cell 9
          go_wp2
          go_ret
          exact ⟨ret_bool HF.out.symm, HW2.out.1⟩
        · cases hpa : ptIn 1048576 r.at_ with
          | false =>
            have HF := Lib.hid (show rightB l r = false by rw [HO.out, hpa]; simp)
            go_enter Try.func44, Try.ntmps44
            go_wp2_with fail
            refine (HIX.out _ (by go_grown)).mono ?_
            rintro e w1 ⟨rfl, rfl⟩
            go_wp2_with fail
            refine (HT.out _).mono ?_
            rintro e w2 ⟨rfl, hb2⟩
            have HW2 : Hid (RunW w w2 r) := ⟨bstep (by go_grown) hb2, (BlkIs.new w _ _).below hb2⟩
            clear hb2
            rw [htb]
            have k3 := HW2.out.2.cell 3
            have k4 := HW2.out.2.cell 4
            have k5 := HW2.out.2.cell 5
            have k9 := HW2.out.2.cell 9
            go_wp2_with fail
            refine (HQ.out _).mono ?_
            rintro e w3 ⟨rfl, hb3⟩
            have HW3 := Lib.hid (HW2.out.after hb3)
            clear hb3 k3 k4 k5 k9
            rw [hpa]
            have k6 := HW3.out.2.cell 6
            have k7 := HW3.out.2.cell 7
            have k8 := HW3.out.2.cell 8
            have k9 := HW3.out.2.cell 9
            go_wp2
            go_ret
            exact ⟨ret_bool HF.out.symm, HW3.out.1⟩
          | true =>
            have HE : Hid (rightB l r = (stepB r && (chkB (turnedOf b r) r 0 && chkB (turnedOf b r) r 1))) := by
              unfold Hid
              rw [HO.out, htb, hpa, dec_yes (p := 1 ≤ r.count) (by omega), dec_yes (p := r.count ≤ 1000) (by omega)]; simp
            have HP9 := Lib.hid (fun k => HPT.out htb hpa k)
            have HN : Hid ((rptsOf b r 0).length ≤ 7 ∧ (rptsOf b r (r.count - 1)).length ≤ 7) := ⟨by unfold rptsOf; rw [List.length_map]; exact path_len, by unfold rptsOf; rw [List.length_map]; exact path_len⟩
            have HL7 : Hid ((rptsOf b r 0).length ≤ 1099511627776) := by have := HN.out.1; unfold Hid; omega
            have HL71 : Hid ((rptsOf b r (r.count - 1)).length ≤ 1099511627776) := by have := HN.out.2; unfold Hid; omega
            have HP0 := Lib.hid (HP9.out 0 (by omega) (by omega) (fun h => by omega))
            clear HPT HO
            by_cases hc3 : 1 < r.count
            · by_cases hse : r.step = ⟨0, 0, 0⟩
              · have HF := Lib.hid (show rightB l r = false by rw [HE.out, HSB.out, dec_no (p := r.count ≤ 1) (by omega), dec_yes hse]; rfl)
                have hq : ∀ W, (Op.equalIn 10000 31 (.agg #[.int .i64 r.step.x, .int .i64 r.step.y, .int .i64 r.step.z]) (.agg #[.int .i64 0, .int .i64 0, .int .i64 0])).run Try.prog W = .ok true W := fun W => by rw [← dec_yes hse]; exact HSE.out W
                clear hse
                go_enter Try.func44, Try.ntmps44
                go_wp2_with fail
                refine (HIX.out _ (by go_grown)).mono ?_
                rintro e w1 ⟨rfl, rfl⟩
                go_wp2_with fail
                refine (HT.out _).mono ?_
                rintro e w2 ⟨rfl, hb2⟩
                have HW2 : Hid (RunW w w2 r) := ⟨bstep (by go_grown) hb2, (BlkIs.new w _ _).below hb2⟩
                clear hb2
                rw [htb]
                have k3 := HW2.out.2.cell 3
                have k4 := HW2.out.2.cell 4
                have k5 := HW2.out.2.cell 5
                have k9 := HW2.out.2.cell 9
                go_wp2_with fail
                refine (HQ.out _).mono ?_
                rintro e w3 ⟨rfl, hb3⟩
                have HW3 := Lib.hid (HW2.out.after hb3)
                clear hb3 k3 k4 k5 k9
                rw [hpa]
                have k6 := HW3.out.2.cell 6
                have k7 := HW3.out.2.cell 7
                have k8 := HW3.out.2.cell 8
                have k9 := HW3.out.2.cell 9
                go_wp2
                go_ret
                exact ⟨ret_bool HF.out.symm, HW3.out.1⟩
              · have hq : ∀ W, (Op.equalIn 10000 31 (.agg #[.int .i64 r.step.x, .int .i64 r.step.y, .int .i64 r.step.z]) (.agg #[.int .i64 0, .int .i64 0, .int .i64 0])).run Try.prog W = .ok false W := fun W => by rw [← dec_no hse]; exact HSE.out W
                cases hps : ptIn 2097152 r.step with
                | false =>
                  have HF := Lib.hid (show rightB l r = false by rw [HE.out, HSB.out, dec_no (p := r.count ≤ 1) (by omega), hps]; simp)
                  clear hse
                  go_enter Try.func44, Try.ntmps44
                  go_wp2_with fail
                  refine (HIX.out _ (by go_grown)).mono ?_
                  rintro e w1 ⟨rfl, rfl⟩
                  go_wp2_with fail
                  refine (HT.out _).mono ?_
                  rintro e w2 ⟨rfl, hb2⟩
                  have HW2 : Hid (RunW w w2 r) := ⟨bstep (by go_grown) hb2, (BlkIs.new w _ _).below hb2⟩
                  clear hb2
                  rw [htb]
                  have k3 := HW2.out.2.cell 3
                  have k4 := HW2.out.2.cell 4
                  have k5 := HW2.out.2.cell 5
                  have k9 := HW2.out.2.cell 9
                  go_wp2_with fail
                  refine (HQ.out _).mono ?_
                  rintro e w3 ⟨rfl, hb3⟩
                  have HW3 := Lib.hid (HW2.out.after hb3)
                  clear hb3 k3 k4 k5 k9
                  rw [hpa]
                  have k6 := HW3.out.2.cell 6
                  have k7 := HW3.out.2.cell 7
                  have k8 := HW3.out.2.cell 8
                  have k9 := HW3.out.2.cell 9
                  go_wp2_with fail
                  refine (HQ2.out _).mono ?_
                  rintro e w4 ⟨rfl, hb4⟩
                  have HW4 := Lib.hid (HW3.out.after hb4)
                  clear hb4 k6 k7 k8 k9
                  rw [hps]
                  go_wp2
                  go_ret
                  exact ⟨ret_bool HF.out.symm, HW4.out.1⟩
                | true =>
                  have HE2 : Hid (stepB r = true) := by
                    unfold Hid
                    rw [HSB.out, dec_no (p := r.count ≤ 1) (by omega), dec_no hse, hps]; rfl
                  rw [HE2.out, Bool.true_and] at HE
                  have HP1 := Lib.hid (HP9.out (r.count - 1) (by omega) (by omega) (fun h => hps))
                  clear hse HE2
                  go_enter Try.func44, Try.ntmps44
                  go_wp2_with fail
                  refine (HIX.out _ (by go_grown)).mono ?_
                  rintro e w1 ⟨rfl, rfl⟩
                  go_wp2_with fail
                  refine (HT.out _).mono ?_
                  rintro e w2 ⟨rfl, hb2⟩
                  have HW2 : Hid (RunW w w2 r) := ⟨bstep (by go_grown) hb2, (BlkIs.new w _ _).below hb2⟩
                  clear hb2
                  rw [htb]
                  have k3 := HW2.out.2.cell 3
                  have k4 := HW2.out.2.cell 4
                  have k5 := HW2.out.2.cell 5
                  have k9 := HW2.out.2.cell 9
                  go_wp2_with fail
                  refine (HQ.out _).mono ?_
                  rintro e w3 ⟨rfl, hb3⟩
                  have HW3 := Lib.hid (HW2.out.after hb3)
                  clear hb3 k3 k4 k5 k9
                  rw [hpa]
                  have k6 := HW3.out.2.cell 6
                  have k7 := HW3.out.2.cell 7
                  have k8 := HW3.out.2.cell 8
                  have k9 := HW3.out.2.cell 9
                  go_wp2_with fail
                  refine (HQ2.out _).mono ?_
                  rintro e w4 ⟨rfl, hb4⟩
                  have HW4 := Lib.hid (HW3.out.after hb4)
                  clear hb4 k6 k7 k8 k9
                  rw [hps]
                  go_upto_region 6 with fail
                  have HW := Lib.hid HW4.out
                  clear HSB HSE HP9 HQ HQ2 HT HIX HW4 HW3 HW2 hq htb hpa hps
                  cases hc0 : chkB (turnedOf b r) r 0 with
                  | false =>
                    have HF := Lib.hid (show rightB l r = false by rw [HE.out, hc0]; simp)
                    have HN0 : Hid (∀ W o B, OwnPts W B o (rptsOf b r 0) → Calls Try.prog 67 #[o] W fun e w' => e = .returned (.bool false) ∧ Below W.heap.size W w') := fun W o B h => by
                      have h2 := rnear_any o (rptsOf b r 0) W (OwnN.fl pt_len h) HL7.out
                      rw [show (rptsOf b r 0).all (ptIn 1048576) = false from HC0.out.trans hc0] at h2
                      exact h2
                    clear hc0 HC0 HC1 HE HN
                    obtain ⟨s0, s1, s2, s3, s4, s5, s6, s7, s8, s9, t0, t1, t2, t3, t4⟩ := HW.out.s H5.out
                    have c0 := fun d os => cell_regrown s0 d os
                    have c1 := fun d os => cell_regrown s1 d os
                    have c2 := fun d os => cell_regrown s2 d os
                    have c3 := fun d os => cell_regrown s3 d os
                    have c4 := fun d os => cell_regrown s4 d os
                    have c5 := fun d os => cell_regrown s5 d os
                    have c6 := fun d os => cell_regrown s6 d os
                    have c7 := fun d os => cell_regrown s7 d os
                    have c8 := fun d os => cell_regrown s8 d os
                    have c9 := fun d os => cell_regrown s9 d os
                    have d0 := fun d os => cell_regrown t0 d os
                    have d1 := fun d os => cell_regrown t1 d os
                    have d2 := fun d os => cell_regrown t2 d os
                    have d3 := fun d os => cell_regrown t3 d os
                    have d4 := fun d os => cell_regrown t4 d os
                    clear s0 s1 s2 s3 s4 s5 s6 s7 s8 s9 t0 t1 t2 t3 t4
                    refine wp_region_below_mid 5 3 (by kernel_rfl) (by kernel_rfl) ?_
                    simp only [List.take_succ_cons, List.take_zero, List.drop_succ_cons, List.drop_zero]
                    repeat (go_big_quiet_step (fail))
                    refine wpQuiet_nil ?_
                    intro _ hw'
                    obtain ⟨⟨nq, osq⟩, hw''⟩ := hw'
                    subst hw''
                    have HW5 := Lib.hid (HW.out.after (below_regrown _ nq osq))
                    clear c0 c1 c2 c3 c4 c5 c6 c7 c8 c9 d0 d1 d2 d3 d4 HW
                    generalize Go.Sort.grow (redrawn _ nq) osq = w5 at *
                    go_wp2_with fail
                    refine (HP0.out _ HW5.out.below).mono ?_
                    rintro e w7 ⟨o7, rfl, HO7, hb7⟩
                    have HW7 := Lib.hid (HW5.out.after hb7)
                    clear hb7
                    go_wp2_with fail
                    refine (HN0.out _ _ _ HO7.out).mono ?_
                    rintro e w8 ⟨rfl, hb8⟩
                    have HW8 := Lib.hid (HW7.out.after hb8)
                    clear hb8
                    go_wp2_with fail
                    with_reducible refine WithK.of ?_
                    with_reducible refine Lib.hid ?_
                    repeat (go_big_quiet_step (fail))
                    refine wpQuiet_nil ?_
                    intro _ hw'
                    obtain ⟨⟨nq, osq⟩, hw''⟩ := hw'
                    subst hw''
                    have HW9 := Lib.hid (HW8.out.after (below_regrown _ nq osq))
                    go_wp2
                    go_ret
                    exact ⟨ret_bool HF.out.symm, HW9.out.1⟩
                  | true =>
                    have HF := Lib.hid (show rightB l r = chkB (turnedOf b r) r 1 by rw [HE.out, hc0]; simp)
                    have HN0 : Hid (∀ W o B, OwnPts W B o (rptsOf b r 0) → Calls Try.prog 67 #[o] W fun e w' => e = .returned (.bool true) ∧ Below W.heap.size W w') := fun W o B h => by
                      have h2 := rnear_any o (rptsOf b r 0) W (OwnN.fl pt_len h) HL7.out
                      rw [show (rptsOf b r 0).all (ptIn 1048576) = true from HC0.out.trans hc0] at h2
                      exact h2
                    have HN1 : Hid (∀ W o B, OwnPts W B o (rptsOf b r (r.count - 1)) → Calls Try.prog 67 #[o] W fun e w' => e = .returned (.bool (chkB (turnedOf b r) r 1)) ∧ Below W.heap.size W w') := fun W o B h => by
                      have h2 := rnear_any o (rptsOf b r (r.count - 1)) W (OwnN.fl pt_len h) HL71.out
                      rw [show (rptsOf b r (r.count - 1)).all (ptIn 1048576) = chkB (turnedOf b r) r 1 from HC1.out] at h2
                      exact h2
                    generalize hc1 : chkB (turnedOf b r) r 1 = ch1 at *
                    clear hc0 HC0 HC1 HE HN hc1
                    have hw1 : IntKind.i64.wrap (r.count - 1) = r.count - 1 := IntWalk.i64_in _ (by omega)
                    go_region_held3 (fun w' => w'.cell? ⟨bb, boff + i * 5, none⟩ = some (.string b.mark) ∧ w'.cell? ⟨bb, boff + i * 5 + 1, none⟩ = some (.int .i64 b.size) ∧ w'.cell? ⟨bb, boff + i * 5 + 2, none⟩ = some (.int .i64 b.count) ∧ w'.cell? ⟨bb, boff + i * 5 + 3, none⟩ = some (.int .i64 b.code) ∧ w'.cell? ⟨bb, boff + i * 5 + 4, none⟩ = some (.slice uo b.dims.length uc) ∧ w'.cell? ⟨w.heap.size, 0, none⟩ = some (.string r.mark) ∧ w'.cell? ⟨w.heap.size, 1, none⟩ = some (.int .i64 r.tx) ∧ w'.cell? ⟨w.heap.size, 2, none⟩ = some (.int .i64 r.ty) ∧ w'.cell? ⟨w.heap.size, 3, none⟩ = some (.int .i64 r.at_.x) ∧ w'.cell? ⟨w.heap.size, 4, none⟩ = some (.int .i64 r.at_.y) ∧ w'.cell? ⟨w.heap.size, 5, none⟩ = some (.int .i64 r.at_.z) ∧ w'.cell? ⟨w.heap.size, 6, none⟩ = some (.int .i64 r.step.x) ∧ w'.cell? ⟨w.heap.size, 7, none⟩ = some (.int .i64 r.step.y) ∧ w'.cell? ⟨w.heap.size, 8, none⟩ = some (.int .i64 r.step.z) ∧ w'.cell? ⟨w.heap.size, 9, none⟩ = some (.int .i64 r.count))
                      ((first
                        | (with_reducible exact HW.out.s H5.out)
                        | (with_reducible exact HW.out.drew.s H5.out)
                        | fail))
                      ((first
                        | (go_at_call 68; (first | (with_reducible refine (HP0.out _ HW.out.below.drew).mono ?_) | (with_reducible refine (HP0.out _ HW.out.below).mono ?_) | (with_reducible refine (HP1.out _ HW.out.below).mono ?_) | (with_reducible refine (HP1.out _ HW.out.below.drew).mono ?_)); rintro e w7 ⟨o7, rfl, HO7, hb7⟩; (first | replace HW := Lib.hid (HW.out.after hb7) | replace HW := Lib.hid (HW.out.after (below_drawn hb7))); clear hb7)
                        | (go_at_call 67; (first | (with_reducible refine (HN0.out _ _ _ HO7.out).mono ?_) | (with_reducible refine (HN1.out _ _ _ HO7.out).mono ?_)); rintro e w7 ⟨rfl, hb7⟩; (first | replace HW := Lib.hid (HW.out.after hb7) | replace HW := Lib.hid (HW.out.after (below_drawn hb7))); clear hb7 HO7)
                        | fail))
                    all_goals
                      go_wp2
                      go_ret
                      exact ⟨ret_bool HF.out.symm, by first | exact HW.out.1 | exact HW.out.1.drew⟩
            · have HE2 : Hid (stepB r = true) := by
                unfold Hid
                rw [HSB.out, dec_yes (p := r.count ≤ 1) (by omega)]; rfl
              rw [HE2.out, Bool.true_and] at HE
              have HP1 := Lib.hid (HP9.out (r.count - 1) (by omega) (by omega) (fun h => by omega))
              clear HE2
              go_enter Try.func44, Try.ntmps44
              go_wp2_with fail
              refine (HIX.out _ (by go_grown)).mono ?_
              rintro e w1 ⟨rfl, rfl⟩
              go_wp2_with fail
              refine (HT.out _).mono ?_
              rintro e w2 ⟨rfl, hb2⟩
              have HW2 : Hid (RunW w w2 r) := ⟨bstep (by go_grown) hb2, (BlkIs.new w _ _).below hb2⟩
              clear hb2
              rw [htb]
              have k3 := HW2.out.2.cell 3
              have k4 := HW2.out.2.cell 4
              have k5 := HW2.out.2.cell 5
              have k9 := HW2.out.2.cell 9
              go_wp2_with fail
              refine (HQ.out _).mono ?_
              rintro e w3 ⟨rfl, hb3⟩
              have HW3 := Lib.hid (HW2.out.after hb3)
              clear hb3 k3 k4 k5 k9
              rw [hpa]
              have k6 := HW3.out.2.cell 6
              have k7 := HW3.out.2.cell 7
              have k8 := HW3.out.2.cell 8
              have k9 := HW3.out.2.cell 9
              go_upto_region 6 with fail
              have HW := Lib.hid HW3.out
              clear HSB HSE HP9 HQ HQ2 HT HIX HW3 HW2 htb hpa k6 k7 k8 k9
              cases hc0 : chkB (turnedOf b r) r 0 with
              | false =>
                have HF := Lib.hid (show rightB l r = false by rw [HE.out, hc0]; simp)
                have HN0 : Hid (∀ W o B, OwnPts W B o (rptsOf b r 0) → Calls Try.prog 67 #[o] W fun e w' => e = .returned (.bool false) ∧ Below W.heap.size W w') := fun W o B h => by
                  have h2 := rnear_any o (rptsOf b r 0) W (OwnN.fl pt_len h) HL7.out
                  rw [show (rptsOf b r 0).all (ptIn 1048576) = false from HC0.out.trans hc0] at h2
                  exact h2
                clear hc0 HC0 HC1 HE HN
                obtain ⟨s0, s1, s2, s3, s4, s5, s6, s7, s8, s9, t0, t1, t2, t3, t4⟩ := HW.out.s H5.out
                have c0 := fun d os => cell_regrown s0 d os
                have c1 := fun d os => cell_regrown s1 d os
                have c2 := fun d os => cell_regrown s2 d os
                have c3 := fun d os => cell_regrown s3 d os
                have c4 := fun d os => cell_regrown s4 d os
                have c5 := fun d os => cell_regrown s5 d os
                have c6 := fun d os => cell_regrown s6 d os
                have c7 := fun d os => cell_regrown s7 d os
                have c8 := fun d os => cell_regrown s8 d os
                have c9 := fun d os => cell_regrown s9 d os
                have d0 := fun d os => cell_regrown t0 d os
                have d1 := fun d os => cell_regrown t1 d os
                have d2 := fun d os => cell_regrown t2 d os
                have d3 := fun d os => cell_regrown t3 d os
                have d4 := fun d os => cell_regrown t4 d os
                clear s0 s1 s2 s3 s4 s5 s6 s7 s8 s9 t0 t1 t2 t3 t4
                refine wp_region_below_mid 5 3 (by kernel_rfl) (by kernel_rfl) ?_
                simp only [List.take_succ_cons, List.take_zero, List.drop_succ_cons, List.drop_zero]
                repeat (go_big_quiet_step (fail))
                refine wpQuiet_nil ?_
                intro _ hw'
                obtain ⟨⟨nq, osq⟩, hw''⟩ := hw'
                subst hw''
                have HW5 := Lib.hid (HW.out.after (below_regrown _ nq osq))
                clear c0 c1 c2 c3 c4 c5 c6 c7 c8 c9 d0 d1 d2 d3 d4 HW
                generalize Go.Sort.grow (redrawn _ nq) osq = w5 at *
                go_wp2_with fail
                refine (HP0.out _ HW5.out.below).mono ?_
                rintro e w7 ⟨o7, rfl, HO7, hb7⟩
                have HW7 := Lib.hid (HW5.out.after hb7)
                clear hb7
                go_wp2_with fail
                refine (HN0.out _ _ _ HO7.out).mono ?_
                rintro e w8 ⟨rfl, hb8⟩
                have HW8 := Lib.hid (HW7.out.after hb8)
                clear hb8
                go_wp2_with fail
                with_reducible refine WithK.of ?_
                with_reducible refine Lib.hid ?_
                repeat (go_big_quiet_step (fail))
                refine wpQuiet_nil ?_
                intro _ hw'
                obtain ⟨⟨nq, osq⟩, hw''⟩ := hw'
                subst hw''
                have HW9 := Lib.hid (HW8.out.after (below_regrown _ nq osq))
                go_wp2
                go_ret
                exact ⟨ret_bool HF.out.symm, HW9.out.1⟩
              | true =>
                have HF := Lib.hid (show rightB l r = chkB (turnedOf b r) r 1 by rw [HE.out, hc0]; simp)
                have HN0 : Hid (∀ W o B, OwnPts W B o (rptsOf b r 0) → Calls Try.prog 67 #[o] W fun e w' => e = .returned (.bool true) ∧ Below W.heap.size W w') := fun W o B h => by
                  have h2 := rnear_any o (rptsOf b r 0) W (OwnN.fl pt_len h) HL7.out
                  rw [show (rptsOf b r 0).all (ptIn 1048576) = true from HC0.out.trans hc0] at h2
                  exact h2
                have HN1 : Hid (∀ W o B, OwnPts W B o (rptsOf b r (r.count - 1)) → Calls Try.prog 67 #[o] W fun e w' => e = .returned (.bool (chkB (turnedOf b r) r 1)) ∧ Below W.heap.size W w') := fun W o B h => by
                  have h2 := rnear_any o (rptsOf b r (r.count - 1)) W (OwnN.fl pt_len h) HL71.out
                  rw [show (rptsOf b r (r.count - 1)).all (ptIn 1048576) = chkB (turnedOf b r) r 1 from HC1.out] at h2
                  exact h2
                generalize hc1 : chkB (turnedOf b r) r 1 = ch1 at *
                clear hc0 HC0 HC1 HE HN hc1
                have hw1 : IntKind.i64.wrap (r.count - 1) = r.count - 1 := IntWalk.i64_in _ (by omega)
                go_region_held3 (fun w' => w'.cell? ⟨bb, boff + i * 5, none⟩ = some (.string b.mark) ∧ w'.cell? ⟨bb, boff + i * 5 + 1, none⟩ = some (.int .i64 b.size) ∧ w'.cell? ⟨bb, boff + i * 5 + 2, none⟩ = some (.int .i64 b.count) ∧ w'.cell? ⟨bb, boff + i * 5 + 3, none⟩ = some (.int .i64 b.code) ∧ w'.cell? ⟨bb, boff + i * 5 + 4, none⟩ = some (.slice uo b.dims.length uc) ∧ w'.cell? ⟨w.heap.size, 0, none⟩ = some (.string r.mark) ∧ w'.cell? ⟨w.heap.size, 1, none⟩ = some (.int .i64 r.tx) ∧ w'.cell? ⟨w.heap.size, 2, none⟩ = some (.int .i64 r.ty) ∧ w'.cell? ⟨w.heap.size, 3, none⟩ = some (.int .i64 r.at_.x) ∧ w'.cell? ⟨w.heap.size, 4, none⟩ = some (.int .i64 r.at_.y) ∧ w'.cell? ⟨w.heap.size, 5, none⟩ = some (.int .i64 r.at_.z) ∧ w'.cell? ⟨w.heap.size, 6, none⟩ = some (.int .i64 r.step.x) ∧ w'.cell? ⟨w.heap.size, 7, none⟩ = some (.int .i64 r.step.y) ∧ w'.cell? ⟨w.heap.size, 8, none⟩ = some (.int .i64 r.step.z) ∧ w'.cell? ⟨w.heap.size, 9, none⟩ = some (.int .i64 r.count))
                  ((first
                    | (with_reducible exact HW.out.s H5.out)
                    | (with_reducible exact HW.out.drew.s H5.out)
                    | fail))
                  ((first
                    | (go_at_call 68; (first | (with_reducible refine (HP0.out _ HW.out.below.drew).mono ?_) | (with_reducible refine (HP0.out _ HW.out.below).mono ?_) | (with_reducible refine (HP1.out _ HW.out.below).mono ?_) | (with_reducible refine (HP1.out _ HW.out.below.drew).mono ?_)); rintro e w7 ⟨o7, rfl, HO7, hb7⟩; (first | replace HW := Lib.hid (HW.out.after hb7) | replace HW := Lib.hid (HW.out.after (below_drawn hb7))); clear hb7)
                    | (go_at_call 67; (first | (with_reducible refine (HN0.out _ _ _ HO7.out).mono ?_) | (with_reducible refine (HN1.out _ _ _ HO7.out).mono ?_)); rintro e w7 ⟨rfl, hb7⟩; (first | replace HW := Lib.hid (HW.out.after hb7) | replace HW := Lib.hid (HW.out.after (below_drawn hb7))); clear hb7 HO7)
                    | fail))
                all_goals
                  go_wp2
                  go_ret
                  exact ⟨ret_bool HF.out.symm, by first | exact HW.out.1 | exact HW.out.1.drew⟩
end Go.Proofs.Ytpidjgljeooblaa
