/-
  The walk of ClashPairs.
-/
import Derived.Test.YtpiigmhbbcjamaaGreatRce
import Derived.Test.YtpiigmhbbcjamaaGreatEqC
namespace Go.Proofs.YtpiigmhbbcjamaaGreat
section
open Go.RowKit
set_option linter.unusedVariables false
set_option linter.unusedSimpArgs false
attribute [local go_sem ↓] Go.wp_at_zero Go.wp_at_succ

set_option maxRecDepth 100000 in
set_option maxHeartbeats 8000000 in
theorem clashPairs_walk (w : World) (v : Value) (l : List BarD) (hp : Bars w v l) (hf : FitB l) (hl : l.length * 64 ≤ 140737488351232) (vr : Value) (rs : List RunD) (hr : Runs w vr rs) (hm : ∀ r ∈ rs, r.mark.size ≤ maxLen) (hlr : rs.length * 88 ≤ 140737488351232)
    (c : Int) (wc : (Lit.int .i64 c).wf = true) :
    Calls Tryz.prog 4 #[v, vr, .int .i64 c] w fun en w' => en = .returned (.bool true) ∧ Below w.heap.size w w' := by
  have hl2 : l.length ≤ 140737488355328 := by omega
  have hlr2 : rs.length ≤ 140737488355328 := by omega
  have HP := Lib.hid hp
  have HR := Lib.hid hr
  have HFI := Lib.hid hf
  have HSM := Lib.hid (fun W (hW : Below w.heap.size w W) => rsmall19_any v vr l rs W (hp.below hW) (hr.below hW) hl2 hlr2)
  have HV := Lib.hid (fun W (hW : Below w.heap.size w W) => rlaid_any v vr l rs W (hp.below hW) (hr.below hW) hl2 hlr2 hf)
  have HCL := Lib.hid (fun W => rclear19_any c W)
  clear hp hr hf hl hm hlr wc
  obtain ⟨ok, hok⟩ : ∃ q, laidOk l rs = q := ⟨_, rfl⟩
  obtain ⟨cl, hcl⟩ : ∃ q, clrB c = q := ⟨_, rfl⟩
  rw [hok] at HV
  rw [hcl] at HCL
  cases ok
  · have HPA := Lib.hid (fun W (hW : Below w.heap.size w W) => cpairs_bad v vr c l rs W (HP.out.below hW) (HR.out.below hW) hl2 hlr2 HFI.out 1 (Or.inl ⟨hok, rfl⟩))
    have HFR := Lib.hid (fun W (hW : Below w.heap.size w W) => cfree_bad v vr c l rs W (HP.out.below hW) (HR.out.below hW) hl2 hlr2 HFI.out 1 (Or.inl ⟨hok, rfl⟩))
    clear hok hcl HCL
    go_enter Tryz.func4, Tryz.ntmps4
    go_wp2_with fail
    refine (cawake_any _).mono ?_
    rintro en w1 ⟨rfl, hb1⟩
    have HW1 := Lib.hid hb1
    clear hb1
    go_wp2_with fail
    refine (HSM.out _ HW1.out).mono ?_
    rintro en w2 ⟨q, rfl, hb2, hq⟩
    have HW2 := Lib.hid (bstep HW1.out hb2)
    clear hb2 hq HW1 HSM
    cases q
    · go_wp2
      go_ret
      exact ⟨rfl, HW2.out⟩
    · go_wp2_with fail
      refine (HPA.out _ HW2.out).mono ?_
      rintro en w3 ⟨rfl, hb3⟩
      have HW3 := Lib.hid (bstep HW2.out hb3)
      clear hb3 HW2 HPA
      go_wp2_with fail
      refine (HFR.out _ HW3.out).mono ?_
      rintro en w4 ⟨rfl, hb4⟩
      have HW4 := Lib.hid (bstep HW3.out hb4)
      clear hb4 HW3 HFR
      go_wp2_with fail
      refine (HV.out _ HW4.out).mono ?_
      rintro en w5 ⟨rfl, hb5⟩
      have HW5 := Lib.hid (bstep HW4.out hb5)
      clear hb5 HW4 HV
      go_wp2
      go_ret
      exact ⟨rfl, HW5.out⟩
  · cases cl
    · have HPA := Lib.hid (fun W (hW : Below w.heap.size w W) => cpairs_bad v vr c l rs W (HP.out.below hW) (HR.out.below hW) hl2 hlr2 HFI.out 2 (Or.inr ⟨hok, hcl, rfl⟩))
      have HFR := Lib.hid (fun W (hW : Below w.heap.size w W) => cfree_bad v vr c l rs W (HP.out.below hW) (HR.out.below hW) hl2 hlr2 HFI.out 2 (Or.inr ⟨hok, hcl, rfl⟩))
      clear hok hcl
      go_enter Tryz.func4, Tryz.ntmps4
      go_wp2_with fail
      refine (cawake_any _).mono ?_
      rintro en w1 ⟨rfl, hb1⟩
      have HW1 := Lib.hid hb1
      clear hb1
      go_wp2_with fail
      refine (HSM.out _ HW1.out).mono ?_
      rintro en w2 ⟨q, rfl, hb2, hq⟩
      have HW2 := Lib.hid (bstep HW1.out hb2)
      clear hb2 hq HW1 HSM
      cases q
      · go_wp2
        go_ret
        exact ⟨rfl, HW2.out⟩
      · go_wp2_with fail
        refine (HPA.out _ HW2.out).mono ?_
        rintro en w3 ⟨rfl, hb3⟩
        have HW3 := Lib.hid (bstep HW2.out hb3)
        clear hb3 HW2 HPA
        go_wp2_with fail
        refine (HFR.out _ HW3.out).mono ?_
        rintro en w4 ⟨rfl, hb4⟩
        have HW4 := Lib.hid (bstep HW3.out hb4)
        clear hb4 HW3 HFR
        go_wp2_with fail
        refine (HV.out _ HW4.out).mono ?_
        rintro en w5 ⟨rfl, hb5⟩
        have HW5 := Lib.hid (bstep HW4.out hb5)
        clear hb5 HW4 HV
        go_wp2_with fail
        refine (HCL.out _).mono ?_
        rintro en w6 ⟨rfl, rfl⟩
        go_wp2
        go_ret
        exact ⟨rfl, HW5.out⟩
    · have HPA := Lib.hid (fun W (hW : Below w.heap.size w W) h14 => cpairs_good v vr c l rs W (HP.out.below hW) (HR.out.below hW) hl2 hlr2 HFI.out hok hcl h14)
      have HFR := Lib.hid (fun W (hW : Below w.heap.size w W) => cfree_good v vr c l rs W (HP.out.below hW) (HR.out.below hW) hl2 hlr2 HFI.out hok hcl)
      have HRP := Lib.hid (fun W (hW : Below w.heap.size w W) h14 => rpairs19_any v vr c l rs W (HP.out.below hW) (HR.out.below hW) hl2 hok hcl h14)
      have HF14 := Lib.hid (fun hq => few_of hok hq)
      have HAL := Lib.hid (fun (h : (lgsOf l rs).length ≤ 14) => allC_len (lgsOf l rs) (szsOf l rs) c (lgsOf l rs).length (lgsOf l rs).length)
      have HFB : Hid (freeB (lgsOf l rs) (szsOf l rs) c = (allC (lgsOf l rs) (szsOf l rs) c (lgsOf l rs).length (lgsOf l rs).length).isEmpty) := rfl
      generalize allC (lgsOf l rs) (szsOf l rs) c (lgsOf l rs).length (lgsOf l rs).length = A at *
      generalize freeB (lgsOf l rs) (szsOf l rs) c = fb at *
      generalize (lgsOf l rs).length = n at *
      clear hok hcl
      go_enter Tryz.func4, Tryz.ntmps4
      go_wp2_with fail
      refine (cawake_any _).mono ?_
      rintro en w1 ⟨rfl, hb1⟩
      have HW1 := Lib.hid hb1
      clear hb1
      go_wp2_with fail
      refine (HSM.out _ HW1.out).mono ?_
      rintro en w2 ⟨q, rfl, hb2, hq⟩
      have HW2 := Lib.hid (bstep HW1.out hb2)
      have HQ := Lib.hid hq
      clear hb2 hq HW1 HSM
      cases q
      · go_wp2
        go_ret
        exact ⟨rfl, HW2.out⟩
      · have h14 : n ≤ 14 := HF14.out (HQ.out rfl)
        have hA : A.length ≤ 196 := by
          have h1 := HAL.out h14
          have h2 : n * n ≤ 14 * 14 := Nat.mul_le_mul h14 h14
          omega
        have HP2 := Lib.hid (fun W hW => HPA.out W hW h14)
        have HR2 := Lib.hid (fun W hW => HRP.out W hW h14)
        clear HPA HRP HAL HF14 HQ
        go_wp2_with fail
        refine (HP2.out _ HW2.out).mono ?_
        rintro en w3 ⟨o1, rfl, ho1, hb3⟩
        have HW3 := Lib.hid (bstep HW2.out hb3)
        have HC1 := Lib.hid (OwnN.fl (fun _ => rfl) ho1 : Cls w3 o1 A)
        clear hb3 HW2 HP2 ho1
        go_wp2_with fail
        refine (HFR.out _ HW3.out).mono ?_
        rintro en w4 ⟨rfl, hb4⟩
        have HW4 := Lib.hid (bstep HW3.out hb4)
        have HC2 := Lib.hid (Fl.below HC1.out hb4)
        clear hb4 HW3 HFR HC1
        go_wp2_with fail
        refine (HV.out _ HW4.out).mono ?_
        rintro en w5 ⟨rfl, hb5⟩
        have HW5 := Lib.hid (bstep HW4.out hb5)
        have HC3 := Lib.hid (Fl.below HC2.out hb5)
        clear hb5 HW4 HV HC2
        go_wp2_with fail
        refine (HCL.out _).mono ?_
        rintro en w6 ⟨rfl, rfl⟩
        go_wp2_with fail
        refine (HR2.out _ HW5.out).mono ?_
        rintro en w7 ⟨o2, rfl, ho2, hb7⟩
        have HW7 := Lib.hid (bstep HW5.out hb7)
        have HC4 := Lib.hid (Fl.below HC3.out hb7)
        obtain ⟨ao, cap, rfl⟩ := ho2.shape
        have HD4 := Lib.hid (OwnN.fl (fun _ => rfl) ho2 : Cls w7 _ A)
        clear hb7 HW5 HR2 HC3 ho2
        have HEQ := Lib.hid (eqCl_any o1 _ A A w7 HC4.out HD4.out (by omega) (by omega))
        rw [dec_yes rfl] at HEQ
        go_wp2_with fail
        refine HEQ.out.mono ?_
        rintro en w8 ⟨rfl, hb8⟩
        have HW8 := Lib.hid (bstep HW7.out hb8)
        clear hb8 HW7 HC4 HD4 HEQ
        by_cases hz : A.length = 0
        · have hfb : fb = true := by rw [HFB.out, List.isEmpty_iff]; exact List.eq_nil_of_length_eq_zero hz
          subst hfb
          have hz1 : ((A.length : Int) == 0) = true := beq_yes (by omega)
          rw [hz]
          go_wp2
          go_ret
          exact ⟨rfl, HW8.out⟩
        · have hfb : fb = false := by
            rw [HFB.out]
            cases A with
            | nil => exact absurd rfl hz
            | cons _ _ => rfl
          subst hfb
          have hz1 : ((A.length : Int) == 0) = false := beq_no (by omega)
          generalize A.length = k at *
          go_wp2
          go_ret
          exact ⟨rfl, HW8.out⟩
end
end Go.Proofs.YtpiigmhbbcjamaaGreat
