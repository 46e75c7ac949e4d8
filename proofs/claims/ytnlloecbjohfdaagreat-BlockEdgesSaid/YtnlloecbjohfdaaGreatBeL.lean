/-
  The walk of BlockEdges.
-/
import Derived.Test.YtnlloecbjohfdaaGreatRno
import Derived.Test.YtnlloecbjohfdaaGreatEqP
import Derived.Test.YtnlloecbjohfdaaGreatBkI
namespace Go.Proofs.YtnlloecbjohfdaaGreat
section
open Go.RowKit
set_option linter.unusedVariables false
set_option linter.unusedSimpArgs false
attribute [local go_sem ↓] Go.wp_at_zero Go.wp_at_succ

theorem edgL_len2 {L : List (List Bx)} (Z : List Int) (X : List Int) (h : L.length ≤ 60) : (edgL L Z X L.length L.length).length ≤ 140737488355328 := by
  have h1 := edgL_len L Z X L.length L.length
  have : L.length * L.length ≤ 60 * 60 := Nat.mul_le_mul (by omega) (by omega)
  omega
set_option maxRecDepth 100000 in
set_option maxHeartbeats 8000000 in
theorem blockEdges_walk (w : World) (v : Value) (l : List BarD) (hp : Bars w v l) (hf : FitB l) (hl : l.length * 64 ≤ 140737488351232) (vr : Value) (rs : List RunD) (hr : Runs w vr rs) (hm : ∀ r ∈ rs, r.mark.size ≤ maxLen) (hlr : rs.length * 88 ≤ 140737488351232)
    (tv : Value) (X : List Int) (ht : Ints w tv X) (hlt : X.length * 8 ≤ 140737488351232) (wt : ∀ x ∈ X, (Lit.int .i64 x).wf = true) :
    Calls Tryz.prog 6 #[v, vr, tv] w fun e w' => e = .returned (.bool true) ∧ Below w.heap.size w w' := by
  have hl2 : l.length ≤ 140737488355328 := by omega
  have hlr2 : rs.length ≤ 140737488355328 := by omega
  have HFW := Lib.hid (fun W (hW : Below w.heap.size w W) => few_any v vr l rs W (hp.below hW) (hr.below hW) hl2 hlr2)
  obtain ⟨tpo, tc, rfl⟩ := Sl.at_ ht
  by_cases h30 : 30 < X.length
  · have d30 : decide ((30 : Int) < (X.length : Int)) = true := dec_yes (by omega)
    have hh30 : (30 : Int) < (X.length : Int) := by omega
    clear hp hr hf hl hlr hm wt ht
    go_enter Tryz.func6, Tryz.ntmps6
    go_wp2_with fail
    refine (bawake_any _).mono ?_
    rintro e w1 ⟨rfl, hb1⟩
    have HW1 := Lib.hid hb1
    clear hb1
    go_wp2_with fail
    refine (HFW.out _ HW1.out).mono ?_
    rintro e w2 ⟨q, rfl, hb2, hq⟩
    have HW2 := Lib.hid (bstep HW1.out hb2)
    clear hb2 hq
    cases q
    all_goals
      go_wp2
      go_ret
      exact ⟨rfl, HW2.out⟩
  · have d30 : decide ((30 : Int) < (X.length : Int)) = false := dec_no (by omega)
    have hh30 : ¬ (30 : Int) < (X.length : Int) := by omega
    have HAL := Lib.hid (fun W (hW : Below w.heap.size w W) => rallx_any v vr (.slice tpo X.length tc) X l rs W (hp.below hW) (hr.below hW) (Sl.below ht hW) hl2 hlr2 (by omega) hf)
    cases hok : laidOk l rs with
    | false =>
      have HPR := Lib.hid (fun W (hW : Below w.heap.size w W) => edgesI_bad v vr (.slice tpo X.length tc) l rs W (hp.below hW) (hr.below hW) hl2 hlr2 hf hok)
      rw [hok] at HAL
      have HA1 : Hid (allE false (lgsOf l rs).length X = 1) := rfl
      rw [HA1.out] at HAL
      clear hok hp hr hf hl hlr hm wt ht HA1
      go_enter Tryz.func6, Tryz.ntmps6
      go_wp2_with fail
      refine (bawake_any _).mono ?_
      rintro e w1 ⟨rfl, hb1⟩
      have HW1 := Lib.hid hb1
      clear hb1
      go_wp2_with fail
      refine (HFW.out _ HW1.out).mono ?_
      rintro e w2 ⟨q, rfl, hb2, hq⟩
      have HW2 := Lib.hid (bstep HW1.out hb2)
      clear hb2 hq
      cases q
      · go_wp2
        go_ret
        exact ⟨rfl, HW2.out⟩
      · go_wp2_with fail
        refine (HPR.out _ HW2.out).mono ?_
        rintro e w3 ⟨o3, rfl, _, ho3, hb3⟩
        obtain rfl := ho3 (by omega)
        have HW3 := Lib.hid (bstep HW2.out hb3)
        clear hb3
        go_wp2_with fail
        refine (HAL.out _ HW3.out).mono ?_
        rintro e w4 ⟨rfl, hb4⟩
        have HW4 := Lib.hid (bstep HW3.out hb4)
        clear hb4
        go_wp2
        go_ret
        exact ⟨rfl, HW4.out⟩
    | true =>
      have HPR := Lib.hid (fun W (hW : Below w.heap.size w W) => edgesI_good v vr (.slice tpo X.length tc) X l rs W (hp.below hW) (hr.below hW) (Sl.below ht hW) hl2 hlr2 (by omega) hf hok)
      rw [hok] at HAL
      have HA1 : Hid (allE true (lgsOf l rs).length X = edgE (lgsOf l rs).length X) := rfl
      rw [HA1.out] at HAL
      by_cases hc : edgE (lgsOf l rs).length X = 0
      · obtain ⟨z1, z2, z3⟩ := edgE_zero hc
        have HRE := Lib.hid (fun W (hW : Below w.heap.size w W) => redges_any v vr (.slice tpo X.length tc) X l rs W (hp.below hW) (hr.below hW) (Sl.below ht hW) hl2 hok z2 z1 z3)
        have HLN := Lib.hid (edgL_len2 (szsOf l rs) X z1)
        rw [hc] at HAL HPR
        generalize edgL (lgsOf l rs) (szsOf l rs) X (lgsOf l rs).length (lgsOf l rs).length = E at *
        clear hok hp hr hf hl hlr hm wt ht HA1 hc z1 z2 z3
        go_enter Tryz.func6, Tryz.ntmps6
        go_wp2_with fail
        refine (bawake_any _).mono ?_
        rintro e w1 ⟨rfl, hb1⟩
        have HW1 := Lib.hid hb1
        clear hb1
        go_wp2_with fail
        refine (HFW.out _ HW1.out).mono ?_
        rintro e w2 ⟨q, rfl, hb2, hq⟩
        have HW2 := Lib.hid (bstep HW1.out hb2)
        clear hb2 hq
        cases q
        · go_wp2
          go_ret
          exact ⟨rfl, HW2.out⟩
        · go_wp2_with fail
          refine (HPR.out _ HW2.out).mono ?_
          rintro e w3 ⟨o3, rfl, ho3, _, hb3⟩
          have HO3 := Lib.hid (ho3 rfl)
          have HW3 := Lib.hid (bstep HW2.out hb3)
          clear hb3 ho3
          go_wp2_with fail
          refine (HAL.out _ HW3.out).mono ?_
          rintro e w4 ⟨rfl, hb4⟩
          have HO4 := Lib.hid (OwnN.below HO3.out hb4)
          have HW4 := Lib.hid (bstep HW3.out hb4)
          clear hb4 HO3
          go_wp2_with fail
          refine (HRE.out _ HW4.out).mono ?_
          rintro e w5 ⟨o5, rfl, HO5, hb5⟩
          have HO45 := Lib.hid (OwnN.below HO4.out hb5)
          have HW5 := Lib.hid (bstep HW4.out hb5)
          clear hb5 HO4
          have HEQ := Lib.hid (eqPr_any o3 o5 E E w5 (OwnN.fl pr_len HO45.out) (OwnN.fl pr_len HO5.out) HLN.out HLN.out)
          have HDE : Hid (decide (E = E) = true) := dec_yes rfl
          rw [HDE.out] at HEQ
          go_wp2_with fail
          refine HEQ.out.mono ?_
          rintro e w6 ⟨rfl, hb6⟩
          have HW6 := Lib.hid (bstep HW5.out hb6)
          clear hb6
          go_wp2
          go_ret
          exact ⟨rfl, HW6.out⟩
      · have hcb : (edgE (lgsOf l rs).length X != 0) = true := bne_yes hc
        generalize edgE (lgsOf l rs).length X = c at *
        have HC := Lib.hid hc
        clear hok hp hr hf hl hlr hm wt ht HA1 hc
        go_enter Tryz.func6, Tryz.ntmps6
        go_wp2_with fail
        refine (bawake_any _).mono ?_
        rintro e w1 ⟨rfl, hb1⟩
        have HW1 := Lib.hid hb1
        clear hb1
        go_wp2_with fail
        refine (HFW.out _ HW1.out).mono ?_
        rintro e w2 ⟨q, rfl, hb2, hq⟩
        have HW2 := Lib.hid (bstep HW1.out hb2)
        clear hb2 hq
        cases q
        · go_wp2
          go_ret
          exact ⟨rfl, HW2.out⟩
        · go_wp2_with fail
          refine (HPR.out _ HW2.out).mono ?_
          rintro e w3 ⟨o3, rfl, _, ho3, hb3⟩
          obtain rfl := ho3 HC.out
          have HW3 := Lib.hid (bstep HW2.out hb3)
          clear hb3
          go_wp2_with fail
          refine (HAL.out _ HW3.out).mono ?_
          rintro e w4 ⟨rfl, hb4⟩
          have HW4 := Lib.hid (bstep HW3.out hb4)
          clear hb4
          go_wp2
          go_ret
          exact ⟨rfl, HW4.out⟩
end
end Go.Proofs.YtnlloecbjohfdaaGreat
