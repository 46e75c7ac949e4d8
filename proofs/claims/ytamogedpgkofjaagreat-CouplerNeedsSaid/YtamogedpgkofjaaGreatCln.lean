/-
  The walk of CouplerNeeds (printed by wip/gen_Cl.py).
-/
import Derived.Test.YtamogedpgkofjaaGreatCla
import Derived.Test.YtamogedpgkofjaaGreatCrd
namespace Go.Proofs.YtamogedpgkofjaaGreat
section
open Go.RowKit
set_option linter.unusedVariables false
set_option linter.unusedSimpArgs false
attribute [local go_sem ↓] Go.wp_at_zero Go.wp_at_succ

set_option maxRecDepth 100000 in
set_option maxHeartbeats 8000000 in
theorem couplerNeeds_walk (w : World) (v : Value) (l : List BarD) (hp : Bars w v l) (hf : FitB l) (hl : l.length * 64 ≤ 140737488351232) (vr : Value) (rs : List RunD) (hr : Runs w vr rs) (hm : ∀ r ∈ rs, r.mark.size ≤ maxLen) (hlr : rs.length * 88 ≤ 140737488351232)
    (xv : Value) (X : List Int) (hx : Ints w xv X) (hlx : X.length * 8 ≤ 140737488351232) (wx : ∀ x ∈ X, (Lit.int .i64 x).wf = true) :
    Calls Tryz.prog 6 #[v, vr, xv] w fun en w' => en = .returned (.bool true) ∧ Below w.heap.size w w' := by
  have hl2 : l.length ≤ 140737488355328 := by omega
  have hlr2 : rs.length ≤ 140737488355328 := by omega
  have HLG := Lib.hid (fun W (hW : Below w.heap.size w W) => clarge_any v vr xv X l rs W (hp.below hW) (hr.below hW) hl2 hlr2 hf (Sl.below hx hW) (by omega))
  clear hp hr hf hl hlr hm hx wx hl2 hlr2
  go_enter Tryz.func6, Tryz.ntmps6
  go_wp2_with fail
  refine (cqawake_any _).mono ?_
  rintro en w1 ⟨rfl, hb1⟩
  have HW1 := Lib.hid hb1
  clear hb1
  go_wp2_with fail
  refine (HLG.out _ HW1.out).mono ?_
  rintro en w2 ⟨b, rfl, hb2, hq2⟩
  have HW2 := Lib.hid (bstep HW1.out hb2)
  have HQ2 := Lib.hid (fun h => ((hq2 h).1.below hb2 : Cg w2 v vr xv X l rs))
  have HX2 := Lib.hid (fun h => (hq2 h).2)
  clear hb2 hq2 HW1 HLG
  cases b
  · have HC := Lib.hid (fun W (hW : Below w2.heap.size w2 W) => (HQ2.out rfl).below hW)
    have hX100 := HX2.out rfl
    have HN := Lib.hid (fun W (hW : Below w2.heap.size w2 W) => cneeded_any v vr xv X l rs W (HC.out W hW))
    have HL := Lib.hid (fun W (hW : Below w2.heap.size w2 W) => cloops_any v vr xv X l rs W (HC.out W hW))
    have HBO := Lib.hid (fun W (hW : Below w2.heap.size w2 W) => cbound_any v vr xv X l rs W (HC.out W hW) _ rfl)
    by_cases hc : sqC l rs X = 0
    · have HEG := Lib.hid (fun W (hW : Below w2.heap.size w2 W) => redges40_good v vr xv X l rs W (HC.out W hW) (by omega) hc)
      have h14 := (HC.out w2 (Below.refl _ _)).hA.h14 (sqC_zero hc).1
      rw [hc] at HN HL HBO
      generalize sqEs l rs X = es at *
      generalize (lgsOf l rs).length = n at *
      have hlf : lpsF 0 n es = (0, lpsC n es) := if_pos rfl
      rw [hlf] at HL HBO
      obtain ⟨R, hR⟩ : ∃ R, ndF 0 n es = R := ⟨_, rfl⟩
      have HR := Lib.hid hR
      rw [hR] at HN
      clear hlf hR hc HC HQ2 HX2
      go_wp2_with fail
      refine (HN.out w2 (Below.refl _ _)).mono ?_
      rintro e w3 ⟨o1, rfl, ho1, hb3⟩
      have HB3 := Lib.hid hb3
      have HO1 := Lib.hid (ho1.sl)
      obtain ⟨oo, oc, rfl⟩ := ho1.shape
      clear hb3 ho1 HN
      generalize hr1 : R.1 = r1 at *
      have HR1 := Lib.hid hr1
      generalize hr2 : R.2.length = r2 at *
      have HR2 := Lib.hid hr2
      clear hr1 hr2
      go_wp2_with fail
      refine (HL.out w3 HB3.out).mono ?_
      rintro e w4 ⟨o2, rfl, ⟨vals, hm4⟩, hb4⟩
      have HB4 := Lib.hid (bstep HB3.out hb4)
      have HM4 := Lib.hid (Mat.rows ⟨vals, hm4⟩)
      have HO4 := Lib.hid (HO1.out.below hb4)
      have HVN := Lib.hid hm4.1
      obtain ⟨po, pc, rfl⟩ := hm4.2.1.shape
      clear hb4 hm4 HL HO1
      generalize vals.length = vl at *
      go_wp2_with fail
      refine (HBO.out w4 HB4.out).mono ?_
      rintro e w5 ⟨rfl, hb5⟩
      have HB5 := Lib.hid (bstep HB4.out hb5)
      have HM5 := Lib.hid (HM4.out.below hb5)
      have HO5 := Lib.hid (HO4.out.below hb5)
      clear hb5 HBO HM4 HO4
      obtain ⟨bl, hbl⟩ : ∃ bl, (lpsC n es).length = bl := ⟨_, rfl⟩
      have hvb := HVN.out
      rw [hbl] at hvb
      rw [show ((0, lpsC n es) : Int × List (List Nat)).2.length = bl from hbl]
      have HBL := Lib.hid hbl
      subst hvb
      clear hbl
      go_wp2_with fail
      refine (HEG.out w5 HB5.out).mono ?_
      rintro e w6 ⟨o6, rfl, hd6, hb6⟩
      have HB6 := Lib.hid (bstep HB5.out hb6)
      have HM6 := Lib.hid (HM5.out.below hb6)
      have HO6 := Lib.hid (HO5.out.below hb6)
      have HD6 := Lib.hid hd6
      obtain ⟨eo, ec, rfl, hop⟩ := hd6.pairs.open_
      clear hb6 hd6 HEG HM5 HO5 hop
      have HRL := Lib.hid (rloops40_any n _ es w6 HD6.out.pairs HD6.out.m_le HD6.out.n_le)
      have HRN := Lib.hid (fun W (hW : Below w6.heap.size w6 W) => rneed40_any n _ es W (HD6.out.pairs.below hW) HD6.out.m_le HD6.out.n_le)
      have hlps : ∀ r ∈ lpsC n es, r.length ≤ 1000000 := fun r hr => by
        obtain ⟨l', hl'⟩ := (lps_ok n es n).each r hr
        have h1 := sub_len r (List.range n) hl'.nodup (fun x hx => List.mem_range.2 (othN_mem.1 (hl'.oth x hx)).1)
        rw [List.length_range] at h1
        omega
      have hlpl : (lpsC n es).length ≤ 1000000 := by
        have h1 := (lps_ok n es n).len
        have h2 := lps_size n es n
        show (lpsK n es n).1.length ≤ 1000000
        omega
      have HLP := Lib.hid (And.intro hlps hlpl)
      clear hlps hlpl
      generalize es.length = em at *
      go_wp2_with fail
      refine HRL.out.mono ?_
      rintro e w7 ⟨o7, rfl, ⟨vals7, hm7⟩, hb7⟩
      have HB7 := Lib.hid (bstep HB6.out hb7)
      have HB67 := Lib.hid hb7
      have HM7 := Lib.hid (HM6.out.below hb7)
      have HN7 := Lib.hid (Mat.rows ⟨vals7, hm7⟩)
      have HO7 := Lib.hid (HO6.out.below hb7)
      have hv7 := hm7.1
      rw [HBL.out] at hv7
      obtain ⟨ko, kc, rfl⟩ := hm7.2.1.shape
      rw [hv7] at HN7 ⊢
      clear hb7 hm7 HRL HM6 HO6 hv7
      have HEQ := Lib.hid (eqFunc_yes _ _ _ w7 HM7.out HN7.out HLP.out.2 HLP.out.1)
      go_wp2_with fail
      refine HEQ.out.mono ?_
      rintro e w8 ⟨rfl, hb8⟩
      have HB8 := Lib.hid (bstep HB67.out hb8)
      have HB28 := Lib.hid (bstep HB7.out hb8)
      have HO8 := Lib.hid (HO7.out.below hb8)
      clear hb8 HEQ HM7 HN7 HO7 HB67
      by_cases h12 : 12 < n
      · have d1 : decide ((12 : Int) < (n : Int)) = true := dec_yes (by omega)
        have hRR : R = (6, []) := by rw [← HR.out]; unfold ndF; rw [if_pos rfl, if_pos h12]
        have e1 := HR1.out
        have e2 := HR2.out
        rw [hRR] at e1 e2
        simp at e1 e2
        subst e1
        subst e2
        clear hRR
        go_wp2
        go_ret
        exact ⟨rfl, bstep HW2.out HB28.out⟩
      · have d1 : decide ((12 : Int) < (n : Int)) = false := dec_no (by omega)
        have hRR : R = (0, needC n es) := by rw [← HR.out]; unfold ndF; rw [if_pos rfl, if_neg h12]
        have e1 := HR1.out
        have e2 := HR2.out
        rw [hRR] at e1 e2 HO8
        simp only at e1 e2
        subst e1
        have HN2 := Lib.hid (HRN.out w8 HB8.out)
        have hnl : (needC n es).length ≤ 60 := by
          have h1 := sub_len (needC n es) (List.range n) (need_nodup n es) (fun x hx => List.mem_range.2 ((need_ok n es).lt x hx))
          rw [List.length_range] at h1
          omega
        clear hRR HRN
        go_wp2_with fail
        refine HN2.out.mono ?_
        rintro e w9 ⟨o9, rfl, ho9, hb9⟩
        have HB9 := Lib.hid (bstep HB28.out hb9)
        have HEQ9 := Lib.hid (equalN_any _ o9 _ _ w9 (HO8.out.below hb9) ho9.out.sl (by omega) (by omega))
        rw [dec_yes rfl] at HEQ9
        obtain ⟨qo, qc, rfl⟩ := ho9.out.shape
        clear hb9 ho9 HN2
        rw [e2] at HEQ9 ⊢
        go_wp2_with fail
        refine HEQ9.out.mono ?_
        rintro e w10 ⟨rfl, hb10⟩
        have HB10 := Lib.hid (bstep HW2.out (bstep HB9.out hb10))
        clear hb10
        go_wp2
        go_ret
        exact ⟨rfl, HB10.out⟩
    · have HEB := Lib.hid (fun W (hW : Below w2.heap.size w2 W) => redges40_bad v vr xv X l rs W (HC.out W hW) (by omega) hc)
      have h1 : ndF (sqC l rs X) (lgsOf l rs).length (sqEs l rs X) = (sqC l rs X, []) := if_neg hc
      have h2 : lpsF (sqC l rs X) (lgsOf l rs).length (sqEs l rs X) = (sqC l rs X, []) := if_neg hc
      rw [h1] at HN
      rw [h2] at HL HBO
      clear h1 h2 HC HQ2 HX2
      generalize sqC l rs X = c at *
      have hb : (c != 0) = true := bne_yes hc
      clear hc
      go_wp2_with fail
      refine (HN.out w2 (Below.refl _ _)).mono ?_
      rintro e w3 ⟨o1, rfl, ho1, hb3⟩
      have HB3 := Lib.hid hb3
      obtain ⟨oo, oc, rfl⟩ := ho1.shape
      clear hb3 ho1 HN
      go_wp2_with fail
      refine (HL.out w3 HB3.out).mono ?_
      rintro e w4 ⟨o2, rfl, ⟨vals, hm4⟩, hb4⟩
      have HB4 := Lib.hid (bstep HB3.out hb4)
      have hvl := hm4.1
      obtain ⟨po, pc, rfl⟩ := hm4.2.1.shape
      rw [hvl]
      clear hb4 hm4 HL hvl
      go_wp2_with fail
      refine (HBO.out w4 HB4.out).mono ?_
      rintro e w5 ⟨rfl, hb5⟩
      have HB5 := Lib.hid (bstep HB4.out hb5)
      clear hb5 HBO
      go_wp2_with fail
      refine (HEB.out w5 HB5.out).mono ?_
      rintro e w6 ⟨rfl, hb6⟩
      have HB6 := Lib.hid (bstep HW2.out (bstep HB5.out hb6))
      clear hb6 HEB
      go_wp2
      go_ret
      exact ⟨rfl, HB6.out⟩
  · go_wp2
    go_ret
    exact ⟨rfl, HW2.out⟩
end
end Go.Proofs.YtamogedpgkofjaaGreat
