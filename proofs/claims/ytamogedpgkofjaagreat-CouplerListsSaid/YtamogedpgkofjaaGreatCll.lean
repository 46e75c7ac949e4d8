/-
  The walk of CouplerLists (printed by wip/gen_Cl.py).
-/
import Derived.Test.YtamogedpgkofjaaGreatCla
import Derived.Test.YtamogedpgkofjaaGreatCrd
namespace Go.Proofs.YtamogedpgkofjaaGreat
section
open Go.RowKit
set_option linter.unusedVariables false
set_option linter.unusedSimpArgs false
attribute [local go_sem ↓] Go.wp_at_zero Go.wp_at_succ

theorem sqC_not {l : List BarD} {rs : List RunD} {X : List Int} : sqC l rs X ≠ 23 := by
  unfold sqC allE edgE
  split
  · split
    · decide
    · split
      · split <;> decide
      · decide
  · decide
set_option maxRecDepth 100000 in
set_option maxHeartbeats 8000000 in
theorem couplerLists_walk (w : World) (v : Value) (l : List BarD) (hp : Bars w v l) (hf : FitB l) (hl : l.length * 64 ≤ 140737488351232) (vr : Value) (rs : List RunD) (hr : Runs w vr rs) (hm : ∀ r ∈ rs, r.mark.size ≤ maxLen) (hlr : rs.length * 88 ≤ 140737488351232)
    (xv : Value) (X : List Int) (hx : Ints w xv X) (hlx : X.length * 8 ≤ 140737488351232) (wx : ∀ x ∈ X, (Lit.int .i64 x).wf = true)
    (qv : Value) (q : List Int) (hq : Ints w qv q) (hlq : q.length * 8 ≤ 140737488351232) (wq : ∀ x ∈ q, (Lit.int .i64 x).wf = true) (hcp : Caps qv) :
    Calls Tryz.prog 5 #[v, vr, xv, qv] w fun en w' => en = .returned (.bool true) ∧ Below w.heap.size w w' := by
  have hl2 : l.length ≤ 140737488355328 := by omega
  have hlr2 : rs.length ≤ 140737488355328 := by omega
  have HLG := Lib.hid (fun W (hW : Below w.heap.size w W) => clarge_any v vr xv X l rs W (hp.below hW) (hr.below hW) hl2 hlr2 hf (Sl.below hx hW) (by omega))
  clear hp hr hf hl hlr hm hx wx hl2 hlr2
  have HQ := Lib.hid hq
  have HCP := Lib.hid hcp
  obtain ⟨qo, qc, rfl⟩ := Sl.at_ hq
  clear hq hcp hlq wq
  by_cases h20 : 20 < q.length
  · have d3 : decide ((20 : Int) < (q.length : Int)) = true := dec_yes (by omega)
    have d4 : decide (20 < q.length) = true := dec_yes h20
    go_enter Tryz.func5, Tryz.ntmps5
    go_wp2_with fail
    refine (cqawake_any _).mono ?_
    rintro en w1 ⟨rfl, hb1⟩
    have HW1 := Lib.hid hb1
    clear hb1
    go_wp2_with fail
    refine (HLG.out _ HW1.out).mono ?_
    rintro en w2 ⟨b, rfl, hb2, hq2⟩
    have HW2 := Lib.hid (bstep HW1.out hb2)
    have HQ2 := Lib.hid (fun h => ((hq2 h).1.below hb2 : Cg w2 v vr xv X l rs))
    have HX2 := Lib.hid (fun h => (hq2 h).2)
    have HQV := Lib.hid (fun W (hW : Below w2.heap.size w2 W) => (HQ.out.below (bstep (bstep HW1.out hb2) hW) : Ints W (.slice qo q.length qc) q))
    clear hb2 hq2 HW1 HLG
    cases b
    · go_wp2
      go_ret
      exact ⟨rfl, HW2.out⟩
    · go_wp2
      go_ret
      exact ⟨rfl, HW2.out⟩
  · have d3 : decide ((20 : Int) < (q.length : Int)) = false := dec_no (by omega)
    have d4 : decide (20 < q.length) = false := dec_no h20
    go_enter Tryz.func5, Tryz.ntmps5
    go_wp2_with fail
    refine (cqawake_any _).mono ?_
    rintro en w1 ⟨rfl, hb1⟩
    have HW1 := Lib.hid hb1
    clear hb1
    go_wp2_with fail
    refine (HLG.out _ HW1.out).mono ?_
    rintro en w2 ⟨b, rfl, hb2, hq2⟩
    have HW2 := Lib.hid (bstep HW1.out hb2)
    have HQ2 := Lib.hid (fun h => ((hq2 h).1.below hb2 : Cg w2 v vr xv X l rs))
    have HX2 := Lib.hid (fun h => (hq2 h).2)
    have HQV := Lib.hid (fun W (hW : Below w2.heap.size w2 W) => (HQ.out.below (bstep (bstep HW1.out hb2) hW) : Ints W (.slice qo q.length qc) q))
    clear hb2 hq2 HW1 HLG
    cases b
    · have HC := Lib.hid (fun W (hW : Below w2.heap.size w2 W) => (HQ2.out rfl).below hW)
      have hX100 := HX2.out rfl
      have h14c := Lib.hid (HC.out w2 (Below.refl _ _)).hA.h14
      obtain ⟨R, hR⟩ : ∃ R, ordF (sqC l rs X) (lgsOf l rs).length (sqEs l rs X) q = R := ⟨_, rfl⟩
      have HRR := Lib.hid hR
      have HO := Lib.hid (fun W (hW : Below w2.heap.size w2 W) => corderF_any v vr xv (.slice qo q.length qc) X q l rs W (HC.out W hW) (HQV.out W hW) (by omega))
      have HK := Lib.hid (fun W (hW : Below w2.heap.size w2 W) => ccheck_any v vr xv (.slice qo q.length qc) X q l rs W (HC.out W hW) (HQV.out W hW) (by omega) R hR _ rfl)
      rw [hR] at HO
      clear HQ2 HX2 hR
      by_cases hc : sqC l rs X = 0
      · have HEG := Lib.hid (fun W (hW : Below w2.heap.size w2 W) => redges40_good v vr xv X l rs W (HC.out W hW) (by omega) hc)
        have h14 := h14c.out (sqC_zero hc).1
        have HCN := Lib.hid (fun W (hW : Below w2.heap.size w2 W) => rcnt39 (HC.out W hW).hA (sqC_zero hc).1)
        have HLI := Lib.hid (fun W (hW : Below w2.heap.size w2 W) => rlist40_any vr (.slice qo q.length qc) (lgsOf l rs).length q W (by omega) (HCN.out W hW) (HQV.out W hW) HCP.out (by omega))
        rw [hc] at HRR
        clear hc HC HCN h14c
        generalize sqEs l rs X = es at *
        generalize (lgsOf l rs).length = n at *
        by_cases hg : gvnC n q = 0
        · have hRR : ordR n es q = R := by have h1 := HRR.out; unfold ordF at h1; rw [if_pos rfl, if_pos hg] at h1; exact h1
          rw [hg] at HLI
          cases ho : ordC n es q with
          | none =>
            rw [ordR_none ho] at hRR
            subst hRR
            have hz : chkF (((23, []) : Int × List Nat).1) = (false, 0) := rfl
            rw [hz] at HK
            clear hz hg HRR
            go_wp2_with fail
            refine (HK.out w2 (Below.refl _ _)).mono ?_
            rintro e w3 ⟨rfl, hb3⟩
            have HB3 := Lib.hid hb3
            clear hb3 HK
            go_wp2_with fail
            refine (HO.out w3 HB3.out).mono ?_
            rintro e w4 ⟨o1, rfl, ho1, hb4⟩
            have HB4 := Lib.hid (bstep HB3.out hb4)
            have HO4 := Lib.hid (ho1.sl)
            obtain ⟨oo, oc, rfl⟩ := ho1.shape
            clear hb4 ho1 HO
            go_wp2_with fail
            refine (HEG.out w4 HB4.out).mono ?_
            rintro e w5 ⟨o5, rfl, hd5, hb5⟩
            have HB5 := Lib.hid (bstep HB4.out hb5)
            have HO5 := Lib.hid (HO4.out.below hb5)
            have HD5 := Lib.hid hd5
            obtain ⟨eo, ec, rfl, hop⟩ := hd5.pairs.open_
            clear hb5 hd5 HEG HO4 hop
            generalize hem : es.length = em at *
            clear hem
            go_wp2_with fail
            refine (HLI.out w5 HB5.out).mono ?_
            rintro e w6 ⟨rfl, hb6⟩
            have HB6 := Lib.hid (bstep HB5.out hb6)
            have HO6 := Lib.hid (HO5.out.below hb6)
            have HD6 := Lib.hid (HD5.out.below hb6)
            clear hb6 HLI HO5 HD5
            have HRO := Lib.hid (rord40_any n _ (.slice qo q.length qc) es q w6 HD6.out.pairs HD6.out.m_le HD6.out.n_le (HQV.out w6 HB6.out) (by omega))
            rw [ho] at HRO
            clear ho
            go_wp2_with fail
            refine HRO.out.mono ?_
            rintro e w7 ⟨o7, rfl, ho7, hb7⟩
            have HB7 := Lib.hid (bstep HB6.out hb7)
            obtain ⟨ro, rc, rfl⟩ := ho7.out.shape
            clear hb7 ho7 HRO
            go_wp2
            go_ret
            exact ⟨rfl, bstep HW2.out HB7.out⟩
          | some D =>
            rw [ordR_some ho] at hRR
            subst hRR
            have hz : chkF (((0, D) : Int × List Nat).1) = (true, 0) := rfl
            rw [hz] at HK
            clear hz hg HRR
            go_wp2_with fail
            refine (HK.out w2 (Below.refl _ _)).mono ?_
            rintro e w3 ⟨rfl, hb3⟩
            have HB3 := Lib.hid hb3
            clear hb3 HK
            go_wp2_with fail
            refine (HO.out w3 HB3.out).mono ?_
            rintro e w4 ⟨o1, rfl, ho1, hb4⟩
            have HB4 := Lib.hid (bstep HB3.out hb4)
            have HO4 := Lib.hid (ho1.sl)
            obtain ⟨oo, oc, rfl⟩ := ho1.shape
            clear hb4 ho1 HO
            go_wp2_with fail
            refine (HEG.out w4 HB4.out).mono ?_
            rintro e w5 ⟨o5, rfl, hd5, hb5⟩
            have HB5 := Lib.hid (bstep HB4.out hb5)
            have HO5 := Lib.hid (HO4.out.below hb5)
            have HD5 := Lib.hid hd5
            obtain ⟨eo, ec, rfl, hop⟩ := hd5.pairs.open_
            clear hb5 hd5 HEG HO4 hop
            generalize hem : es.length = em at *
            clear hem
            go_wp2_with fail
            refine (HLI.out w5 HB5.out).mono ?_
            rintro e w6 ⟨rfl, hb6⟩
            have HB6 := Lib.hid (bstep HB5.out hb6)
            have HO6 := Lib.hid (HO5.out.below hb6)
            have HD6 := Lib.hid (HD5.out.below hb6)
            clear hb6 HLI HO5 HD5
            have HRO := Lib.hid (rord40_any n _ (.slice qo q.length qc) es q w6 HD6.out.pairs HD6.out.m_le HD6.out.n_le (HQV.out w6 HB6.out) (by omega))
            rw [ho] at HRO
            have HOC := Lib.hid ho
            clear ho
            go_wp2_with fail
            refine HRO.out.mono ?_
            rintro e w7 ⟨o7, rfl, ho7, hb7⟩
            have HB7 := Lib.hid (bstep HB6.out hb7)
            have HO7 := Lib.hid (HO6.out.below hb7)
            have ho8 : Own w7 w6.heap.size 3 natf o7 D := ho7.out
            have hDn : D.length ≤ 1000000 := by have h1 := (ord_ok HOC.out).len; have h2 := othN_len n q; omega
            have HEQ := Lib.hid (equalN_any _ o7 D D w7 HO7.out ho8.sl (by omega) (by omega))
            rw [dec_yes rfl] at HEQ
            obtain ⟨ro, rc, rfl⟩ := ho8.shape
            clear hb7 ho7 HRO ho8
            generalize D.length = dl at *
            go_wp2_with fail
            refine HEQ.out.mono ?_
            rintro e w8 ⟨rfl, hb8⟩
            have HB8 := Lib.hid (bstep HW2.out (bstep HB7.out hb8))
            clear hb8
            go_wp2
            go_ret
            exact ⟨rfl, HB8.out⟩
        · have hRR : (gvnC n q, []) = R := by have h1 := HRR.out; unfold ordF at h1; rw [if_pos rfl, if_neg hg] at h1; exact h1
          subst hRR
          have hz : chkF (((gvnC n q, []) : Int × List Nat).1) = (false, gvnC n q) := by
            show (decide (gvnC n q = 0), if gvnC n q = 23 then 0 else gvnC n q) = _
            rw [dec_no hg, if_neg (by rcases gvn_codes n q with h | h | h <;> rw [h] <;> decide)]
          rw [hz] at HK
          clear hz HRR
          generalize gvnC n q = g at *
          have hb : (g != 0) = true := bne_yes hg
          have hb3 : (g == 0) = false := beq_no hg
          clear hg
          go_wp2_with fail
          refine (HK.out w2 (Below.refl _ _)).mono ?_
          rintro e w3 ⟨rfl, hb3⟩
          have HB3 := Lib.hid hb3
          clear hb3 HK
          go_wp2_with fail
          refine (HO.out w3 HB3.out).mono ?_
          rintro e w4 ⟨o1, rfl, ho1, hb4⟩
          have HB4 := Lib.hid (bstep HB3.out hb4)
          have HO4 := Lib.hid (ho1.sl)
          obtain ⟨oo, oc, rfl⟩ := ho1.shape
          clear hb4 ho1 HO
          go_wp2_with fail
          refine (HEG.out w4 HB4.out).mono ?_
          rintro e w5 ⟨o5, rfl, hd5, hb5⟩
          have HB5 := Lib.hid (bstep HB4.out hb5)
          have HO5 := Lib.hid (HO4.out.below hb5)
          have HD5 := Lib.hid hd5
          obtain ⟨eo, ec, rfl, hop⟩ := hd5.pairs.open_
          clear hb5 hd5 HEG HO4 hop
          generalize hem : es.length = em at *
          clear hem
          go_wp2_with fail
          refine (HLI.out w5 HB5.out).mono ?_
          rintro e w6 ⟨rfl, hb6⟩
          have HB6 := Lib.hid (bstep HB5.out hb6)
          have HO6 := Lib.hid (HO5.out.below hb6)
          have HD6 := Lib.hid (HD5.out.below hb6)
          clear hb6 HLI HO5 HD5
          go_wp2
          go_ret
          exact ⟨rfl, bstep HW2.out HB6.out⟩
      · have HEB := Lib.hid (fun W (hW : Below w2.heap.size w2 W) => redges40_bad v vr xv X l rs W (HC.out W hW) (by omega) hc)
        have hRR : (sqC l rs X, []) = R := by have h1 := HRR.out; unfold ordF at h1; rw [if_neg hc] at h1; exact h1
        subst hRR
        have hz : chkF (((sqC l rs X, []) : Int × List Nat).1) = (false, sqC l rs X) := by
          show (decide (sqC l rs X = 0), if sqC l rs X = 23 then 0 else sqC l rs X) = _
          rw [dec_no hc, if_neg sqC_not]
        rw [hz] at HK
        clear hz HRR HC h14c
        generalize sqC l rs X = c at *
        have hb : (c != 0) = true := bne_yes hc
        have hb3 : (c == 0) = false := beq_no hc
        clear hc
        go_wp2_with fail
        refine (HK.out w2 (Below.refl _ _)).mono ?_
        rintro e w3 ⟨rfl, hb3⟩
        have HB3 := Lib.hid hb3
        clear hb3 HK
        go_wp2_with fail
        refine (HO.out w3 HB3.out).mono ?_
        rintro e w4 ⟨o1, rfl, ho1, hb4⟩
        have HB4 := Lib.hid (bstep HB3.out hb4)
        have HO4 := Lib.hid (ho1.sl)
        obtain ⟨oo, oc, rfl⟩ := ho1.shape
        clear hb4 ho1 HO
        go_wp2_with fail
        refine (HEB.out w4 HB4.out).mono ?_
        rintro e w5 ⟨rfl, hb5⟩
        have HB5 := Lib.hid (bstep HW2.out (bstep HB4.out hb5))
        clear hb5 HEB
        go_wp2
        go_ret
        exact ⟨rfl, HB5.out⟩
    · go_wp2
      go_ret
      exact ⟨rfl, HW2.out⟩
end
end Go.Proofs.YtamogedpgkofjaaGreat
