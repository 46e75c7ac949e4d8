/-
  The walk of CouplerLeast (printed by wip/gen_Cl.py).
-/
import Derived.Test.YtamogedpgkofjaaGreatCli
import Derived.Test.YtamogedpgkofjaaGreatCqn
namespace Go.Proofs.YtamogedpgkofjaaGreat
section
open Go.RowKit
set_option linter.unusedVariables false
set_option linter.unusedSimpArgs false
attribute [local go_sem ↓] Go.wp_at_zero Go.wp_at_succ

theorem erase_len {N : List Nat} {i : Nat} (h : i < N.length) : (N.eraseIdx i).length = N.length - 1 := by rw [List.length_eraseIdx, if_pos h]
theorem erase_mem {N : List Nat} {i x : Nat} (h : x ∈ N.eraseIdx i) : x ∈ N := (List.eraseIdx_sublist _ _).subset h
theorem snoc_nodup {N : List Nat} {m : Nat} (h : N.Nodup) (hm : m ∉ N) : (N ++ [m]).Nodup := List.nodup_append.2 ⟨h, by simp, fun a ha b hb hab => by rw [List.mem_singleton.1 hb] at hab; subst hab; exact hm ha⟩
set_option maxRecDepth 100000 in
set_option maxHeartbeats 16000000 in
theorem couplerLeast_walk (w : World) (v : Value) (l : List BarD) (hp : Bars w v l) (hf : FitB l) (hl : l.length * 64 ≤ 140737488351232) (vr : Value) (rs : List RunD) (hr : Runs w vr rs) (hm : ∀ r ∈ rs, r.mark.size ≤ maxLen) (hlr : rs.length * 88 ≤ 140737488351232)
    (xv : Value) (X : List Int) (hx : Ints w xv X) (hlx : X.length * 8 ≤ 140737488351232) (wx : ∀ x ∈ X, (Lit.int .i64 x).wf = true)
    (qv : Value) (q : List Int) (hq : Ints w qv q) (hlq : q.length * 8 ≤ 140737488351232) (wq : ∀ x ∈ q, (Lit.int .i64 x).wf = true)
    (kk : Int) (wk : (Lit.int .u8 kk).wf = true) :
    Calls Tryz.prog 7 #[v, vr, xv, qv, .int .u8 kk] w fun en w' => en = .returned (.bool true) ∧ Below w.heap.size w w' := by
  have hl2 : l.length ≤ 140737488355328 := by omega
  have hlr2 : rs.length ≤ 140737488355328 := by omega
  have HLG := Lib.hid (fun W (hW : Below w.heap.size w W) => clarge_any v vr xv X l rs W (hp.below hW) (hr.below hW) hl2 hlr2 hf (Sl.below hx hW) (by omega))
  clear hp hr hf hl hlr hm hx wx hl2 hlr2
  have HQ := Lib.hid hq
  obtain ⟨qo, qc, rfl⟩ := Sl.at_ hq
  have hk0 : 0 ≤ kk ∧ kk ≤ 255 := by
    simpa [Lit.wf, IntKind.min, IntKind.max, IntKind.signed, IntKind.bits] using wk
  clear hq hlq wq wk
  by_cases h20 : 20 < q.length
  · have d3 : decide ((20 : Int) < (q.length : Int)) = true := dec_yes (by omega)
    have d4 : decide (20 < q.length) = true := dec_yes h20
    go_enter Tryz.func7, Tryz.ntmps7
    go_wp2_with fail
    refine (cqawake_any _).mono ?_
    rintro en w1 ⟨rfl, hb1⟩
    have HW1 := Lib.hid hb1
    clear hb1
    go_wp2_with fail
    refine (HLG.out _ HW1.out).mono ?_
    rintro en w2 ⟨b, rfl, hb2, hq2⟩
    have HW2 := Lib.hid (bstep HW1.out hb2)
    have HQ2 := Lib.hid (fun h => ((hq2 h).1.below hb2 : Cg w2 v vr xv X l rs))
    have HX2 := Lib.hid (fun h => (hq2 h).2)
    have HQV := Lib.hid (fun W (hW : Below w2.heap.size w2 W) => (HQ.out.below (bstep (bstep HW1.out hb2) hW) : Ints W (.slice qo q.length qc) q))
    clear hb2 hq2 HW1 HLG
    cases b
    · go_wp2
      go_ret
      exact ⟨rfl, HW2.out⟩
    · go_wp2
      go_ret
      exact ⟨rfl, HW2.out⟩
  · have d3 : decide ((20 : Int) < (q.length : Int)) = false := dec_no (by omega)
    have d4 : decide (20 < q.length) = false := dec_no h20
    go_enter Tryz.func7, Tryz.ntmps7
    go_wp2_with fail
    refine (cqawake_any _).mono ?_
    rintro en w1 ⟨rfl, hb1⟩
    have HW1 := Lib.hid hb1
    clear hb1
    go_wp2_with fail
    refine (HLG.out _ HW1.out).mono ?_
    rintro en w2 ⟨b, rfl, hb2, hq2⟩
    have HW2 := Lib.hid (bstep HW1.out hb2)
    have HQ2 := Lib.hid (fun h => ((hq2 h).1.below hb2 : Cg w2 v vr xv X l rs))
    have HX2 := Lib.hid (fun h => (hq2 h).2)
    have HQV := Lib.hid (fun W (hW : Below w2.heap.size w2 W) => (HQ.out.below (bstep (bstep HW1.out hb2) hW) : Ints W (.slice qo q.length qc) q))
    clear hb2 hq2 HW1 HLG
    cases b
    · have HC := Lib.hid (fun W (hW : Below w2.heap.size w2 W) => (HQ2.out rfl).below hW)
      have hX100 := HX2.out rfl
      have HN := Lib.hid (fun W (hW : Below w2.heap.size w2 W) => cneeded_any v vr xv X l rs W (HC.out W hW))
      clear HQ2 HX2
      by_cases hgood : sqC l rs X = 0 ∧ ¬ 12 < (lgsOf l rs).length
      · obtain ⟨hc, h12⟩ := hgood
        have hR : ndF (sqC l rs X) (lgsOf l rs).length (sqEs l rs X) = (0, needC (lgsOf l rs).length (sqEs l rs X)) := by rw [hc]; unfold ndF; rw [if_pos rfl, if_neg h12]
        rw [hR] at HN
        have hok := (sqC_zero hc).1
        have HCN := Lib.hid (fun W (hW : Below w2.heap.size w2 W) => bcount_any v vr xv X l rs W (HC.out W hW) hok)
        have HKT := Lib.hid (fun (L : List Nat) tv W (hW : Below w2.heap.size w2 W) (ht : Nats W tv L) hl hn hlt hb => chk_true v vr xv tv X L l rs W (HC.out W hW) hc ht hl hn hlt hb)
        have HKF := Lib.hid (fun (L : List Nat) tv W (hW : Below w2.heap.size w2 W) (ht : Nats W tv L) hl hn hlt hb => chk_false v vr xv tv X L l rs W (HC.out W hW) hc ht hl hn hlt hb)
        have HKA := Lib.hid (fun W (hW : Below w2.heap.size w2 W) => chk_any v vr xv (.slice qo q.length qc) X q l rs W (HC.out W hW) hc (HQV.out W hW) (by omega))
        generalize sqEs l rs X = es at *
        generalize (lgsOf l rs).length = n at *
        have HNO := Lib.hid (need_ok n es)
        have HND := Lib.hid (need_nodup n es)
        obtain ⟨N, hN⟩ : ∃ N, needC n es = N := ⟨_, rfl⟩
        rw [hN] at HN HNO HND HKA
        have hNl : N.length ≤ 12 := by
          have h1 := sub_len N (List.range n) HND.out (fun x hx => List.mem_range.2 (HNO.out.lt x hx))
          rw [List.length_range] at h1
          omega
        clear hN hR hc hok HC
        go_wp2_with fail
        refine (HN.out w2 (Below.refl _ _)).mono ?_
        rintro e w3 ⟨o3, rfl, ho3, hb3⟩
        have HB3 := Lib.hid hb3
        have HO3 := Lib.hid ho3
        obtain ⟨oo, oc, rfl⟩ := ho3.shape
        have HK1 := Lib.hid (HKT.out N _ w3 hb3 ho3.sl (by omega) HND.out HNO.out.lt HNO.out.brk)
        clear hb3 ho3 HN
        generalize hnl : N.length = nl at *
        have HNL := Lib.hid hnl
        clear hnl
        go_wp2_with fail
        refine HK1.out.mono ?_
        rintro e w4 ⟨rfl, hb4⟩
        have HB4 := Lib.hid (bstep HB3.out hb4)
        have HO4 := Lib.hid (HO3.out.below hb4)
        have HIS := Lib.hid (isSorted_yes _ N w4 (HO3.out.below hb4).sl (by rw [HNL.out]; omega) HNO.out.sort)
        clear hb4 HK1 HO3
        go_wp2_with fail
        refine HIS.out.mono ?_
        rintro e w5 ⟨rfl, hb5⟩
        have HB5 := Lib.hid (bstep HB4.out hb5)
        have HO5 := Lib.hid (HO4.out.below hb5)
        clear hb5 HIS HO4
        go_wp2_with fail
        go_loopw [62] (fun i wr => ∃ k : Nat, k ≤ nl ∧ i = .int .i64 (k : Int) ∧ Hid (Below w5.heap.size w5 wr)) (fun i _ => nl - (intOf i).toNat)
        case atStart => exact ⟨0, Nat.zero_le _, rfl, Below.refl _ _⟩
        case round =>
          obtain ⟨k, hk, rfl, HI⟩ := hrel
          by_cases hkn : k < nl
          · have HCL := Lib.hid (clone_natA _ _ N wr (HO5.out.below HI.out) (by rw [HNL.out]; omega))
            have k0 : (0 : Int) ≤ (k : Int) := Int.natCast_nonneg _
            have q1 : IntKind.i64.wrap ((k : Int) + 1) = (k : Int) + 1 := IntWalk.i64_in _ (by omega)
            go_wp2_with fail
            refine HCL.out.mono ?_
            rintro e w6 ⟨cv, rfl, hcv, hb6⟩
            have HB6 := Lib.hid (bstep HI.out hb6)
            obtain ⟨cg, cc, hcvs, _, _, _⟩ := hcv.form (by rw [HNL.out]; omega)
            subst hcvs
            have HDE := Lib.hid (delete_nat cg cc _ N k w6 hcv (by rw [HNL.out]; omega) (by rw [HNL.out]; exact hkn))
            rw [HNL.out] at HDE ⊢
            have HCG := Lib.hid (hcv.lt cg rfl).1
            clear hb6 HCL hcv
            go_wp2_with fail
            refine HDE.out.mono ?_
            rintro e w7 ⟨rfl, ho7, hg7⟩
            have HB7 := Lib.hid (HB6.out.grown hg7 HB6.out.size (fun g e => by cases e; have := HI.out.size; have := HCG.out; omega) : Below w5.heap.size w5 w7)
            have HK7 := Lib.hid (HKF.out (N.eraseIdx k) _ w7 (bstep HB5.out HB7.out) (by have h := ho7.sl; exact h) (by rw [erase_len (by rw [HNL.out]; exact hkn), HNL.out]; omega) (HND.out.sublist (List.eraseIdx_sublist _ _)) (fun x hx => HNO.out.lt x (erase_mem hx)) (fun hb => by
              have h1 := HNO.out.least _ hb
              rw [erase_len (by rw [HNL.out]; exact hkn), HNL.out] at h1
              omega))
            clear ho7 hg7 HDE
            go_wp2_with fail
            refine HK7.out.mono ?_
            rintro e w8 ⟨rfl, hb8⟩
            have HB8 := Lib.hid (bstep HB7.out hb8)
            clear hb8 HK7
            go_wp2
            go_roundw
            case rel => exact ⟨k + 1, by omega, by go_num, HB8.out⟩
            case measure => simp [intOf]; omega
          · obtain rfl : k = nl := by omega
            obtain ⟨b, c, hbc, hka⟩ := HKA.out wr (bstep HB5.out HI.out)
            have HKA2 := Lib.hid hka
            have hfin : ∀ w6, Below w5.heap.size w5 w6 → True := fun _ _ => trivial
            clear hka HKA hfin hkn hk
            have HLT : Hid (b = true → k ≤ q.length) := fun h => by
              rcases hbc with ⟨_, _, h3⟩ | h
              · exact h3
              · rename_i h2; rw [h] at h2; cases h2
            have HB0 : Hid (b = true → c = 0) := fun h => by
              rcases hbc with ⟨_, h3, _⟩ | h
              · exact h3
              · rename_i h2; rw [h] at h2; cases h2
            clear hbc
            have HCNL := Lib.hid (fun (m : Nat) W (hW : Below w5.heap.size w5 W) => containsN_any _ N m W (HO5.out.below hW).sl (by rw [HNL.out]; omega))
            have HCLO := Lib.hid (fun W (hW : Below w5.heap.size w5 W) => clone_natA _ _ N W (HO5.out.below hW) (by rw [HNL.out]; omega))
            clear HKF
            cases b
            · by_cases hc0 : c = 0
              · subst hc0
                go_wp2_with fail
                refine HKA2.out.mono ?_
                rintro e w6 ⟨rfl, hb6⟩
                have HB16 := Lib.hid (bstep HI.out hb6)
                clear hb6 HKA2
                go_wp2_with fail
                refine (HCN.out w6 (bstep HB5.out HB16.out)).mono ?_
                rintro e w7 ⟨rfl, hb7⟩
                have HB17 := Lib.hid (bstep HB16.out hb7)
                have HB6 := Lib.hid (bstep HB5.out HB17.out)
                clear hb7 HCN
                obtain ⟨w6, rfl⟩ : ∃ w : World, w = w7 := ⟨_, rfl⟩
                by_cases hn0 : 0 < n
                · have e0 : decide ((0 : Int) < (n : Int)) = true := dec_yes (by omega)
                  have e2 : ¬ (n : Int) = 0 := by omega
                  have e3 : ¬ n = 0 := by omega
                  obtain ⟨m, hm, hmn⟩ : ∃ m : Nat, kk.tmod (n : Int) = (m : Int) ∧ m < n := by
                    rw [Int.tmod_eq_emod_of_nonneg hk0.1]
                    have h1 := Int.emod_nonneg kk (show (n : Int) ≠ 0 by omega)
                    have h2 := Int.emod_lt_of_pos kk (show (0 : Int) < (n : Int) by omega)
                    exact ⟨(kk % (n : Int)).toNat, by omega, by omega⟩
                  have KW : IntKind.i64.wrap kk = kk := IntWalk.i64_in _ (by omega)
                  have KW2 : IntKind.i64.wrap (m : Int) = (m : Int) := IntWalk.i64_in _ (by omega)
                  have HM := Lib.hid (HCNL.out m w6 HB17.out)
                  go_wp2_with fail
                  refine HM.out.mono ?_
                  rintro e w8 ⟨rfl, rfl⟩
                  by_cases hmN : m ∈ N
                  · rw [dec_yes hmN]
                    clear hmN HM
                    go_wp2
                    go_ret
                    exact ⟨rfl, bstep HW2.out HB6.out⟩
                  · rw [dec_no hmN]
                    have HKM := Lib.hid (fun tv W (hW : Below w2.heap.size w2 W) (ht : Nats W tv (N ++ [m])) => HKT.out (N ++ [m]) tv W hW ht (by rw [List.length_append, HNL.out]; simp; omega) (snoc_nodup HND.out hmN) (fun x hx => by
                      rcases List.mem_append.1 hx with h | h
                      · exact HNO.out.lt x h
                      · rw [List.mem_singleton.1 h]; exact hmn) (brk_mono (fun x hx => by rw [ntI_app]; exact List.mem_append_left _ hx) HNO.out.brk))
                    clear hmN HM HCNL HKT
                    have HCLO2 := HCLO
                    clear HCLO
                    have HDR : Hid (Below w6.heap.size w6 w6.drew) := (Below.refl _ _).drew
                    have HCLO := Lib.hid (fun W (hW : Below w6.heap.size w6 W) => HCLO2.out W (bstep HB17.out hW))
                    have KM := hm
                    go_wp2_with fail
                    refine wp_region_held_drew (S := fun _ => True) (by kernel_rfl) trivial (fun hS => ?_)
                    refine wpAnyH_takeV (i := 0) (some 128) v rfl rfl (by kernel_rfl) (fun _ _ _ h => h) (Or.inl ⟨by rfl, (fun W _ => by rfl)⟩) hS ?_
                    simp only [Act.put, List.setIfInBounds_toArray, List.set_cons_zero, List.set_cons_succ]
                    refine wpAnyH_takeV (i := 1) (some 129) vr rfl rfl (by kernel_rfl) (fun _ _ _ h => h) (Or.inl ⟨by rfl, (fun W _ => by rfl)⟩) hS ?_
                    simp only [Act.put, List.setIfInBounds_toArray, List.set_cons_zero, List.set_cons_succ]
                    refine wpAnyH_takeV (i := 2) (some 130) xv rfl rfl (by kernel_rfl) (fun _ _ _ h => h) (Or.inl ⟨by rfl, (fun W _ => by rfl)⟩) hS ?_
                    simp only [Act.put, List.setIfInBounds_toArray, List.set_cons_zero, List.set_cons_succ]
                    refine wpAnyH_takeV (i := 3) (some 131) (.slice oo k oc) rfl rfl (by kernel_rfl) (fun _ _ _ h => h) (Or.inl ⟨by rfl, (fun W _ => by rfl)⟩) hS ?_
                    simp only [Act.put, List.setIfInBounds_toArray, List.set_cons_zero, List.set_cons_succ]
                    refine wpAnyH_takeV (i := 5) (some 133) (.int .u8 kk) rfl rfl (by kernel_rfl) (fun _ _ _ h => h) (Or.inl ⟨by rfl, (fun W _ => by rfl)⟩) hS ?_
                    simp only [Act.put, List.setIfInBounds_toArray, List.set_cons_zero, List.set_cons_succ]
                    refine wpAnyH_takeV (i := 6) (some 134) (.int .i64 kk) rfl rfl (by kernel_rfl) (fun _ _ _ h => h) (Or.inl ⟨by rfl, (by intro W hW; have := KW; go_simp)⟩) hS ?_
                    simp only [Act.put, List.setIfInBounds_toArray, List.set_cons_zero, List.set_cons_succ]
                    refine wpAnyH_takeV (i := 7) (some 135) (.int .i64 (n : Int)) rfl rfl (by kernel_rfl) (fun _ _ _ h => h) (Or.inl ⟨by rfl, (fun W _ => by rfl)⟩) hS ?_
                    simp only [Act.put, List.setIfInBounds_toArray, List.set_cons_zero, List.set_cons_succ]
                    refine wpAnyH_takeV (i := 8) (some 136) (.int .i64 (m : Int)) rfl rfl (by kernel_rfl) (fun _ _ _ h => h) (Or.inl ⟨by rfl, (by intro W hW; have := KM; go_simp)⟩) hS ?_
                    simp only [Act.put, List.setIfInBounds_toArray, List.set_cons_zero, List.set_cons_succ]
                    refine wpAnyH_ready (rs := [4, 9]) (by kernel_rfl) (by simp) ?_
                    refine (AllReadyH.cons (o := _) rfl (fun K' HK => ?_) (AllReadyH.cons (o := _) rfl (fun K' HK => ?_) AllReadyH.nil))
                    · refine step_callA rfl (some 132) rfl 30 #[.slice oo k oc] (by go_simp) (fun u W => Own W w6.heap.size 3 natf u N ∧ Below w6.drew.heap.size w6.drew W) ((HCLO.out w6.drew (HDR.out)).mono fun e w' ⟨v', h1, h2, h3⟩ => ⟨v', h1, h2.mono ((HDR.out).size), h3⟩) ?_
                      rintro u W7 ⟨hu, hb7⟩
                      have HO7 := Lib.hid hu
                      have HB7 := Lib.hid (bstep HDR.out hb7 : Below w6.heap.size w6 W7)
                      clear hu hb7
                      refine HK.out _ _ trivial (fun hS => ?_)
                      clear HK K'
                      simp only [Act.put, List.setIfInBounds_toArray, List.set_cons_zero, List.set_cons_succ]
                      refine wpAnyH_ready (rs := [9]) (by kernel_rfl) (by simp) ?_
                      refine (AllReadyH.cons (o := _) rfl (fun K' HK => ?_) AllReadyH.nil)
                      refine step_build1 _ _ rfl _ (.tmp 136) rfl (some 137) rfl (.int .i64 (m : Int)) _ rfl (run_build_i _ _) ?_
                      obtain ⟨W8, hW8⟩ : ∃ W8, W7.alloc (.cells #[.int .i64 (m : Int)] 3) = W8 := ⟨_, rfl⟩
                      have HL8 : Hid (BlkIs W8 W7.heap.size 3 #[.int .i64 (m : Int)] ∧ Own W8 w6.heap.size 3 natf u N ∧ Below w6.heap.size w6 W8) := by
                        rw [← hW8]
                        exact ⟨BlkIs.new _ _ _, HO7.out.alloc _, bstep HB7.out (below_new _ _)⟩
                      rw [hW8]
                      clear hW8
                      refine HK.out _ _ trivial (fun hS => ?_)
                      clear HK K'
                      simp only [Act.put, List.setIfInBounds_toArray, List.set_cons_zero, List.set_cons_succ]
                      refine wpAnyH_ready (rs := [10]) (by kernel_rfl) (by simp) ?_
                      refine (AllReadyH.cons (o := _) rfl (fun K' HK => ?_) AllReadyH.nil)
                      refine step_pushK W8 rfl (.tmp 132) (.tmp 137) 24 rfl 3 8 elemInt w6.heap.size natf _ N m _ rfl HL8.out.2.1 (HL8.out.1.cell 0) rfl rfl (by rw [HNL.out]; omega) (by omega) (HL8.out.2.2).size (some 138) rfl ?_
                      intro v9 W9 hp
                      have HP := Lib.hid hp.own
                      have HB9 := Lib.hid ((HL8.out.2.2).grown hp.grown (HL8.out.2.2).size (fun g e => (HL8.out.2.1.lt g e).1) : Below w6.heap.size w6 W9)
                      clear hp
                      refine HK.out _ _ trivial (fun hS => ?_)
                      clear HK K'
                      simp only [Act.put, List.setIfInBounds_toArray, List.set_cons_zero, List.set_cons_succ]
                      refine wpAnyH_ready (rs := [11]) (by kernel_rfl) (by simp) ?_
                      refine (AllReadyH.cons (o := _) rfl (fun K' HK => ?_) AllReadyH.nil)
                      refine step_callA rfl (some 139) rfl 19 #[v, vr, xv, v9] (by go_simp) (fun u W => u = .tuple #[.bool true, .int .i64 0] ∧ Below W9.heap.size W9 W) ((HKM.out v9 W9 (bstep HB6.out HB9.out) HP.out.sl).mono fun e w' ⟨h1, h2⟩ => ⟨_, h1, rfl, h2⟩) ?_
                      rintro u w10 ⟨rfl, hb10⟩
                      have HB10 := Lib.hid (bstep HB9.out hb10)
                      clear hb10
                      refine HK.out _ _ trivial (fun hS => ?_)
                      clear HK K'
                      simp only [Act.put, List.setIfInBounds_toArray, List.set_cons_zero, List.set_cons_succ]
                      refine wpAnyH_takeV (i := 12) (some 127) (.tuple #[.bool true, .int .i64 0]) rfl rfl (by kernel_rfl) (fun _ _ _ h => h) (Or.inl ⟨by rfl, (fun W _ => by rfl)⟩) hS ?_
                      simp only [Act.put, List.setIfInBounds_toArray, List.set_cons_zero, List.set_cons_succ]
                      refine wpAnyH_takeV (i := 13) (some 140) (.bool true) rfl rfl (by kernel_rfl) (fun _ _ _ h => h) (Or.inl ⟨by rfl, (by intro W hW; go_simp)⟩) hS ?_
                      simp only [Act.put, List.setIfInBounds_toArray, List.set_cons_zero, List.set_cons_succ]
                      refine wpAnyH_takeV (i := 14) (some 141) (.int .i64 0) rfl rfl (by kernel_rfl) (fun _ _ _ h => h) (Or.inl ⟨by rfl, (by intro W hW; go_simp)⟩) hS ?_
                      simp only [Act.put, List.setIfInBounds_toArray, List.set_cons_zero, List.set_cons_succ]
                      refine wpAnyH_takeV (i := 15) (some 13) (.bool true) rfl rfl (by kernel_rfl) (fun _ _ _ h => h) (Or.inl ⟨by rfl, (fun W _ => by rfl)⟩) hS ?_
                      simp only [Act.put, List.setIfInBounds_toArray, List.set_cons_zero, List.set_cons_succ]
                      refine wpAnyH_takeV (i := 16) (some 14) (.int .i64 0) rfl rfl (by kernel_rfl) (fun _ _ _ h => h) (Or.inl ⟨by rfl, (fun W _ => by rfl)⟩) hS ?_
                      simp only [Act.put, List.setIfInBounds_toArray, List.set_cons_zero, List.set_cons_succ]
                      clear hS
                      refine wpAnyH_done (by kernel_rfl) ?_ _
                      go_wp2
                      go_ret
                      exact ⟨rfl, bstep HW2.out (bstep HB6.out HB10.out)⟩
                    · refine step_build1 _ _ rfl _ (.tmp 136) rfl (some 137) rfl (.int .i64 (m : Int)) _ rfl (run_build_i _ _) ?_
                      obtain ⟨W7, hW7⟩ : ∃ W7, w6.drew.alloc (.cells #[.int .i64 (m : Int)] 3) = W7 := ⟨_, rfl⟩
                      have HL7 : Hid (BlkIs W7 w6.drew.heap.size 3 #[.int .i64 (m : Int)] ∧ Below w6.heap.size w6 W7) := by
                        rw [← hW7]
                        exact ⟨BlkIs.new _ _ _, bstep HDR.out (below_new _ _)⟩
                      rw [hW7]
                      clear hW7
                      refine HK.out _ _ trivial (fun hS => ?_)
                      clear HK K'
                      simp only [Act.put, List.setIfInBounds_toArray, List.set_cons_zero, List.set_cons_succ]
                      refine wpAnyH_ready (rs := [4]) (by kernel_rfl) (by simp) ?_
                      refine (AllReadyH.cons (o := _) rfl (fun K' HK => ?_) AllReadyH.nil)
                      refine step_callA rfl (some 132) rfl 30 #[.slice oo k oc] (by go_simp) (fun u W => Own W w6.heap.size 3 natf u N ∧ Below W7.heap.size W7 W) ((HCLO.out W7 (HL7.out.2)).mono fun e w' ⟨v', h1, h2, h3⟩ => ⟨v', h1, h2.mono ((HL7.out.2).size), h3⟩) ?_
                      rintro u W8 ⟨hu, hb8⟩
                      have HL8 := Lib.hid (show BlkIs W8 w6.drew.heap.size 3 #[.int .i64 (m : Int)] ∧ Own W8 w6.heap.size 3 natf u N ∧ Below w6.heap.size w6 W8 from ⟨HL7.out.1.below hb8, hu, bstep HL7.out.2 hb8⟩)
                      clear hu hb8
                      refine HK.out _ _ trivial (fun hS => ?_)
                      clear HK K'
                      simp only [Act.put, List.setIfInBounds_toArray, List.set_cons_zero, List.set_cons_succ]
                      refine wpAnyH_ready (rs := [10]) (by kernel_rfl) (by simp) ?_
                      refine (AllReadyH.cons (o := _) rfl (fun K' HK => ?_) AllReadyH.nil)
                      refine step_pushK W8 rfl (.tmp 132) (.tmp 137) 24 rfl 3 8 elemInt w6.heap.size natf _ N m _ rfl HL8.out.2.1 (HL8.out.1.cell 0) rfl rfl (by rw [HNL.out]; omega) (by omega) (HL8.out.2.2).size (some 138) rfl ?_
                      intro v9 W9 hp
                      have HP := Lib.hid hp.own
                      have HB9 := Lib.hid ((HL8.out.2.2).grown hp.grown (HL8.out.2.2).size (fun g e => (HL8.out.2.1.lt g e).1) : Below w6.heap.size w6 W9)
                      clear hp
                      refine HK.out _ _ trivial (fun hS => ?_)
                      clear HK K'
                      simp only [Act.put, List.setIfInBounds_toArray, List.set_cons_zero, List.set_cons_succ]
                      refine wpAnyH_ready (rs := [11]) (by kernel_rfl) (by simp) ?_
                      refine (AllReadyH.cons (o := _) rfl (fun K' HK => ?_) AllReadyH.nil)
                      refine step_callA rfl (some 139) rfl 19 #[v, vr, xv, v9] (by go_simp) (fun u W => u = .tuple #[.bool true, .int .i64 0] ∧ Below W9.heap.size W9 W) ((HKM.out v9 W9 (bstep HB6.out HB9.out) HP.out.sl).mono fun e w' ⟨h1, h2⟩ => ⟨_, h1, rfl, h2⟩) ?_
                      rintro u w10 ⟨rfl, hb10⟩
                      have HB10 := Lib.hid (bstep HB9.out hb10)
                      clear hb10
                      refine HK.out _ _ trivial (fun hS => ?_)
                      clear HK K'
                      simp only [Act.put, List.setIfInBounds_toArray, List.set_cons_zero, List.set_cons_succ]
                      refine wpAnyH_takeV (i := 12) (some 127) (.tuple #[.bool true, .int .i64 0]) rfl rfl (by kernel_rfl) (fun _ _ _ h => h) (Or.inl ⟨by rfl, (fun W _ => by rfl)⟩) hS ?_
                      simp only [Act.put, List.setIfInBounds_toArray, List.set_cons_zero, List.set_cons_succ]
                      refine wpAnyH_takeV (i := 13) (some 140) (.bool true) rfl rfl (by kernel_rfl) (fun _ _ _ h => h) (Or.inl ⟨by rfl, (by intro W hW; go_simp)⟩) hS ?_
                      simp only [Act.put, List.setIfInBounds_toArray, List.set_cons_zero, List.set_cons_succ]
                      refine wpAnyH_takeV (i := 14) (some 141) (.int .i64 0) rfl rfl (by kernel_rfl) (fun _ _ _ h => h) (Or.inl ⟨by rfl, (by intro W hW; go_simp)⟩) hS ?_
                      simp only [Act.put, List.setIfInBounds_toArray, List.set_cons_zero, List.set_cons_succ]
                      refine wpAnyH_takeV (i := 15) (some 13) (.bool true) rfl rfl (by kernel_rfl) (fun _ _ _ h => h) (Or.inl ⟨by rfl, (fun W _ => by rfl)⟩) hS ?_
                      simp only [Act.put, List.setIfInBounds_toArray, List.set_cons_zero, List.set_cons_succ]
                      refine wpAnyH_takeV (i := 16) (some 14) (.int .i64 0) rfl rfl (by kernel_rfl) (fun _ _ _ h => h) (Or.inl ⟨by rfl, (fun W _ => by rfl)⟩) hS ?_
                      simp only [Act.put, List.setIfInBounds_toArray, List.set_cons_zero, List.set_cons_succ]
                      clear hS
                      refine wpAnyH_done (by kernel_rfl) ?_ _
                      go_wp2
                      go_ret
                      exact ⟨rfl, bstep HW2.out (bstep HB6.out HB10.out)⟩
                · obtain rfl : n = 0 := by omega
                  go_wp2
                  go_ret
                  exact ⟨rfl, bstep HW2.out HB6.out⟩
              · have d7 : (c == 0) = false := beq_no hc0
                have d8 : decide (c = 0) = false := dec_no hc0
                go_wp2_with fail
                refine HKA2.out.mono ?_
                rintro e w6 ⟨rfl, hb6⟩
                have HB16 := Lib.hid (bstep HI.out hb6)
                clear hb6 HKA2
                go_wp2_with fail
                refine (HCN.out w6 (bstep HB5.out HB16.out)).mono ?_
                rintro e w7 ⟨rfl, hb7⟩
                have HB17 := Lib.hid (bstep HB16.out hb7)
                have HB6 := Lib.hid (bstep HB5.out HB17.out)
                clear hb7 HCN
                obtain ⟨w6, rfl⟩ : ∃ w : World, w = w7 := ⟨_, rfl⟩
                by_cases hn0 : 0 < n
                · have e0 : decide ((0 : Int) < (n : Int)) = true := dec_yes (by omega)
                  have e2 : ¬ (n : Int) = 0 := by omega
                  have e3 : ¬ n = 0 := by omega
                  obtain ⟨m, hm, hmn⟩ : ∃ m : Nat, kk.tmod (n : Int) = (m : Int) ∧ m < n := by
                    rw [Int.tmod_eq_emod_of_nonneg hk0.1]
                    have h1 := Int.emod_nonneg kk (show (n : Int) ≠ 0 by omega)
                    have h2 := Int.emod_lt_of_pos kk (show (0 : Int) < (n : Int) by omega)
                    exact ⟨(kk % (n : Int)).toNat, by omega, by omega⟩
                  have KW : IntKind.i64.wrap kk = kk := IntWalk.i64_in _ (by omega)
                  have KW2 : IntKind.i64.wrap (m : Int) = (m : Int) := IntWalk.i64_in _ (by omega)
                  have HM := Lib.hid (HCNL.out m w6 HB17.out)
                  go_wp2_with fail
                  refine HM.out.mono ?_
                  rintro e w8 ⟨rfl, rfl⟩
                  by_cases hmN : m ∈ N
                  · rw [dec_yes hmN]
                    clear hmN HM
                    go_wp2
                    go_ret
                    exact ⟨rfl, bstep HW2.out HB6.out⟩
                  · rw [dec_no hmN]
                    have HKM := Lib.hid (fun tv W (hW : Below w2.heap.size w2 W) (ht : Nats W tv (N ++ [m])) => HKT.out (N ++ [m]) tv W hW ht (by rw [List.length_append, HNL.out]; simp; omega) (snoc_nodup HND.out hmN) (fun x hx => by
                      rcases List.mem_append.1 hx with h | h
                      · exact HNO.out.lt x h
                      · rw [List.mem_singleton.1 h]; exact hmn) (brk_mono (fun x hx => by rw [ntI_app]; exact List.mem_append_left _ hx) HNO.out.brk))
                    clear hmN HM HCNL HKT
                    have HCLO2 := HCLO
                    clear HCLO
                    have HDR : Hid (Below w6.heap.size w6 w6.drew) := (Below.refl _ _).drew
                    have HCLO := Lib.hid (fun W (hW : Below w6.heap.size w6 W) => HCLO2.out W (bstep HB17.out hW))
                    have KM := hm
                    go_wp2_with fail
                    refine wp_region_held_drew (S := fun _ => True) (by kernel_rfl) trivial (fun hS => ?_)
                    refine wpAnyH_takeV (i := 0) (some 128) v rfl rfl (by kernel_rfl) (fun _ _ _ h => h) (Or.inl ⟨by rfl, (fun W _ => by rfl)⟩) hS ?_
                    simp only [Act.put, List.setIfInBounds_toArray, List.set_cons_zero, List.set_cons_succ]
                    refine wpAnyH_takeV (i := 1) (some 129) vr rfl rfl (by kernel_rfl) (fun _ _ _ h => h) (Or.inl ⟨by rfl, (fun W _ => by rfl)⟩) hS ?_
                    simp only [Act.put, List.setIfInBounds_toArray, List.set_cons_zero, List.set_cons_succ]
                    refine wpAnyH_takeV (i := 2) (some 130) xv rfl rfl (by kernel_rfl) (fun _ _ _ h => h) (Or.inl ⟨by rfl, (fun W _ => by rfl)⟩) hS ?_
                    simp only [Act.put, List.setIfInBounds_toArray, List.set_cons_zero, List.set_cons_succ]
                    refine wpAnyH_takeV (i := 3) (some 131) (.slice oo k oc) rfl rfl (by kernel_rfl) (fun _ _ _ h => h) (Or.inl ⟨by rfl, (fun W _ => by rfl)⟩) hS ?_
                    simp only [Act.put, List.setIfInBounds_toArray, List.set_cons_zero, List.set_cons_succ]
                    refine wpAnyH_takeV (i := 5) (some 133) (.int .u8 kk) rfl rfl (by kernel_rfl) (fun _ _ _ h => h) (Or.inl ⟨by rfl, (fun W _ => by rfl)⟩) hS ?_
                    simp only [Act.put, List.setIfInBounds_toArray, List.set_cons_zero, List.set_cons_succ]
                    refine wpAnyH_takeV (i := 6) (some 134) (.int .i64 kk) rfl rfl (by kernel_rfl) (fun _ _ _ h => h) (Or.inl ⟨by rfl, (by intro W hW; have := KW; go_simp)⟩) hS ?_
                    simp only [Act.put, List.setIfInBounds_toArray, List.set_cons_zero, List.set_cons_succ]
                    refine wpAnyH_takeV (i := 7) (some 135) (.int .i64 (n : Int)) rfl rfl (by kernel_rfl) (fun _ _ _ h => h) (Or.inl ⟨by rfl, (fun W _ => by rfl)⟩) hS ?_
                    simp only [Act.put, List.setIfInBounds_toArray, List.set_cons_zero, List.set_cons_succ]
                    refine wpAnyH_takeV (i := 8) (some 136) (.int .i64 (m : Int)) rfl rfl (by kernel_rfl) (fun _ _ _ h => h) (Or.inl ⟨by rfl, (by intro W hW; have := KM; go_simp)⟩) hS ?_
                    simp only [Act.put, List.setIfInBounds_toArray, List.set_cons_zero, List.set_cons_succ]
                    refine wpAnyH_ready (rs := [4, 9]) (by kernel_rfl) (by simp) ?_
                    refine (AllReadyH.cons (o := _) rfl (fun K' HK => ?_) (AllReadyH.cons (o := _) rfl (fun K' HK => ?_) AllReadyH.nil))
                    · refine step_callA rfl (some 132) rfl 30 #[.slice oo k oc] (by go_simp) (fun u W => Own W w6.heap.size 3 natf u N ∧ Below w6.drew.heap.size w6.drew W) ((HCLO.out w6.drew (HDR.out)).mono fun e w' ⟨v', h1, h2, h3⟩ => ⟨v', h1, h2.mono ((HDR.out).size), h3⟩) ?_
                      rintro u W7 ⟨hu, hb7⟩
                      have HO7 := Lib.hid hu
                      have HB7 := Lib.hid (bstep HDR.out hb7 : Below w6.heap.size w6 W7)
                      clear hu hb7
                      refine HK.out _ _ trivial (fun hS => ?_)
                      clear HK K'
                      simp only [Act.put, List.setIfInBounds_toArray, List.set_cons_zero, List.set_cons_succ]
                      refine wpAnyH_ready (rs := [9]) (by kernel_rfl) (by simp) ?_
                      refine (AllReadyH.cons (o := _) rfl (fun K' HK => ?_) AllReadyH.nil)
                      refine step_build1 _ _ rfl _ (.tmp 136) rfl (some 137) rfl (.int .i64 (m : Int)) _ rfl (run_build_i _ _) ?_
                      obtain ⟨W8, hW8⟩ : ∃ W8, W7.alloc (.cells #[.int .i64 (m : Int)] 3) = W8 := ⟨_, rfl⟩
                      have HL8 : Hid (BlkIs W8 W7.heap.size 3 #[.int .i64 (m : Int)] ∧ Own W8 w6.heap.size 3 natf u N ∧ Below w6.heap.size w6 W8) := by
                        rw [← hW8]
                        exact ⟨BlkIs.new _ _ _, HO7.out.alloc _, bstep HB7.out (below_new _ _)⟩
                      rw [hW8]
                      clear hW8
                      refine HK.out _ _ trivial (fun hS => ?_)
                      clear HK K'
                      simp only [Act.put, List.setIfInBounds_toArray, List.set_cons_zero, List.set_cons_succ]
                      refine wpAnyH_ready (rs := [10]) (by kernel_rfl) (by simp) ?_
                      refine (AllReadyH.cons (o := _) rfl (fun K' HK => ?_) AllReadyH.nil)
                      refine step_pushK W8 rfl (.tmp 132) (.tmp 137) 24 rfl 3 8 elemInt w6.heap.size natf _ N m _ rfl HL8.out.2.1 (HL8.out.1.cell 0) rfl rfl (by rw [HNL.out]; omega) (by omega) (HL8.out.2.2).size (some 138) rfl ?_
                      intro v9 W9 hp
                      have HP := Lib.hid hp.own
                      have HB9 := Lib.hid ((HL8.out.2.2).grown hp.grown (HL8.out.2.2).size (fun g e => (HL8.out.2.1.lt g e).1) : Below w6.heap.size w6 W9)
                      clear hp
                      refine HK.out _ _ trivial (fun hS => ?_)
                      clear HK K'
                      simp only [Act.put, List.setIfInBounds_toArray, List.set_cons_zero, List.set_cons_succ]
                      refine wpAnyH_ready (rs := [11]) (by kernel_rfl) (by simp) ?_
                      refine (AllReadyH.cons (o := _) rfl (fun K' HK => ?_) AllReadyH.nil)
                      refine step_callA rfl (some 139) rfl 19 #[v, vr, xv, v9] (by go_simp) (fun u W => u = .tuple #[.bool true, .int .i64 0] ∧ Below W9.heap.size W9 W) ((HKM.out v9 W9 (bstep HB6.out HB9.out) HP.out.sl).mono fun e w' ⟨h1, h2⟩ => ⟨_, h1, rfl, h2⟩) ?_
                      rintro u w10 ⟨rfl, hb10⟩
                      have HB10 := Lib.hid (bstep HB9.out hb10)
                      clear hb10
                      refine HK.out _ _ trivial (fun hS => ?_)
                      clear HK K'
                      simp only [Act.put, List.setIfInBounds_toArray, List.set_cons_zero, List.set_cons_succ]
                      refine wpAnyH_takeV (i := 12) (some 127) (.tuple #[.bool true, .int .i64 0]) rfl rfl (by kernel_rfl) (fun _ _ _ h => h) (Or.inl ⟨by rfl, (fun W _ => by rfl)⟩) hS ?_
                      simp only [Act.put, List.setIfInBounds_toArray, List.set_cons_zero, List.set_cons_succ]
                      refine wpAnyH_takeV (i := 13) (some 140) (.bool true) rfl rfl (by kernel_rfl) (fun _ _ _ h => h) (Or.inl ⟨by rfl, (by intro W hW; go_simp)⟩) hS ?_
                      simp only [Act.put, List.setIfInBounds_toArray, List.set_cons_zero, List.set_cons_succ]
                      refine wpAnyH_takeV (i := 14) (some 141) (.int .i64 0) rfl rfl (by kernel_rfl) (fun _ _ _ h => h) (Or.inl ⟨by rfl, (by intro W hW; go_simp)⟩) hS ?_
                      simp only [Act.put, List.setIfInBounds_toArray, List.set_cons_zero, List.set_cons_succ]
                      refine wpAnyH_takeV (i := 15) (some 13) (.bool true) rfl rfl (by kernel_rfl) (fun _ _ _ h => h) (Or.inl ⟨by rfl, (fun W _ => by rfl)⟩) hS ?_
                      simp only [Act.put, List.setIfInBounds_toArray, List.set_cons_zero, List.set_cons_succ]
                      refine wpAnyH_takeV (i := 16) (some 14) (.int .i64 0) rfl rfl (by kernel_rfl) (fun _ _ _ h => h) (Or.inl ⟨by rfl, (fun W _ => by rfl)⟩) hS ?_
                      simp only [Act.put, List.setIfInBounds_toArray, List.set_cons_zero, List.set_cons_succ]
                      clear hS
                      refine wpAnyH_done (by kernel_rfl) ?_ _
                      go_wp2
                      go_ret
                      exact ⟨rfl, bstep HW2.out (bstep HB6.out HB10.out)⟩
                    · refine step_build1 _ _ rfl _ (.tmp 136) rfl (some 137) rfl (.int .i64 (m : Int)) _ rfl (run_build_i _ _) ?_
                      obtain ⟨W7, hW7⟩ : ∃ W7, w6.drew.alloc (.cells #[.int .i64 (m : Int)] 3) = W7 := ⟨_, rfl⟩
                      have HL7 : Hid (BlkIs W7 w6.drew.heap.size 3 #[.int .i64 (m : Int)] ∧ Below w6.heap.size w6 W7) := by
                        rw [← hW7]
                        exact ⟨BlkIs.new _ _ _, bstep HDR.out (below_new _ _)⟩
                      rw [hW7]
                      clear hW7
                      refine HK.out _ _ trivial (fun hS => ?_)
                      clear HK K'
                      simp only [Act.put, List.setIfInBounds_toArray, List.set_cons_zero, List.set_cons_succ]
                      refine wpAnyH_ready (rs := [4]) (by kernel_rfl) (by simp) ?_
                      refine (AllReadyH.cons (o := _) rfl (fun K' HK => ?_) AllReadyH.nil)
                      refine step_callA rfl (some 132) rfl 30 #[.slice oo k oc] (by go_simp) (fun u W => Own W w6.heap.size 3 natf u N ∧ Below W7.heap.size W7 W) ((HCLO.out W7 (HL7.out.2)).mono fun e w' ⟨v', h1, h2, h3⟩ => ⟨v', h1, h2.mono ((HL7.out.2).size), h3⟩) ?_
                      rintro u W8 ⟨hu, hb8⟩
                      have HL8 := Lib.hid (show BlkIs W8 w6.drew.heap.size 3 #[.int .i64 (m : Int)] ∧ Own W8 w6.heap.size 3 natf u N ∧ Below w6.heap.size w6 W8 from ⟨HL7.out.1.below hb8, hu, bstep HL7.out.2 hb8⟩)
                      clear hu hb8
                      refine HK.out _ _ trivial (fun hS => ?_)
                      clear HK K'
                      simp only [Act.put, List.setIfInBounds_toArray, List.set_cons_zero, List.set_cons_succ]
                      refine wpAnyH_ready (rs := [10]) (by kernel_rfl) (by simp) ?_
                      refine (AllReadyH.cons (o := _) rfl (fun K' HK => ?_) AllReadyH.nil)
                      refine step_pushK W8 rfl (.tmp 132) (.tmp 137) 24 rfl 3 8 elemInt w6.heap.size natf _ N m _ rfl HL8.out.2.1 (HL8.out.1.cell 0) rfl rfl (by rw [HNL.out]; omega) (by omega) (HL8.out.2.2).size (some 138) rfl ?_
                      intro v9 W9 hp
                      have HP := Lib.hid hp.own
                      have HB9 := Lib.hid ((HL8.out.2.2).grown hp.grown (HL8.out.2.2).size (fun g e => (HL8.out.2.1.lt g e).1) : Below w6.heap.size w6 W9)
                      clear hp
                      refine HK.out _ _ trivial (fun hS => ?_)
                      clear HK K'
                      simp only [Act.put, List.setIfInBounds_toArray, List.set_cons_zero, List.set_cons_succ]
                      refine wpAnyH_ready (rs := [11]) (by kernel_rfl) (by simp) ?_
                      refine (AllReadyH.cons (o := _) rfl (fun K' HK => ?_) AllReadyH.nil)
                      refine step_callA rfl (some 139) rfl 19 #[v, vr, xv, v9] (by go_simp) (fun u W => u = .tuple #[.bool true, .int .i64 0] ∧ Below W9.heap.size W9 W) ((HKM.out v9 W9 (bstep HB6.out HB9.out) HP.out.sl).mono fun e w' ⟨h1, h2⟩ => ⟨_, h1, rfl, h2⟩) ?_
                      rintro u w10 ⟨rfl, hb10⟩
                      have HB10 := Lib.hid (bstep HB9.out hb10)
                      clear hb10
                      refine HK.out _ _ trivial (fun hS => ?_)
                      clear HK K'
                      simp only [Act.put, List.setIfInBounds_toArray, List.set_cons_zero, List.set_cons_succ]
                      refine wpAnyH_takeV (i := 12) (some 127) (.tuple #[.bool true, .int .i64 0]) rfl rfl (by kernel_rfl) (fun _ _ _ h => h) (Or.inl ⟨by rfl, (fun W _ => by rfl)⟩) hS ?_
                      simp only [Act.put, List.setIfInBounds_toArray, List.set_cons_zero, List.set_cons_succ]
                      refine wpAnyH_takeV (i := 13) (some 140) (.bool true) rfl rfl (by kernel_rfl) (fun _ _ _ h => h) (Or.inl ⟨by rfl, (by intro W hW; go_simp)⟩) hS ?_
                      simp only [Act.put, List.setIfInBounds_toArray, List.set_cons_zero, List.set_cons_succ]
                      refine wpAnyH_takeV (i := 14) (some 141) (.int .i64 0) rfl rfl (by kernel_rfl) (fun _ _ _ h => h) (Or.inl ⟨by rfl, (by intro W hW; go_simp)⟩) hS ?_
                      simp only [Act.put, List.setIfInBounds_toArray, List.set_cons_zero, List.set_cons_succ]
                      refine wpAnyH_takeV (i := 15) (some 13) (.bool true) rfl rfl (by kernel_rfl) (fun _ _ _ h => h) (Or.inl ⟨by rfl, (fun W _ => by rfl)⟩) hS ?_
                      simp only [Act.put, List.setIfInBounds_toArray, List.set_cons_zero, List.set_cons_succ]
                      refine wpAnyH_takeV (i := 16) (some 14) (.int .i64 0) rfl rfl (by kernel_rfl) (fun _ _ _ h => h) (Or.inl ⟨by rfl, (fun W _ => by rfl)⟩) hS ?_
                      simp only [Act.put, List.setIfInBounds_toArray, List.set_cons_zero, List.set_cons_succ]
                      clear hS
                      refine wpAnyH_done (by kernel_rfl) ?_ _
                      go_wp2
                      go_ret
                      exact ⟨rfl, bstep HW2.out (bstep HB6.out HB10.out)⟩
                · obtain rfl : n = 0 := by omega
                  go_wp2
                  go_ret
                  exact ⟨rfl, bstep HW2.out HB6.out⟩
            · have hkq := HLT.out rfl
              obtain rfl := HB0.out rfl
              have d7 : decide ((q.length : Int) < (k : Int)) = false := dec_no (by omega)
              have d8 : decide (q.length < k) = false := dec_no (by omega)
              go_wp2_with fail
              refine HKA2.out.mono ?_
              rintro e w6 ⟨rfl, hb6⟩
              have HB16 := Lib.hid (bstep HI.out hb6)
              clear hb6 HKA2
              go_wp2_with fail
              refine (HCN.out w6 (bstep HB5.out HB16.out)).mono ?_
              rintro e w7 ⟨rfl, hb7⟩
              have HB17 := Lib.hid (bstep HB16.out hb7)
              have HB6 := Lib.hid (bstep HB5.out HB17.out)
              clear hb7 HCN
              obtain ⟨w6, rfl⟩ : ∃ w : World, w = w7 := ⟨_, rfl⟩
              by_cases hn0 : 0 < n
              · have e0 : decide ((0 : Int) < (n : Int)) = true := dec_yes (by omega)
                have e2 : ¬ (n : Int) = 0 := by omega
                have e3 : ¬ n = 0 := by omega
                obtain ⟨m, hm, hmn⟩ : ∃ m : Nat, kk.tmod (n : Int) = (m : Int) ∧ m < n := by
                  rw [Int.tmod_eq_emod_of_nonneg hk0.1]
                  have h1 := Int.emod_nonneg kk (show (n : Int) ≠ 0 by omega)
                  have h2 := Int.emod_lt_of_pos kk (show (0 : Int) < (n : Int) by omega)
                  exact ⟨(kk % (n : Int)).toNat, by omega, by omega⟩
                have KW : IntKind.i64.wrap kk = kk := IntWalk.i64_in _ (by omega)
                have KW2 : IntKind.i64.wrap (m : Int) = (m : Int) := IntWalk.i64_in _ (by omega)
                have HM := Lib.hid (HCNL.out m w6 HB17.out)
                go_wp2_with fail
                refine HM.out.mono ?_
                rintro e w8 ⟨rfl, rfl⟩
                by_cases hmN : m ∈ N
                · rw [dec_yes hmN]
                  clear hmN HM
                  go_wp2
                  go_ret
                  exact ⟨rfl, bstep HW2.out HB6.out⟩
                · rw [dec_no hmN]
                  have HKM := Lib.hid (fun tv W (hW : Below w2.heap.size w2 W) (ht : Nats W tv (N ++ [m])) => HKT.out (N ++ [m]) tv W hW ht (by rw [List.length_append, HNL.out]; simp; omega) (snoc_nodup HND.out hmN) (fun x hx => by
                    rcases List.mem_append.1 hx with h | h
                    · exact HNO.out.lt x h
                    · rw [List.mem_singleton.1 h]; exact hmn) (brk_mono (fun x hx => by rw [ntI_app]; exact List.mem_append_left _ hx) HNO.out.brk))
                  clear hmN HM HCNL HKT
                  have HCLO2 := HCLO
                  clear HCLO
                  have HDR : Hid (Below w6.heap.size w6 w6.drew) := (Below.refl _ _).drew
                  have HCLO := Lib.hid (fun W (hW : Below w6.heap.size w6 W) => HCLO2.out W (bstep HB17.out hW))
                  have KM := hm
                  go_wp2_with fail
                  refine wp_region_held_drew (S := fun _ => True) (by kernel_rfl) trivial (fun hS => ?_)
                  refine wpAnyH_takeV (i := 0) (some 128) v rfl rfl (by kernel_rfl) (fun _ _ _ h => h) (Or.inl ⟨by rfl, (fun W _ => by rfl)⟩) hS ?_
                  simp only [Act.put, List.setIfInBounds_toArray, List.set_cons_zero, List.set_cons_succ]
                  refine wpAnyH_takeV (i := 1) (some 129) vr rfl rfl (by kernel_rfl) (fun _ _ _ h => h) (Or.inl ⟨by rfl, (fun W _ => by rfl)⟩) hS ?_
                  simp only [Act.put, List.setIfInBounds_toArray, List.set_cons_zero, List.set_cons_succ]
                  refine wpAnyH_takeV (i := 2) (some 130) xv rfl rfl (by kernel_rfl) (fun _ _ _ h => h) (Or.inl ⟨by rfl, (fun W _ => by rfl)⟩) hS ?_
                  simp only [Act.put, List.setIfInBounds_toArray, List.set_cons_zero, List.set_cons_succ]
                  refine wpAnyH_takeV (i := 3) (some 131) (.slice oo k oc) rfl rfl (by kernel_rfl) (fun _ _ _ h => h) (Or.inl ⟨by rfl, (fun W _ => by rfl)⟩) hS ?_
                  simp only [Act.put, List.setIfInBounds_toArray, List.set_cons_zero, List.set_cons_succ]
                  refine wpAnyH_takeV (i := 5) (some 133) (.int .u8 kk) rfl rfl (by kernel_rfl) (fun _ _ _ h => h) (Or.inl ⟨by rfl, (fun W _ => by rfl)⟩) hS ?_
                  simp only [Act.put, List.setIfInBounds_toArray, List.set_cons_zero, List.set_cons_succ]
                  refine wpAnyH_takeV (i := 6) (some 134) (.int .i64 kk) rfl rfl (by kernel_rfl) (fun _ _ _ h => h) (Or.inl ⟨by rfl, (by intro W hW; have := KW; go_simp)⟩) hS ?_
                  simp only [Act.put, List.setIfInBounds_toArray, List.set_cons_zero, List.set_cons_succ]
                  refine wpAnyH_takeV (i := 7) (some 135) (.int .i64 (n : Int)) rfl rfl (by kernel_rfl) (fun _ _ _ h => h) (Or.inl ⟨by rfl, (fun W _ => by rfl)⟩) hS ?_
                  simp only [Act.put, List.setIfInBounds_toArray, List.set_cons_zero, List.set_cons_succ]
                  refine wpAnyH_takeV (i := 8) (some 136) (.int .i64 (m : Int)) rfl rfl (by kernel_rfl) (fun _ _ _ h => h) (Or.inl ⟨by rfl, (by intro W hW; have := KM; go_simp)⟩) hS ?_
                  simp only [Act.put, List.setIfInBounds_toArray, List.set_cons_zero, List.set_cons_succ]
                  refine wpAnyH_ready (rs := [4, 9]) (by kernel_rfl) (by simp) ?_
                  refine (AllReadyH.cons (o := _) rfl (fun K' HK => ?_) (AllReadyH.cons (o := _) rfl (fun K' HK => ?_) AllReadyH.nil))
                  · refine step_callA rfl (some 132) rfl 30 #[.slice oo k oc] (by go_simp) (fun u W => Own W w6.heap.size 3 natf u N ∧ Below w6.drew.heap.size w6.drew W) ((HCLO.out w6.drew (HDR.out)).mono fun e w' ⟨v', h1, h2, h3⟩ => ⟨v', h1, h2.mono ((HDR.out).size), h3⟩) ?_
                    rintro u W7 ⟨hu, hb7⟩
                    have HO7 := Lib.hid hu
                    have HB7 := Lib.hid (bstep HDR.out hb7 : Below w6.heap.size w6 W7)
                    clear hu hb7
                    refine HK.out _ _ trivial (fun hS => ?_)
                    clear HK K'
                    simp only [Act.put, List.setIfInBounds_toArray, List.set_cons_zero, List.set_cons_succ]
                    refine wpAnyH_ready (rs := [9]) (by kernel_rfl) (by simp) ?_
                    refine (AllReadyH.cons (o := _) rfl (fun K' HK => ?_) AllReadyH.nil)
                    refine step_build1 _ _ rfl _ (.tmp 136) rfl (some 137) rfl (.int .i64 (m : Int)) _ rfl (run_build_i _ _) ?_
                    obtain ⟨W8, hW8⟩ : ∃ W8, W7.alloc (.cells #[.int .i64 (m : Int)] 3) = W8 := ⟨_, rfl⟩
                    have HL8 : Hid (BlkIs W8 W7.heap.size 3 #[.int .i64 (m : Int)] ∧ Own W8 w6.heap.size 3 natf u N ∧ Below w6.heap.size w6 W8) := by
                      rw [← hW8]
                      exact ⟨BlkIs.new _ _ _, HO7.out.alloc _, bstep HB7.out (below_new _ _)⟩
                    rw [hW8]
                    clear hW8
                    refine HK.out _ _ trivial (fun hS => ?_)
                    clear HK K'
                    simp only [Act.put, List.setIfInBounds_toArray, List.set_cons_zero, List.set_cons_succ]
                    refine wpAnyH_ready (rs := [10]) (by kernel_rfl) (by simp) ?_
                    refine (AllReadyH.cons (o := _) rfl (fun K' HK => ?_) AllReadyH.nil)
                    refine step_pushK W8 rfl (.tmp 132) (.tmp 137) 24 rfl 3 8 elemInt w6.heap.size natf _ N m _ rfl HL8.out.2.1 (HL8.out.1.cell 0) rfl rfl (by rw [HNL.out]; omega) (by omega) (HL8.out.2.2).size (some 138) rfl ?_
                    intro v9 W9 hp
                    have HP := Lib.hid hp.own
                    have HB9 := Lib.hid ((HL8.out.2.2).grown hp.grown (HL8.out.2.2).size (fun g e => (HL8.out.2.1.lt g e).1) : Below w6.heap.size w6 W9)
                    clear hp
                    refine HK.out _ _ trivial (fun hS => ?_)
                    clear HK K'
                    simp only [Act.put, List.setIfInBounds_toArray, List.set_cons_zero, List.set_cons_succ]
                    refine wpAnyH_ready (rs := [11]) (by kernel_rfl) (by simp) ?_
                    refine (AllReadyH.cons (o := _) rfl (fun K' HK => ?_) AllReadyH.nil)
                    refine step_callA rfl (some 139) rfl 19 #[v, vr, xv, v9] (by go_simp) (fun u W => u = .tuple #[.bool true, .int .i64 0] ∧ Below W9.heap.size W9 W) ((HKM.out v9 W9 (bstep HB6.out HB9.out) HP.out.sl).mono fun e w' ⟨h1, h2⟩ => ⟨_, h1, rfl, h2⟩) ?_
                    rintro u w10 ⟨rfl, hb10⟩
                    have HB10 := Lib.hid (bstep HB9.out hb10)
                    clear hb10
                    refine HK.out _ _ trivial (fun hS => ?_)
                    clear HK K'
                    simp only [Act.put, List.setIfInBounds_toArray, List.set_cons_zero, List.set_cons_succ]
                    refine wpAnyH_takeV (i := 12) (some 127) (.tuple #[.bool true, .int .i64 0]) rfl rfl (by kernel_rfl) (fun _ _ _ h => h) (Or.inl ⟨by rfl, (fun W _ => by rfl)⟩) hS ?_
                    simp only [Act.put, List.setIfInBounds_toArray, List.set_cons_zero, List.set_cons_succ]
                    refine wpAnyH_takeV (i := 13) (some 140) (.bool true) rfl rfl (by kernel_rfl) (fun _ _ _ h => h) (Or.inl ⟨by rfl, (by intro W hW; go_simp)⟩) hS ?_
                    simp only [Act.put, List.setIfInBounds_toArray, List.set_cons_zero, List.set_cons_succ]
                    refine wpAnyH_takeV (i := 14) (some 141) (.int .i64 0) rfl rfl (by kernel_rfl) (fun _ _ _ h => h) (Or.inl ⟨by rfl, (by intro W hW; go_simp)⟩) hS ?_
                    simp only [Act.put, List.setIfInBounds_toArray, List.set_cons_zero, List.set_cons_succ]
                    refine wpAnyH_takeV (i := 15) (some 13) (.bool true) rfl rfl (by kernel_rfl) (fun _ _ _ h => h) (Or.inl ⟨by rfl, (fun W _ => by rfl)⟩) hS ?_
                    simp only [Act.put, List.setIfInBounds_toArray, List.set_cons_zero, List.set_cons_succ]
                    refine wpAnyH_takeV (i := 16) (some 14) (.int .i64 0) rfl rfl (by kernel_rfl) (fun _ _ _ h => h) (Or.inl ⟨by rfl, (fun W _ => by rfl)⟩) hS ?_
                    simp only [Act.put, List.setIfInBounds_toArray, List.set_cons_zero, List.set_cons_succ]
                    clear hS
                    refine wpAnyH_done (by kernel_rfl) ?_ _
                    go_wp2
                    go_ret
                    exact ⟨rfl, bstep HW2.out (bstep HB6.out HB10.out)⟩
                  · refine step_build1 _ _ rfl _ (.tmp 136) rfl (some 137) rfl (.int .i64 (m : Int)) _ rfl (run_build_i _ _) ?_
                    obtain ⟨W7, hW7⟩ : ∃ W7, w6.drew.alloc (.cells #[.int .i64 (m : Int)] 3) = W7 := ⟨_, rfl⟩
                    have HL7 : Hid (BlkIs W7 w6.drew.heap.size 3 #[.int .i64 (m : Int)] ∧ Below w6.heap.size w6 W7) := by
                      rw [← hW7]
                      exact ⟨BlkIs.new _ _ _, bstep HDR.out (below_new _ _)⟩
                    rw [hW7]
                    clear hW7
                    refine HK.out _ _ trivial (fun hS => ?_)
                    clear HK K'
                    simp only [Act.put, List.setIfInBounds_toArray, List.set_cons_zero, List.set_cons_succ]
                    refine wpAnyH_ready (rs := [4]) (by kernel_rfl) (by simp) ?_
                    refine (AllReadyH.cons (o := _) rfl (fun K' HK => ?_) AllReadyH.nil)
                    refine step_callA rfl (some 132) rfl 30 #[.slice oo k oc] (by go_simp) (fun u W => Own W w6.heap.size 3 natf u N ∧ Below W7.heap.size W7 W) ((HCLO.out W7 (HL7.out.2)).mono fun e w' ⟨v', h1, h2, h3⟩ => ⟨v', h1, h2.mono ((HL7.out.2).size), h3⟩) ?_
                    rintro u W8 ⟨hu, hb8⟩
                    have HL8 := Lib.hid (show BlkIs W8 w6.drew.heap.size 3 #[.int .i64 (m : Int)] ∧ Own W8 w6.heap.size 3 natf u N ∧ Below w6.heap.size w6 W8 from ⟨HL7.out.1.below hb8, hu, bstep HL7.out.2 hb8⟩)
                    clear hu hb8
                    refine HK.out _ _ trivial (fun hS => ?_)
                    clear HK K'
                    simp only [Act.put, List.setIfInBounds_toArray, List.set_cons_zero, List.set_cons_succ]
                    refine wpAnyH_ready (rs := [10]) (by kernel_rfl) (by simp) ?_
                    refine (AllReadyH.cons (o := _) rfl (fun K' HK => ?_) AllReadyH.nil)
                    refine step_pushK W8 rfl (.tmp 132) (.tmp 137) 24 rfl 3 8 elemInt w6.heap.size natf _ N m _ rfl HL8.out.2.1 (HL8.out.1.cell 0) rfl rfl (by rw [HNL.out]; omega) (by omega) (HL8.out.2.2).size (some 138) rfl ?_
                    intro v9 W9 hp
                    have HP := Lib.hid hp.own
                    have HB9 := Lib.hid ((HL8.out.2.2).grown hp.grown (HL8.out.2.2).size (fun g e => (HL8.out.2.1.lt g e).1) : Below w6.heap.size w6 W9)
                    clear hp
                    refine HK.out _ _ trivial (fun hS => ?_)
                    clear HK K'
                    simp only [Act.put, List.setIfInBounds_toArray, List.set_cons_zero, List.set_cons_succ]
                    refine wpAnyH_ready (rs := [11]) (by kernel_rfl) (by simp) ?_
                    refine (AllReadyH.cons (o := _) rfl (fun K' HK => ?_) AllReadyH.nil)
                    refine step_callA rfl (some 139) rfl 19 #[v, vr, xv, v9] (by go_simp) (fun u W => u = .tuple #[.bool true, .int .i64 0] ∧ Below W9.heap.size W9 W) ((HKM.out v9 W9 (bstep HB6.out HB9.out) HP.out.sl).mono fun e w' ⟨h1, h2⟩ => ⟨_, h1, rfl, h2⟩) ?_
                    rintro u w10 ⟨rfl, hb10⟩
                    have HB10 := Lib.hid (bstep HB9.out hb10)
                    clear hb10
                    refine HK.out _ _ trivial (fun hS => ?_)
                    clear HK K'
                    simp only [Act.put, List.setIfInBounds_toArray, List.set_cons_zero, List.set_cons_succ]
                    refine wpAnyH_takeV (i := 12) (some 127) (.tuple #[.bool true, .int .i64 0]) rfl rfl (by kernel_rfl) (fun _ _ _ h => h) (Or.inl ⟨by rfl, (fun W _ => by rfl)⟩) hS ?_
                    simp only [Act.put, List.setIfInBounds_toArray, List.set_cons_zero, List.set_cons_succ]
                    refine wpAnyH_takeV (i := 13) (some 140) (.bool true) rfl rfl (by kernel_rfl) (fun _ _ _ h => h) (Or.inl ⟨by rfl, (by intro W hW; go_simp)⟩) hS ?_
                    simp only [Act.put, List.setIfInBounds_toArray, List.set_cons_zero, List.set_cons_succ]
                    refine wpAnyH_takeV (i := 14) (some 141) (.int .i64 0) rfl rfl (by kernel_rfl) (fun _ _ _ h => h) (Or.inl ⟨by rfl, (by intro W hW; go_simp)⟩) hS ?_
                    simp only [Act.put, List.setIfInBounds_toArray, List.set_cons_zero, List.set_cons_succ]
                    refine wpAnyH_takeV (i := 15) (some 13) (.bool true) rfl rfl (by kernel_rfl) (fun _ _ _ h => h) (Or.inl ⟨by rfl, (fun W _ => by rfl)⟩) hS ?_
                    simp only [Act.put, List.setIfInBounds_toArray, List.set_cons_zero, List.set_cons_succ]
                    refine wpAnyH_takeV (i := 16) (some 14) (.int .i64 0) rfl rfl (by kernel_rfl) (fun _ _ _ h => h) (Or.inl ⟨by rfl, (fun W _ => by rfl)⟩) hS ?_
                    simp only [Act.put, List.setIfInBounds_toArray, List.set_cons_zero, List.set_cons_succ]
                    clear hS
                    refine wpAnyH_done (by kernel_rfl) ?_ _
                    go_wp2
                    go_ret
                    exact ⟨rfl, bstep HW2.out (bstep HB6.out HB10.out)⟩
              · obtain rfl : n = 0 := by omega
                go_wp2
                go_ret
                exact ⟨rfl, bstep HW2.out HB6.out⟩
      · obtain ⟨R, hR⟩ : ∃ R, ndF (sqC l rs X) (lgsOf l rs).length (sqEs l rs X) = R := ⟨_, rfl⟩
        rw [hR] at HN
        have hRR : R.1 ≠ 0 ∧ R.2 = [] := by
          rw [← hR]
          unfold ndF
          by_cases hc : sqC l rs X = 0
          · rw [if_pos hc]
            by_cases h12 : 12 < (lgsOf l rs).length
            · rw [if_pos h12]; exact ⟨by decide, rfl⟩
            · exact absurd ⟨hc, h12⟩ hgood
          · rw [if_neg hc]; exact ⟨hc, rfl⟩
        obtain ⟨c, D⟩ := R
        obtain ⟨h0, hR2⟩ := hRR
        simp only at hR2 h0
        subst hR2
        have hb : (c != 0) = true := bne_yes h0
        clear hR h0 HC hgood
        go_wp2_with fail
        refine (HN.out w2 (Below.refl _ _)).mono ?_
        rintro e w3 ⟨o3, rfl, ho3, hb3⟩
        have HB3 := Lib.hid hb3
        obtain ⟨oo, oc, rfl⟩ := ho3.shape
        clear hb3 ho3 HN
        go_wp2
        go_ret
        exact ⟨rfl, bstep HW2.out HB3.out⟩
    · go_wp2
      go_ret
      exact ⟨rfl, HW2.out⟩
end
end Go.Proofs.YtamogedpgkofjaaGreat
