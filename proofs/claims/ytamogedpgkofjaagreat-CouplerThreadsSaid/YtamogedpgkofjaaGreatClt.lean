/-
  The walk of CouplerThreads (printed by wip/gen_Cl.py).
-/
import Derived.Test.YtamogedpgkofjaaGreatClb
namespace Go.Proofs.YtamogedpgkofjaaGreat
section
open Go.RowKit
set_option linter.unusedVariables false
set_option linter.unusedSimpArgs false
attribute [local go_sem ↓] Go.wp_at_zero Go.wp_at_succ

theorem ordF_err {c : Int} {n : Nat} {es : List (Nat × Nat)} {q : List Int} {R : Int × List Nat} (h : ordF c n es q = R) (h0 : R.1 ≠ 0) : R.2 = [] := by
  subst h
  unfold ordF at h0 ⊢
  split
  · split
    · unfold ordR at h0 ⊢
      cases ho : ordC n es q with
      | none => rfl
      | some D =>
        rename_i h1 h2
        rw [if_pos h1, if_pos h2, ho] at h0
        exact absurd rfl h0
    · rfl
  · rfl
/-- What the order gives. -/
theorem thr_facts {L : List (List Bx)} {Z X q : List Int} {n : Nat} {D : List Nat} (hg : gvnC n q = 0) (ho : ordC n (edN L Z X n) q = some D) (hX : ∀ k, k < n → axB (X.getD k 0) = true) :
    D.length = n - q.length ∧ q.length ≤ n ∧ (∀ x ∈ D, x < n ∧ (x : Int) ∉ q) ∧
    ∀ k x, D[k]? = some x → blkL L Z (X.getD x 0) x (ntI (D.take k)) = [] ∧ othE n (x : Int) (X.getD x 0) (ntI (D.take k)) = 0 := by
  have hany : q.any (badN n) = false := by
    cases h : q.any (badN n) with
    | false => rfl
    | true => rw [gvn_bad h] at hg; omega
  obtain ⟨g1, g2, g3⟩ := gvn_nat hany
  have hnd : q.Nodup := by
    by_cases h : q.Nodup
    · exact h
    · unfold gvnC at hg
      rw [if_neg (by rw [hany]; simp), if_neg h] at hg
      omega
  have hO := ord_ok ho
  have hl := oth_len (g3.2 hnd) g2
  rw [← g1, List.length_map] at hl
  have hql := sub_len (q.map Int.toNat) (List.range n) (g3.2 hnd) (fun x hx => List.mem_range.2 (g2 x hx))
  rw [List.length_map, List.length_range] at hql
  refine ⟨by rw [hO.len, hl], hql, fun x hx => othN_mem.1 (hO.oth x hx), fun k x hk => ?_⟩
  have hxn := (othN_mem.1 (hO.oth x (List.mem_of_getElem? hk))).1
  have hlt : ∀ y ∈ D.take k, y < n := fun y hy => (othN_mem.1 (hO.oth y (List.mem_of_mem_take hy))).1
  have hne : ∀ y ∈ D.take k, x ≠ y ∧ (x, y) ∉ edN L Z X n := by
    intro y hy
    obtain ⟨j, hj, hj2⟩ := List.mem_take_iff_getElem.1 hy
    have hjk : j < k := by omega
    have hjy : D[j]? = some y := by rw [List.getElem?_eq_getElem (by omega), hj2]
    refine ⟨?_, hO.back k j x y hjk hk hjy⟩
    rintro rfl
    obtain ⟨h1, h2⟩ := List.getElem?_eq_some_iff.1 hk
    obtain ⟨h3, h4⟩ := List.getElem?_eq_some_iff.1 hjy
    have h5 := List.Nodup.idxOf_getElem hO.nodup k h1
    have h6 := List.Nodup.idxOf_getElem hO.nodup j h3
    rw [h2] at h5
    rw [h4] at h6
    omega
  refine ⟨?_, othE_ok ?_ (hX x hxn) ?_⟩
  · unfold blkL
    rw [List.filter_eq_nil_iff]
    intro z hz
    unfold ntI at hz
    obtain ⟨y, hy, rfl⟩ := List.mem_map.1 hz
    rw [Int.toNat_natCast, blk_mem hxn (hlt y hy) (hne y hy).1, decide_eq_true_eq]
    exact (hne y hy).2
  · rw [List.all_eq_true]
    intro z hz
    unfold inR
    rcases List.mem_cons.1 hz with rfl | hz
    · exact dec_yes (by omega)
    · unfold ntI at hz
      obtain ⟨y, hy, rfl⟩ := List.mem_map.1 hz
      have := hlt y hy
      exact dec_yes (by omega)
  · rw [List.nodup_cons]
    refine ⟨fun hm => (hne x (ntI_mem.1 hm)).1 rfl, ?_⟩
    unfold ntI List.Nodup
    rw [List.pairwise_map]
    exact (hO.nodup.sublist (List.take_sublist _ _)).imp (fun {a b} h he => h (by omega))
set_option maxRecDepth 100000 in
set_option maxHeartbeats 8000000 in
theorem couplerThreads_walk (w : World) (v : Value) (l : List BarD) (hp : Bars w v l) (hf : FitB l) (hl : l.length * 64 ≤ 140737488351232) (vr : Value) (rs : List RunD) (hr : Runs w vr rs) (hm : ∀ r ∈ rs, r.mark.size ≤ maxLen) (hlr : rs.length * 88 ≤ 140737488351232)
    (xv : Value) (X : List Int) (hx : Ints w xv X) (hlx : X.length * 8 ≤ 140737488351232) (wx : ∀ x ∈ X, (Lit.int .i64 x).wf = true)
    (qv : Value) (q : List Int) (hq : Ints w qv q) (hlq : q.length * 8 ≤ 140737488351232) (wq : ∀ x ∈ q, (Lit.int .i64 x).wf = true) :
    Calls Tryz.prog 8 #[v, vr, xv, qv] w fun en w' => en = .returned (.bool true) ∧ Below w.heap.size w w' := by
  have hl2 : l.length ≤ 140737488355328 := by omega
  have hlr2 : rs.length ≤ 140737488355328 := by omega
  have HLG := Lib.hid (fun W (hW : Below w.heap.size w W) => clarge_any v vr xv X l rs W (hp.below hW) (hr.below hW) hl2 hlr2 hf (Sl.below hx hW) (by omega))
  clear hp hr hf hl hlr hm hx wx hl2 hlr2
  have HQ := Lib.hid hq
  obtain ⟨qo, qc, rfl⟩ := Sl.at_ hq
  clear hq hlq wq
  by_cases h20 : 20 < q.length
  · have d3 : decide ((20 : Int) < (q.length : Int)) = true := dec_yes (by omega)
    have d4 : decide (20 < q.length) = true := dec_yes h20
    go_enter Tryz.func8, Tryz.ntmps8
    go_wp2_with fail
    refine (cqawake_any _).mono ?_
    rintro en w1 ⟨rfl, hb1⟩
    have HW1 := Lib.hid hb1
    clear hb1
    go_wp2_with fail
    refine (HLG.out _ HW1.out).mono ?_
    rintro en w2 ⟨b, rfl, hb2, hq2⟩
    have HW2 := Lib.hid (bstep HW1.out hb2)
    have HQ2 := Lib.hid (fun h => ((hq2 h).1.below hb2 : Cg w2 v vr xv X l rs))
    have HX2 := Lib.hid (fun h => (hq2 h).2)
    have HQV := Lib.hid (fun W (hW : Below w2.heap.size w2 W) => (HQ.out.below (bstep (bstep HW1.out hb2) hW) : Ints W (.slice qo q.length qc) q))
    clear hb2 hq2 HW1 HLG
    cases b
    · go_wp2
      go_ret
      exact ⟨rfl, HW2.out⟩
    · go_wp2
      go_ret
      exact ⟨rfl, HW2.out⟩
  · have d3 : decide ((20 : Int) < (q.length : Int)) = false := dec_no (by omega)
    have d4 : decide (20 < q.length) = false := dec_no h20
    go_enter Tryz.func8, Tryz.ntmps8
    go_wp2_with fail
    refine (cqawake_any _).mono ?_
    rintro en w1 ⟨rfl, hb1⟩
    have HW1 := Lib.hid hb1
    clear hb1
    go_wp2_with fail
    refine (HLG.out _ HW1.out).mono ?_
    rintro en w2 ⟨b, rfl, hb2, hq2⟩
    have HW2 := Lib.hid (bstep HW1.out hb2)
    have HQ2 := Lib.hid (fun h => ((hq2 h).1.below hb2 : Cg w2 v vr xv X l rs))
    have HX2 := Lib.hid (fun h => (hq2 h).2)
    have HQV := Lib.hid (fun W (hW : Below w2.heap.size w2 W) => (HQ.out.below (bstep (bstep HW1.out hb2) hW) : Ints W (.slice qo q.length qc) q))
    clear hb2 hq2 HW1 HLG
    cases b
    · have HC := Lib.hid (fun W (hW : Below w2.heap.size w2 W) => (HQ2.out rfl).below hW)
      have hX100 := HX2.out rfl
      obtain ⟨R, hR⟩ : ∃ R, ordF (sqC l rs X) (lgsOf l rs).length (sqEs l rs X) q = R := ⟨_, rfl⟩
      have HO := Lib.hid (fun W (hW : Below w2.heap.size w2 W) => corderF_any v vr xv (.slice qo q.length qc) X q l rs W (HC.out W hW) (HQV.out W hW) (by omega))
      rw [hR] at HO
      clear HQ2 HX2
      by_cases h0 : R.1 = 0
      · have hc : sqC l rs X = 0 := by
          by_cases h : sqC l rs X = 0
          · exact h
          · unfold ordF at hR
            rw [if_neg h] at hR
            rw [← hR] at h0
            exact absurd h0 h
        have hok := (sqC_zero hc).1
        obtain ⟨_, hXl, hXa⟩ := edgE_zero (sqC_zero hc).2
        have h14 := (HC.out w2 (Below.refl _ _)).hA.h14 hok
        have HCN := Lib.hid (fun W (hW : Below w2.heap.size w2 W) => bcount_any v vr xv X l rs W (HC.out W hW) hok)
        rw [hc] at hR
        obtain ⟨hg, hoc⟩ := ordF_ok hR h0
        obtain ⟨c0, D⟩ := R
        simp only at h0 hoc
        subst h0
        obtain ⟨f1, f2, f3, f4⟩ := thr_facts hg hoc hXa
        have HF3 := Lib.hid f3
        have F1 := Lib.hid f1
        clear f1
        have HBL := Lib.hid (fun (k x : Nat) (hk : D[k]? = some x) tv W (hW : Below w2.heap.size w2 W) (ht : Ints W tv (ntI (D.take k))) hlt => (by
          have h := sblkd_any v vr tv X (ntI (D.take k)) x l rs W (HC.out W hW).hA hc ht hlt (f4 k x hk).2
          rw [(f4 k x hk).1] at h
          exact h : Calls Tryz.prog 31 #[v, vr, .int .i64 (x : Int), .int .i64 (X.getD x 0), tv] W fun e w' => ∃ o, e = .returned (.tuple #[o, .int .i64 0]) ∧ Hid (OwnI w' W.heap.size o []) ∧ Below W.heap.size W w'))
        have HXV := Lib.hid (fun W (hW : Below w2.heap.size w2 W) => (HC.out W hW).hx)
        obtain ⟨xo, xc, rfl⟩ := Sl.at_ (HC.out w2 (Below.refl _ _)).hx
        clear hR hg hoc hXa HC f3 f4
        generalize (lgsOf l rs).length = n at *
        generalize hxl : X.length = xl at *
        have HXL := Lib.hid hxl
        subst hXl
        clear hxl
        have hql20 : q.length ≤ 20 := by omega
        generalize hql : q.length = ql at *
        have HQL := Lib.hid hql
        clear hql
        go_wp2_with fail
        refine (HO.out w2 (Below.refl _ _)).mono ?_
        rintro e w3 ⟨o3, rfl, ho3, hb3⟩
        have HB3 := Lib.hid hb3
        have HO3 := Lib.hid ho3
        obtain ⟨oo, oc, rfl⟩ := ho3.shape
        clear hb3 ho3 HO
        generalize hdl : D.length = dl at *
        have HDL := Lib.hid hdl
        clear hdl
        go_wp2_with fail
        refine (HCN.out w3 HB3.out).mono ?_
        rintro e w5 ⟨rfl, hb5⟩
        have HB5 := Lib.hid (bstep HB3.out hb5)
        have HO5 := Lib.hid (HO3.out.below hb5)
        clear hb5 HCN HO3
        have e1 : IntKind.i64.wrap ((xl : Int) - (ql : Int)) = (xl : Int) - (ql : Int) := IntWalk.i64_in _ (by omega)
        have e2 : ((dl : Int) != (xl : Int) - (ql : Int)) = false := bne_no (by have := F1.out; omega)
        have hdl60 : dl ≤ 60 := by have := F1.out; omega
        go_wp2_with fail
        go_loopw [66] (fun i wr => ∃ k : Nat, k ≤ dl ∧ i = .int .i64 (k : Int) ∧ Below w5.heap.size w5 wr) (fun i _ => dl - (intOf i).toNat)
        case atStart => exact ⟨0, Nat.zero_le _, rfl, Below.refl _ _⟩
        case round =>
          obtain ⟨k, hk, rfl, hBr⟩ := hrel
          have HB := Lib.hid hBr
          clear hBr
          by_cases hk2 : k < dl
          · obtain ⟨fk, hfk⟩ : ∃ y, D[k]? = some y := ⟨_, List.getElem?_eq_getElem (by rw [HDL.out]; exact hk2)⟩
            have hmem := HF3.out fk (List.mem_of_getElem? hfk)
            have hOr := HO5.out.below HB.out
            have hOr2 : Own wr w2.heap.size 3 natf (.slice oo D.length oc) D := by rw [HDL.out]; exact hOr
            obtain ⟨po, pc, hsl, hpt⟩ := part_nat hOr2 k (by rw [HDL.out]; omega)
            rw [HDL.out] at hsl
            have HSL := Lib.hid hsl
            obtain ⟨db, doff, rfl, hdlt, g0⟩ := nats_get hOr2.sl hfk
            have hxv : Ints wr (.slice xo X.length xc) X := by rw [HXL.out]; exact HXV.out wr (bstep HB5.out HB.out)
            obtain ⟨xb, xoff, rfl, hxb, g2⟩ := zints_get hxv (show X[fk]? = some (X.getD fk 0) by rw [List.getD_eq_getElem?_getD, List.getElem?_eq_getElem (by rw [HXL.out]; exact hmem.1)]; rfl)
            have G2 : Hid (wr.drew.cell? ⟨xb, xoff + fk, none⟩ = some (.int .i64 (X.getD fk 0))) := g2
            have HCT := Lib.hid (contains_any (.slice qo ql qc) q (fk : Int) wr (HQV.out wr (bstep HB5.out HB.out)) (by rw [HQL.out]; omega))
            rw [dec_no hmem.2] at HCT
            have HBD := Lib.hid (HBL.out k fk hfk (.slice po k pc) wr.drew (bstep HB5.out (bstep HB.out (Below.refl _ _).drew)) (hpt.below (Below.refl _ _).drew) (by rw [ntI_len, List.length_take]; omega))
            have x5 : ((fk : Nat) : Int) < (xl : Int) := by have := hmem.1; omega
            have x6 : (0 : Int) ≤ ((fk : Nat) : Int) := by omega
            have x4 : fk < xl := hmem.1
            generalize X.getD fk 0 = ax at *
            clear hfk hmem hOr hOr2 hsl hpt hxv g2
            go_wp2_with fail
            refine HCT.out.mono ?_
            rintro e w7 ⟨rfl, rfl⟩
            clear HCT
            go_wp2_with fail
            refine wp_region_held_drew (S := fun W => W.cell? ⟨xb, xoff + fk, none⟩ = some (.int .i64 ax)) (by kernel_rfl) G2.out (fun hS => ?_)
            refine wpAnyH_takeV (i := 0) (some 84) v rfl rfl (by kernel_rfl) (fun _ _ _ h => h) (Or.inl ⟨by rfl, (fun W _ => by rfl)⟩) hS ?_
            simp only [Act.put, List.setIfInBounds_toArray, List.set_cons_zero, List.set_cons_succ]
            refine wpAnyH_takeV (i := 1) (some 85) vr rfl rfl (by kernel_rfl) (fun _ _ _ h => h) (Or.inl ⟨by rfl, (fun W _ => by rfl)⟩) hS ?_
            simp only [Act.put, List.setIfInBounds_toArray, List.set_cons_zero, List.set_cons_succ]
            refine wpAnyH_takeV (i := 2) (some 86) (.int .i64 (fk : Int)) rfl rfl (by kernel_rfl) (fun _ _ _ h => h) (Or.inl ⟨by rfl, (fun W _ => by rfl)⟩) hS ?_
            simp only [Act.put, List.setIfInBounds_toArray, List.set_cons_zero, List.set_cons_succ]
            refine wpAnyH_takeV (i := 3) (some 87) (.slice (some ⟨xb, xoff, none⟩) xl xc) rfl rfl (by kernel_rfl) (fun _ _ _ h => h) (Or.inl ⟨by rfl, (fun W _ => by rfl)⟩) hS ?_
            simp only [Act.put, List.setIfInBounds_toArray, List.set_cons_zero, List.set_cons_succ]
            refine wpAnyH_takeV (i := 4) (some 88) (.int .i64 (fk : Int)) rfl rfl (by kernel_rfl) (fun _ _ _ h => h) (Or.inl ⟨by rfl, (fun W _ => by rfl)⟩) hS ?_
            simp only [Act.put, List.setIfInBounds_toArray, List.set_cons_zero, List.set_cons_succ]
            refine wpAnyH_takeV (i := 5) (some 89) (.pointer (some ⟨xb, xoff + fk, none⟩)) rfl rfl (by kernel_rfl) (fun _ _ _ h => h) (Or.inl ⟨by rfl, (by intro W hW; go_simp)⟩) hS ?_
            simp only [Act.put, List.setIfInBounds_toArray, List.set_cons_zero, List.set_cons_succ]
            refine wpAnyH_takeV (i := 6) (some 90) (.int .i64 ax) rfl rfl (by kernel_rfl) (fun _ _ _ h => h) (Or.inl ⟨by rfl, (by intro W hW; go_simp)⟩) hS ?_
            simp only [Act.put, List.setIfInBounds_toArray, List.set_cons_zero, List.set_cons_succ]
            refine wpAnyH_takeV (i := 7) (some 91) (.slice (some ⟨db, doff, none⟩) dl oc) rfl rfl (by kernel_rfl) (fun _ _ _ h => h) (Or.inl ⟨by rfl, (fun W _ => by rfl)⟩) hS ?_
            simp only [Act.put, List.setIfInBounds_toArray, List.set_cons_zero, List.set_cons_succ]
            refine wpAnyH_takeV (i := 8) (some 92) (.int .i64 (k : Int)) rfl rfl (by kernel_rfl) (fun _ _ _ h => h) (Or.inl ⟨by rfl, (fun W _ => by rfl)⟩) hS ?_
            simp only [Act.put, List.setIfInBounds_toArray, List.set_cons_zero, List.set_cons_succ]
            refine wpAnyH_takeV (i := 9) (some 93) (.slice po k pc) rfl rfl (by kernel_rfl) (fun _ _ _ h => h) (Or.inl ⟨by rfl, (by intro W hW; have := HSL.out W; go_simp)⟩) hS ?_
            simp only [Act.put, List.setIfInBounds_toArray, List.set_cons_zero, List.set_cons_succ]
            clear hS
            refine wpAnyH_ready (rs := [10]) (by kernel_rfl) (by simp) ?_
            refine (AllReadyH.cons (o := _) rfl (fun K' HK => ?_) AllReadyH.nil)
            refine step_callA rfl (some 94) rfl 31 #[v, vr, .int .i64 (fk : Int), .int .i64 ax, .slice po k pc] (by go_simp) (fun u W => ∃ o, u = .tuple #[o, .int .i64 0] ∧ Hid (OwnI W wr.drew.heap.size o []) ∧ Below wr.drew.heap.size wr.drew W) (HBD.out.mono fun e w' ⟨o, h1, h2, h3⟩ => ⟨_, h1, o, rfl, h2, h3⟩) ?_
            rintro u w6 ⟨o, rfl, hro, hb6⟩
            have HB6 := Lib.hid (bstep HB.out (bstep (Below.refl _ _).drew hb6) : Below w5.heap.size w5 w6)
            obtain ⟨ro, rc', rfl⟩ := hro.out.shape
            have G26 := Lib.hid ((hb6.cell (p := ⟨xb, xoff + fk, none⟩) hxb).trans G2.out)
            clear hb6 hro
            refine HK.out _ _ G26.out (fun hS => ?_)
            clear HK K'
            simp only [Act.put, List.setIfInBounds_toArray, List.set_cons_zero, List.set_cons_succ]
            refine wpAnyH_takeV (i := 11) (some 83) (.tuple #[.slice ro 0 rc', .int .i64 0]) rfl rfl (by kernel_rfl) (fun _ _ _ h => h) (Or.inl ⟨by rfl, (fun W _ => by rfl)⟩) hS ?_
            simp only [Act.put, List.setIfInBounds_toArray, List.set_cons_zero, List.set_cons_succ]
            refine wpAnyH_takeV (i := 12) (some 95) (.slice ro 0 rc') rfl rfl (by kernel_rfl) (fun _ _ _ h => h) (Or.inl ⟨by rfl, (by intro W hW; go_simp)⟩) hS ?_
            simp only [Act.put, List.setIfInBounds_toArray, List.set_cons_zero, List.set_cons_succ]
            refine wpAnyH_takeV (i := 13) (some 96) (.int .i64 0) rfl rfl (by kernel_rfl) (fun _ _ _ h => h) (Or.inl ⟨by rfl, (by intro W hW; go_simp)⟩) hS ?_
            simp only [Act.put, List.setIfInBounds_toArray, List.set_cons_zero, List.set_cons_succ]
            refine wpAnyH_takeV (i := 14) (some 15) (.slice ro 0 rc') rfl rfl (by kernel_rfl) (fun _ _ _ h => h) (Or.inl ⟨by rfl, (fun W _ => by rfl)⟩) hS ?_
            simp only [Act.put, List.setIfInBounds_toArray, List.set_cons_zero, List.set_cons_succ]
            refine wpAnyH_takeV (i := 15) (some 16) (.int .i64 0) rfl rfl (by kernel_rfl) (fun _ _ _ h => h) (Or.inl ⟨by rfl, (fun W _ => by rfl)⟩) hS ?_
            simp only [Act.put, List.setIfInBounds_toArray, List.set_cons_zero, List.set_cons_succ]
            clear hS
            refine wpAnyH_done (by kernel_rfl) ?_ _
            go_wp2
            go_roundw
            case rel => exact ⟨k + 1, by omega, by go_num, HB6.out⟩
            case measure => simp [intOf]; omega
          · obtain rfl : k = dl := by omega
            go_wp2
            go_ret
            exact ⟨rfl, bstep HW2.out (bstep HB5.out HB.out)⟩
      · have hR2 := ordF_err hR h0
        obtain ⟨c, D⟩ := R
        simp only at hR2 h0
        subst hR2
        have hb : (c != 0) = true := bne_yes h0
        clear hR h0 HC
        go_wp2_with fail
        refine (HO.out w2 (Below.refl _ _)).mono ?_
        rintro e w3 ⟨o3, rfl, ho3, hb3⟩
        have HB3 := Lib.hid hb3
        obtain ⟨oo, oc, rfl⟩ := ho3.shape
        clear hb3 ho3 HO
        go_wp2
        go_ret
        exact ⟨rfl, bstep HW2.out HB3.out⟩
    · go_wp2
      go_ret
      exact ⟨rfl, HW2.out⟩
end
end Go.Proofs.YtamogedpgkofjaaGreat
