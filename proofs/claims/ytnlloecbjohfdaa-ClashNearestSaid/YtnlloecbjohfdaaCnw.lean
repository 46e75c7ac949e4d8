/-
  The walk of ClashNearest.
-/
import Derived.Test.YtnlloecbjohfdaaCnr
namespace Go.Proofs.Ytnlloecbjohfdaa
section
open Go.RowKit
set_option linter.unusedVariables false
set_option linter.unusedSimpArgs false
attribute [local go_sem ↓] Go.wp_at_zero Go.wp_at_succ

theorem rem_at2 (i : Int) (n : Nat) (h0 : 0 ≤ i) (hn : 2 ≤ n) : ∃ a : Nat, i.tmod (n : Int) = (a : Int) ∧ i % (n : Int) = (a : Int) ∧ a < n := by
  have h1 := Int.emod_nonneg i (b := (n : Int)) (by omega)
  have h2 := Int.emod_lt_of_pos i (b := (n : Int)) (by omega)
  refine ⟨(i % (n : Int)).toNat, ?_, by omega, by omega⟩
  rw [Int.tmod_eq_emod_of_nonneg h0]
  omega
theorem size40 {l : List BarD} {rs : List RunD} (h : laidOk l rs = true) : ∀ k, k < (lgsOf l rs).length → 0 ≤ (szsOf l rs).getD k 0 ∧ (szsOf l rs).getD k 0 ≤ 40 := by
  intro k hk
  rw [lgsOf_len] at hk
  obtain ⟨q, b, hF⟩ := laid_fact h hk
  have := hF.sat
  unfold sizeAt at this
  rw [this]
  have h := hF.ok
  unfold barOk headB at h
  simp only [Bool.and_eq_true, decide_eq_true_eq] at h
  have h1 := h.1.1.1.1.1.2
  unfold szB at h1
  rw [decide_eq_true_eq] at h1
  simp [szs] at h1
  omega
theorem sqAt_dist {L : List (List Bx)} {Z : List Int} {i k : Nat} (hz : LzOk L Z) (hi : i < L.length) (hk : k < L.length) : dist2 (sqAt L i k).p (sqAt L i k).q = (sqAt L i k).n := by
  obtain ⟨p1, p2, p3⟩ := hz.legs i hi
  obtain ⟨q1, q2, q3⟩ := hz.legs k hk
  obtain ⟨a, b, ha, hb, he, _⟩ := allS_best p1 q1
  have h : sqAt L i k = ⟨sqN a b 3, nearP a b, nearQ a b⟩ := he
  rw [h]
  exact near_dist (List.all_eq_true.1 p3 a ha) (List.all_eq_true.1 q3 b hb)
theorem sqAt_com {L : List (List Bx)} {Z : List Int} {i k : Nat} (hz : LzOk L Z) (hi : i < L.length) (hk : k < L.length) : (sqAt L k i).n = (sqAt L i k).n := sqAt_comm (hz.legs i hi).1 (hz.legs k hk).1
theorem sqn0 (d : Int) : 0 ≤ d * d := by
  rcases Int.le_total 0 d with h | h
  · exact Int.mul_nonneg h h
  · exact Int.mul_nonneg_of_nonpos_of_nonpos h h
theorem sq_root {d : Int} (h : d * d ≤ 100000000000000) : -10000000 ≤ d ∧ d ≤ 10000000 := by
  constructor
  · rcases Int.lt_or_le d (-10000000) with h1 | h1
    · have h2 : (10000001 : Int) ≤ -d := by omega
      have h3 := Int.mul_le_mul h2 h2 (by omega) (by omega)
      rw [Int.neg_mul_neg] at h3
      omega
    · exact h1
  · rcases Int.lt_or_le 10000000 d with h1 | h1
    · have h2 : (10000001 : Int) ≤ d := by omega
      have h3 := Int.mul_le_mul h2 h2 (by omega) (by omega)
      omega
    · exact h1
theorem far_free {L : List (List Bx)} {Z : List Int} {c m : Int} (hc : 0 ≤ c) (hz : ∀ k, k < L.length → 0 ≤ Z.getD k 0 ∧ Z.getD k 0 ≤ 40) (hm : ∀ i k : Nat, i < k → k < L.length → m ≤ (sqAt L i k).n) (h : (80 + 2 * c) * (80 + 2 * c) ≤ 4 * m) : freeB L Z c = true := by
  refine free_yes fun i k hik hk => ?_
  have h1 := hm i k hik hk
  obtain ⟨a0, a1⟩ := hz i (by omega)
  obtain ⟨b0, b1⟩ := hz k hk
  have h2 : hitC L Z c i k = decide (4 * (sqAt L i k).n < needN (Z.getD i 0) (Z.getD k 0) c) := rfl
  rw [h2]
  refine dec_no ?_
  have h3 : needN (Z.getD i 0) (Z.getD k 0) c ≤ (80 + 2 * c) * (80 + 2 * c) := by
    unfold needN
    exact Int.mul_le_mul (by omega) (by omega) (by omega) (by omega)
  omega
theorem k_bd {c : Int} (h0 : 0 ≤ c) (h1 : c ≤ 1000) : 0 ≤ (80 + 2 * c) * (80 + 2 * c) ∧ (80 + 2 * c) * (80 + 2 * c) ≤ 4326400 := by
  obtain ⟨d, hd⟩ : ∃ d, 80 + 2 * c = d := ⟨_, rfl⟩
  have h2 : d ≤ 2080 := by omega
  have h3 : 0 ≤ d := by omega
  rw [hd]
  have h4 := Int.mul_le_mul h2 h2 h3 (by omega)
  exact ⟨sqn0 d, h4⟩
set_option maxRecDepth 100000 in
set_option maxHeartbeats 8000000 in
theorem clashNearest_walk (w : World) (v : Value) (l : List BarD) (hp : Bars w v l) (hf : FitB l) (hl : l.length * 64 ≤ 140737488351232) (vr : Value) (rs : List RunD) (hr : Runs w vr rs) (hm : ∀ r ∈ rs, r.mark.size ≤ maxLen) (hlr : rs.length * 88 ≤ 140737488351232)
    (i : Int) (wi : (Lit.int .u8 i).wf = true) (k : Int) (wk : (Lit.int .u8 k).wf = true) :
    Calls Try.prog 7 #[v, vr, .int .u8 i, .int .u8 k] w fun e w' => e = .returned (.bool true) ∧ Below w.heap.size w w' := by
  have hl2 : l.length ≤ 140737488355328 := by omega
  have hlr2 : rs.length ≤ 140737488355328 := by omega
  have HRD := Lib.hid (fun W (hW : Below w.heap.size w W) => ready_any v vr l rs W (hp.below hW) (hr.below hW) hl2 hlr2 hf)
  have HP := Lib.hid hp
  have HR := Lib.hid hr
  have HFI := Lib.hid hf
  obtain ⟨i0, i1⟩ := Go.bounds_u8 wi
  obtain ⟨k0, k1⟩ := Go.bounds_u8 wk
  have ci : IntKind.i64.wrap i = i := IntWalk.i64_in _ (by omega)
  have ck : IntKind.i64.wrap k = k := IntWalk.i64_in _ (by omega)
  clear hp hr hf hl hm hlr wi wk
  go_enter Try.func7, Try.ntmps7
  go_wp2_with fail
  refine (cawake_any _).mono ?_
  rintro e w1 ⟨rfl, hb1⟩
  have HW1 := Lib.hid hb1
  clear hb1
  go_wp2_with fail
  refine (HRD.out _ HW1.out).mono ?_
  rintro e w2 ⟨q, rfl, hb2, hq⟩
  have HW2 := Lib.hid (bstep HW1.out hb2)
  have HQ := Lib.hid hq
  clear hb2 hq HW1
  cases q
  · go_wp2
    go_ret
    exact ⟨rfl, HW2.out⟩
  · obtain ⟨hok, h14⟩ := HQ.out rfl
    have HLZ := Lib.hid (lzOk_of hok)
    have H40 := Lib.hid (size40 hok)
    have HCO := Lib.hid (fun W (hW : Below w.heap.size w W) => count_good v vr l rs W (HP.out.below hW) (HR.out.below hW) hl2 hlr2 HFI.out hok)
    have HNC := Lib.hid (fun W (hW : Below w.heap.size w W) => cnearest_good v vr l rs W (HP.out.below hW) (HR.out.below hW) hl2 hlr2 HFI.out hok)
    have HFR := Lib.hid (fun c (hc : clrB c = true) W (hW : Below w.heap.size w W) => cfree_good v vr c l rs W (HP.out.below hW) (HR.out.below hW) hl2 hlr2 HFI.out hok hc)
    have HSQ := Lib.hid (fun i k W (hW : Below w.heap.size w W) => csqI_good v vr i k l rs W (HP.out.below hW) (HR.out.below hW) hl2 hlr2 HFI.out hok)
    rw [← lgsOf_len l rs] at HCO
    generalize lgsOf l rs = L at *
    generalize szsOf l rs = Z at *
    clear hok HQ HRD
    go_wp2_with fail
    refine (HCO.out _ HW2.out).mono ?_
    rintro e w3 ⟨rfl, hb3⟩
    have HW3 := Lib.hid (bstep HW2.out hb3)
    clear hb3 HW2 HCO
    by_cases hn2 : L.length < 2
    · have d1 : decide ((L.length : Int) < 2) = true := dec_yes (by omega)
      have HN := Lib.hid (HNC.out w3 HW3.out)
      rw [(nc_few hn2).1, (nc_few hn2).2] at HN
      have HF : Hid (freeB L Z 1000 = true) := free_yes fun a b hab hb => by omega
      have HFC := Lib.hid (HFR.out 1000 (by kernel_rfl))
      rw [HF.out] at HFC
      clear HNC HSQ HFR
      go_wp2_with fail
      refine HN.out.mono ?_
      rintro e w4 ⟨rfl, hb4⟩
      have HW4 := Lib.hid ((bstep HW3.out hb4).alloc (bstep HW3.out hb4).size (.cells #[.int .i64 0, .int .i64 0, .int .i64 0, .int .i64 0, .int .i64 0, .int .i64 0, .int .i64 0, .int .i64 0] 56))
      clear hb4 HN
      go_wp2_with fail
      refine (HFC.out _ HW4.out).mono ?_
      rintro e w5 ⟨rfl, hb5⟩
      have HW5 := Lib.hid (bstep HW4.out hb5)
      clear hb5 HFC
      go_wp2
      go_ret
      exact ⟨rfl, HW5.out⟩
    · have d1 : decide ((L.length : Int) < 2) = false := dec_no (by omega)
      have HN := Lib.hid (HNC.out w3 HW3.out)
      obtain ⟨a0, b0, hab, hbL, hne, hmin⟩ := neN_least (L := L) (n := L.length) (by omega) (fun c d hcd hd => (sqAt_bd HLZ.out (by omega) hd).1)
      rw [(nc_many hn2).1, (nc_many hn2).2, hne] at HN
      have hcl : clOf L a0 b0 = ⟨a0, b0, (sqAt L a0 b0).p, (sqAt L a0 b0).q⟩ := rfl
      rw [hcl] at HN
      obtain ⟨m0, m1⟩ := sqAt_bd HLZ.out (i := a0) (k := b0) (by omega) hbL
      have hdist := sqAt_dist HLZ.out (i := a0) (k := b0) (by omega) hbL
      have HS1 := Lib.hid (HSQ.out (a0 : Int) (b0 : Int))
      have hE1 := sqE_ok (n := (L.length : Int)) (i := (a0 : Int)) (k := (b0 : Int)) (by omega) (by omega)
      have hV1 : sqV L (a0 : Int) (b0 : Int) = (sqAt L a0 b0).n := by unfold sqV; rw [if_pos hE1]; rfl
      rw [hE1, hV1] at HS1
      have HMIN := Lib.hid hmin
      have HFF := Lib.hid (fun (c : Int) (hc : 0 ≤ c) (h : (80 + 2 * c) * (80 + 2 * c) ≤ 4 * (sqAt L a0 b0).n) => far_free (Z := Z) hc H40.out hmin h)
      generalize sqAt L a0 b0 = sq at *
      obtain ⟨sm, ⟨px, py, pz⟩, qx, qy, qz⟩ := sq
      simp only at HN HS1 m0 m1 hdist HFF HMIN
      have hdi : (px - qx) * (px - qx) + (py - qy) * (py - qy) + (pz - qz) * (pz - qz) = sm := hdist
      have n1 := sqn0 (px - qx)
      have n2 := sqn0 (py - qy)
      have n3 := sqn0 (pz - qz)
      have r1 := sq_root (d := px - qx) (by omega)
      have r2 := sq_root (d := py - qy) (by omega)
      have r3 := sq_root (d := pz - qz) (by omega)
      have s1 : IntKind.i64.wrap (px - qx) = px - qx := IntWalk.i64_in _ (by omega)
      have s2 : IntKind.i64.wrap (py - qy) = py - qy := IntWalk.i64_in _ (by omega)
      have s3 : IntKind.i64.wrap (pz - qz) = pz - qz := IntWalk.i64_in _ (by omega)
      have t1 : IntKind.i64.wrap ((px - qx) * (px - qx)) = (px - qx) * (px - qx) := IntWalk.i64_in _ (by omega)
      have t2 : IntKind.i64.wrap ((py - qy) * (py - qy)) = (py - qy) * (py - qy) := IntWalk.i64_in _ (by omega)
      have t3 : IntKind.i64.wrap ((pz - qz) * (pz - qz)) = (pz - qz) * (pz - qz) := IntWalk.i64_in _ (by omega)
      have t4 : IntKind.i64.wrap ((px - qx) * (px - qx) + (py - qy) * (py - qy)) = (px - qx) * (px - qx) + (py - qy) * (py - qy) := IntWalk.i64_in _ (by omega)
      have t5 : IntKind.i64.wrap ((px - qx) * (px - qx) + (py - qy) * (py - qy) + (pz - qz) * (pz - qz)) = sm := by rw [hdi]; exact IntWalk.i64_in _ (by omega)
      have t6 : IntKind.i64.wrap (4 * sm) = 4 * sm := IntWalk.i64_in _ (by omega)
      have t5b : ((px - qx) * (px - qx) + (py - qy) * (py - qy) + (pz - qz) * (pz - qz) != sm) = false := bne_no hdi
      have t5c : (sm != sm) = false := bne_no rfl
      obtain ⟨a, ra1, ra2, ra3⟩ := rem_at2 i L.length i0 (by omega)
      obtain ⟨b, rb1, rb2, rb3⟩ := rem_at2 k L.length k0 (by omega)
      have nz : ¬ (L.length : Int) = 0 := by omega
      have wa : IntKind.i64.wrap (a : Int) = (a : Int) := IntWalk.i64_in _ (by have := HLZ.out.small; omega)
      have wb : IntKind.i64.wrap (b : Int) = (b : Int) := IntWalk.i64_in _ (by have := HLZ.out.small; omega)
      have g1 : decide ((a0 : Int) < 0) = false := dec_no (by omega)
      have g2 : decide ((b0 : Int) ≤ (a0 : Int)) = false := dec_no (by omega)
      have g3 : decide ((L.length : Int) ≤ (b0 : Int)) = false := dec_no (by omega)
      have g2n : decide (b0 ≤ a0) = false := dec_no (by omega)
      have g3n : decide (L.length ≤ b0) = false := dec_no (by omega)
      have g2p : ¬ b0 ≤ a0 := by omega
      have g3p : ¬ L.length ≤ b0 := by omega
      have HAB := Lib.hid (And.intro hab hbL)
      clear HNC hdist hne hmin hcl hE1 hV1 hdi hab hbL n1 n2 n3 r1 r2 r3
      go_wp2_with fail
      refine HN.out.mono ?_
      rintro e w4 ⟨rfl, hb4⟩
      have HK4 := Lib.hid (BlkIs.new w4 (clA ⟨a0, b0, ⟨px, py, pz⟩, qx, qy, qz⟩) 56)
      have HW4 := Lib.hid ((bstep HW3.out hb4).alloc (bstep HW3.out hb4).size (.cells (clA ⟨a0, b0, ⟨px, py, pz⟩, qx, qy, qz⟩) 56))
      clear hb4 HN
      obtain ⟨y4, hY⟩ : ∃ y, w4.alloc (.cells (clA ⟨a0, b0, ⟨px, py, pz⟩, qx, qy, qz⟩) 56) = y := ⟨_, rfl⟩
      rw [hY] at HK4 HW4
      have e0 := HK4.out.cell 0
      have e1 := HK4.out.cell 1
      have e2 := HK4.out.cell 2
      have e3 := HK4.out.cell 3
      have e4 := HK4.out.cell 4
      have e5 := HK4.out.cell 5
      have e6 := HK4.out.cell 6
      have e7 := HK4.out.cell 7
      have ez := HK4.out.lt
      go_wp2_with fail
      clear e0 e1 e2 e3 e4 e5 e6 e7 ez
      refine wp_region_quiet_below (by kernel_rfl) (by kernel_rfl) ?_
      repeat (go_big_quiet_step ((first
        | fail)))
      refine wpQuiet_nil ?_
      intro _ hw'
      obtain ⟨⟨nq, osq⟩, hw''⟩ := hw'
      subst hw''
      have HW5 := Lib.hid (bstep HW4.out (below_regrown y4 nq osq))
      have HK5 := Lib.hid (HK4.out.below (below_regrown y4 nq osq))
      generalize Go.Sort.grow (redrawn y4 nq) osq = w5 at *
      clear HW4 HK4 hY
      have e0 := HK5.out.cell 0
      have e1 := HK5.out.cell 1
      have e2 := HK5.out.cell 2
      have e3 := HK5.out.cell 3
      have e4 := HK5.out.cell 4
      have e5 := HK5.out.cell 5
      have e6 := HK5.out.cell 6
      have e7 := HK5.out.cell 7
      have ez := HK5.out.lt
      go_wp2_with fail
      refine (HS1.out _ HW5.out).mono ?_
      rintro e w6 ⟨rfl, hb6⟩
      have HW6 := Lib.hid (bstep HW5.out hb6)
      have HK6 := Lib.hid (HK5.out.below hb6)
      clear hb6 HW5 HK5 HS1
      clear e0 e1 e2 e3 e4 e5 e6 e7 ez
      have e0 := fun d os => cell_regrown (HK6.out.cell 0) d os
      have e1 := fun d os => cell_regrown (HK6.out.cell 1) d os
      have e2 := fun d os => cell_regrown (HK6.out.cell 2) d os
      have e3 := fun d os => cell_regrown (HK6.out.cell 3) d os
      have e4 := fun d os => cell_regrown (HK6.out.cell 4) d os
      have e5 := fun d os => cell_regrown (HK6.out.cell 5) d os
      have e6 := fun d os => cell_regrown (HK6.out.cell 6) d os
      have e7 := fun d os => cell_regrown (HK6.out.cell 7) d os
      go_wp2_with fail
      refine wp_region_quiet_below (by kernel_rfl) (by kernel_rfl) ?_
      repeat (go_big_quiet_step ((first
        | fail)))
      refine wpQuiet_nil ?_
      intro _ hw'
      obtain ⟨⟨nq, osq⟩, hw''⟩ := hw'
      subst hw''
      clear e0 e1 e2 e3 e4 e5 e6 e7
      have HW7 := Lib.hid (bstep HW6.out (below_regrown w6 nq osq))
      have HK7 := Lib.hid (HK6.out.below (below_regrown w6 nq osq))
      generalize Go.Sort.grow (redrawn w6 nq) osq = w7 at *
      clear HW6 HK6
      have e0 := HK7.out.cell 0
      have e1 := HK7.out.cell 1
      have e2 := HK7.out.cell 2
      have e3 := HK7.out.cell 3
      have e4 := HK7.out.cell 4
      have e5 := HK7.out.cell 5
      have e6 := HK7.out.cell 6
      have e7 := HK7.out.cell 7
      have ez := HK7.out.lt
      by_cases heq : a = b
      · have d2 : ((a : Int) == (b : Int)) = true := beq_yes (by omega)
        have HS2 := Lib.hid (HSQ.out (a : Int) (b : Int))
        rw [sqE_twice (n := (L.length : Int)) (i := (a : Int)) (k := (b : Int)) (by omega) (by omega)] at HS2
        clear HSQ HFR HFF heq
        go_wp2_with fail
        refine (HS2.out _ HW7.out).mono ?_
        rintro e w8 ⟨rfl, hb8⟩
        have HW8 := Lib.hid (bstep HW7.out hb8)
        clear hb8 HS2
        go_wp2
        go_ret
        exact ⟨rfl, HW8.out⟩
      · have d2 : ((a : Int) == (b : Int)) = false := beq_no (by omega)
        have HS2 := Lib.hid (HSQ.out (a : Int) (b : Int))
        have HS3 := Lib.hid (HSQ.out (b : Int) (a : Int))
        have hE2 := sqE_ok (n := (L.length : Int)) (i := (a : Int)) (k := (b : Int)) (by omega) (by omega)
        have hE3 := sqE_ok (n := (L.length : Int)) (i := (b : Int)) (k := (a : Int)) (by omega) (by omega)
        have hV2 : sqV L (a : Int) (b : Int) = (sqAt L a b).n := by unfold sqV; rw [if_pos hE2]; rfl
        have hV3 : sqV L (b : Int) (a : Int) = (sqAt L b a).n := by unfold sqV; rw [if_pos hE3]; rfl
        rw [hE2, hV2] at HS2
        rw [hE3, hV3, sqAt_com HLZ.out ra3 rb3] at HS3
        have hle : sm ≤ (sqAt L a b).n := by
          rcases Nat.lt_or_gt_of_ne heq with h | h
          · exact HMIN.out a b h rb3
          · have := HMIN.out b a h ra3
            rw [sqAt_com HLZ.out ra3 rb3] at this
            exact this
        generalize (sqAt L a b).n = t at *
        have d3 : decide (t < sm) = false := dec_no (by omega)
        have d4 : (t != t) = false := bne_no rfl
        clear hE2 hE3 hV2 hV3 HSQ heq hle HMIN H40
        go_wp2_with fail
        refine (HS2.out _ HW7.out).mono ?_
        rintro e w8 ⟨rfl, hb8⟩
        have HW8 := Lib.hid (bstep HW7.out hb8)
        clear hb8 HS2 HW7 HK7
        clear e0 e1 e2 e3 e4 e5 e6 e7 ez
        go_wp2_with fail
        refine (HS3.out _ HW8.out).mono ?_
        rintro e w9 ⟨rfl, hb9⟩
        have HW9 := Lib.hid (bstep HW8.out hb9)
        clear hb9 HS3 HW8
        go_wp2_with fail
        go_loopw [29] (fun x wr => ∃ c : Nat, c ≤ 1000 ∧ x = .int .i64 (c : Int) ∧ Below w.heap.size w wr ∧ Hid (c = 0 ∨ (80 + 2 * (c : Int)) * (80 + 2 * (c : Int)) ≤ 4 * sm)) (fun x _ => 1000 - (intOf x).toNat)
        case atStart => exact ⟨0, by omega, rfl, HW9.out, Or.inl rfl⟩
        case round =>
          clear HW9
          obtain ⟨c, hc, rfl, hBr, hcc⟩ := hrel
          have HWc := Lib.hid hBr
          clear hBr
          by_cases hc2 : c < 1000
          · have d6 : decide ((c : Int) < 1000) = true := dec_yes (by omega)
            obtain ⟨z0, z1⟩ := k_bd (c := (c : Int) + 1) (by omega) (by omega)
            have x1 : IntKind.i64.wrap ((c : Int) + 1) = (c : Int) + 1 := IntWalk.i64_in _ (by omega)
            have x2 : IntKind.i64.wrap (2 * ((c : Int) + 1)) = 2 * ((c : Int) + 1) := IntWalk.i64_in _ (by omega)
            have x3 : IntKind.i64.wrap (80 + 2 * ((c : Int) + 1)) = 80 + 2 * ((c : Int) + 1) := IntWalk.i64_in _ (by omega)
            have x4 : IntKind.i64.wrap ((80 + 2 * ((c : Int) + 1)) * (80 + 2 * ((c : Int) + 1))) = (80 + 2 * ((c : Int) + 1)) * (80 + 2 * ((c : Int) + 1)) := IntWalk.i64_in _ (by omega)
            by_cases hq : (80 + 2 * ((c : Int) + 1)) * (80 + 2 * ((c : Int) + 1)) ≤ 4 * sm
            · have d7 : decide ((80 + 2 * ((c : Int) + 1)) * (80 + 2 * ((c : Int) + 1)) ≤ 4 * sm) = true := dec_yes hq
              have HQ := Lib.hid hq
              clear hq z0 z1 hcc
              go_wp2
              go_roundw
              case rel => exact ⟨c + 1, by omega, by go_num, HWc.out, Or.inr (by have := HQ.out; rw [show ((c + 1 : Nat) : Int) = (c : Int) + 1 by omega]; exact this)⟩
              case measure => simp [intOf]; omega
            · have d7 : decide ((80 + 2 * ((c : Int) + 1)) * (80 + 2 * ((c : Int) + 1)) ≤ 4 * sm) = false := dec_no hq
              clear hq z0 z1
              by_cases h64 : 4 * sm < 6400
              · have d5 : decide (4 * sm < 6400) = true := dec_yes h64
                go_wp2
                go_ret
                exact ⟨rfl, HWc.out⟩
              · have d5 : decide (4 * sm < 6400) = false := dec_no h64
                have HF1 := Lib.hid (HFF.out (c : Int) (by omega) (by
                  rcases hcc with h | h
                  · rw [h]; simp; omega
                  · exact h))
                have HFC := Lib.hid (HFR.out (c : Int) (by unfold clrB; exact decide_eq_true ⟨by omega, by omega⟩))
                rw [HF1.out] at HFC
                clear HF1 HFF HFR
                go_wp2_with fail
                refine (HFC.out _ HWc.out).mono ?_
                rintro e w12 ⟨rfl, hb12⟩
                have HW12 := Lib.hid (bstep HWc.out hb12)
                clear hb12 HFC
                go_wp2
                go_ret
                exact ⟨rfl, HW12.out⟩
          · have d6 : decide ((c : Int) < 1000) = false := dec_no (by omega)
            by_cases h64 : 4 * sm < 6400
            · have d5 : decide (4 * sm < 6400) = true := dec_yes h64
              go_wp2
              go_ret
              exact ⟨rfl, HWc.out⟩
            · have d5 : decide (4 * sm < 6400) = false := dec_no h64
              have HF1 := Lib.hid (HFF.out (c : Int) (by omega) (by
                rcases hcc with h | h
                · rw [h]; simp; omega
                · exact h))
              have HFC := Lib.hid (HFR.out (c : Int) (by unfold clrB; exact decide_eq_true ⟨by omega, by omega⟩))
              rw [HF1.out] at HFC
              clear HF1 HFF HFR
              go_wp2_with fail
              refine (HFC.out _ HWc.out).mono ?_
              rintro e w12 ⟨rfl, hb12⟩
              have HW12 := Lib.hid (bstep HWc.out hb12)
              clear hb12 HFC
              go_wp2
              go_ret
              exact ⟨rfl, HW12.out⟩
end
end Go.Proofs.Ytnlloecbjohfdaa
