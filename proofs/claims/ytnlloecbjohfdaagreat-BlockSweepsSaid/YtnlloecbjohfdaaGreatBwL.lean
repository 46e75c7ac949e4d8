/-
  The walk of BlockSweeps.
-/
import Derived.Test.YtnlloecbjohfdaaGreatRnl
import Derived.Test.YtnlloecbjohfdaaGreatRnm
import Derived.Test.YtnlloecbjohfdaaGreatRnh
import Derived.Test.YtnlloecbjohfdaaGreatBkI
import Derived.Test.YtnlloecbjohfdaaGreatBkR
import Derived.Test.YtnlloecbjohfdaaGreatLwx
namespace Go.Proofs.YtnlloecbjohfdaaGreat
section
open Go.RowKit
set_option linter.unusedVariables false
set_option linter.unusedSimpArgs false
attribute [local go_sem ↓] Go.wp_at_zero Go.wp_at_succ

def swE (l : List Bx) (x : Int) : Int := if l.all bxOk then (if 8 < l.length then 4 else if axB x then 0 else 11) else 1
set_option maxRecDepth 100000 in
theorem sweepI_bad (v : Value) (l : List Bx) (x : Int) (w : World) (hp : Bxs w v l) (hl : l.length ≤ 15) (h : swE l x ≠ 0) :
    Calls Tryz.prog 12 #[v, .int .i64 x] w fun e w' => e = .returned (.tuple #[.slice none 0 0, .int .i64 (swE l x)]) ∧ Below w.heap.size w w' := by
  obtain ⟨ao, cap, rfl⟩ := hp.at_
  have HA := Lib.hid (anyBx_any 58 #[] (fun b => !bxOk b) _ l w hp (by omega) ⟨fun xs W => by rfl, fun b W _ _ => sweep1_any b W⟩)
  have hno : l.any (fun b => !bxOk b) = !l.all bxOk := by rw [List.not_all_eq_any_not]
  have HAX := Lib.hid (fun W => isAxis_any x W)
  rw [hno] at HA
  unfold swE at h ⊢
  cases ho : l.all bxOk with
  | false =>
    rw [ho] at HA
    clear hp ho hno h
    simp only [Bool.false_eq_true, if_false]
    go_enter Tryz.func12, Tryz.ntmps12
    go_wp2_with fail
    refine HA.out.mono ?_
    rintro e w1 ⟨rfl, hb1⟩
    have HB1 := Lib.hid hb1
    clear hb1 HA
    go_wp2
    go_ret2
    exact ⟨rfl, HB1.out⟩
  | true =>
    rw [ho] at HA
    simp only [ho, if_true] at h ⊢
    by_cases h8 : 8 < l.length
    · have d1 : decide ((8 : Int) < (l.length : Int)) = true := dec_yes (by omega)
      have hh1 : (8 : Int) < (l.length : Int) := by omega
      rw [if_pos h8]
      clear hp ho hno h h8
      go_enter Tryz.func12, Tryz.ntmps12
      go_wp2_with fail
      refine HA.out.mono ?_
      rintro e w1 ⟨rfl, hb1⟩
      have HB1 := Lib.hid hb1
      clear hb1 HA
      go_wp2
      go_ret2
      exact ⟨rfl, HB1.out⟩
    · have d1 : decide ((8 : Int) < (l.length : Int)) = false := dec_no (by omega)
      have hh1 : ¬ (8 : Int) < (l.length : Int) := by omega
      rw [if_neg h8] at h ⊢
      cases hx : axB x with
      | true => rw [hx] at h; exact absurd rfl h
      | false =>
        rw [hx] at HAX
        simp only [Bool.false_eq_true, if_false]
        clear hp ho hno h h8 hx
        go_enter Tryz.func12, Tryz.ntmps12
        go_wp2_with fail
        refine HA.out.mono ?_
        rintro e w1 ⟨rfl, hb1⟩
        have HB1 := Lib.hid hb1
        clear hb1 HA
        go_wp2_with fail
        refine (HAX.out _).mono ?_
        rintro e w2 ⟨rfl, hb2⟩
        have HB2 := Lib.hid (bstep HB1.out hb2)
        clear hb2
        go_wp2
        go_ret2
        exact ⟨rfl, HB2.out⟩
theorem swE_arg {l : List Bx} (x : Int) (h : l.all bxOk = false) : swE l x = 1 := by unfold swE; rw [h]; rfl
theorem swE_full {l : List Bx} (x : Int) (h : l.all bxOk = true) (h8 : 8 < l.length) : swE l x = 4 := by unfold swE; rw [h, if_pos h8]; rfl
theorem swE_kind {l : List Bx} {x : Int} (h : l.all bxOk = true) (h8 : ¬ 8 < l.length) (hx : axB x = false) : swE l x = 11 := by unfold swE; rw [h, if_neg h8, hx]; rfl
theorem wit_code {L : List (List Bx)} {Z : List Int} {i k x : Int} (h : pairE L.length i k x = 0) : witE L Z i k x = if blkAt L Z x i.toNat k.toNat then 0 else 12 := by
  unfold witE
  rw [if_pos h, wit_at]
/-- What the program and the reference answer at two bars and an axis. -/
structure SwB (v vr : Value) (i k x c cw : Int) (q : Bool) (p : Pt) (l : List BarD) (rs : List RunD) (w : World) : Prop where
  bl : ∀ W, Below w.heap.size w W → Calls Tryz.prog 17 #[v, vr, .int .i64 i, .int .i64 k, .int .i64 x] W fun e w' => e = .returned (.tuple #[.bool q, .int .i64 c]) ∧ Below W.heap.size W w'
  wi : ∀ W, Below w.heap.size w W → Calls Tryz.prog 18 #[v, vr, .int .i64 i, .int .i64 k, .int .i64 x] W fun e w' => e = .returned (.tuple #[ptv p, .int .i64 cw]) ∧ Below W.heap.size W w'
  gi : ∀ W tv, Below w.heap.size w W → Ints W tv [k] → Calls Tryz.prog 19 #[v, vr, .int .i64 i, .int .i64 x, tv] W fun e w' => e = .returned (.int .i64 c) ∧ Below W.heap.size W w'
  bad : c ≠ 0 → q = false ∧ p = pt0 ∧ cw = c
  good : c = 0 → (cw = if q then 0 else 12) ∧ ∀ W, Below w.heap.size w W → Calls Tryz.prog 20 #[v, vr, .int .i64 i, .int .i64 k, .int .i64 x] W fun e w' => e = .returned (.tuple #[ptv p, .bool q]) ∧ Below W.heap.size W w'
theorem swB_of (v vr : Value) (i k x : Int) (l : List BarD) (rs : List RunD) (w : World) (hp : Bars w v l) (hr : Runs w vr rs) (hf : FitB l) (hl2 : l.length ≤ 140737488355328) (hlr2 : rs.length ≤ 140737488355328) : ∃ c cw q p, SwB v vr i k x c cw q p l rs w := by
  cases h : laidOk l rs with
  | false =>
    refine ⟨1, 1, false, pt0, ⟨fun W hW => blocksI_bad v vr i k x l rs W (hp.below hW) (hr.below hW) hl2 hlr2 hf h, fun W hW => witnessI_bad v vr i k x l rs W (hp.below hW) (hr.below hW) hl2 hlr2 hf h, fun W tv hW ht => ?_, fun _ => ⟨rfl, rfl, rfl⟩, fun h => by omega⟩⟩
    have := rgiven_any v vr i x tv [k] l rs W (hp.below hW) (hr.below hW) ht hl2 hlr2 (by simp) hf
    rwa [h] at this
  | true =>
    refine ⟨pairE (lgsOf l rs).length i k x, witE (lgsOf l rs) (szsOf l rs) i k x, blkR (lgsOf l rs) (szsOf l rs) i k x, witV (lgsOf l rs) (szsOf l rs) i k x, ⟨fun W hW => blocksI_good v vr i k x l rs W (hp.below hW) (hr.below hW) hl2 hlr2 hf h, fun W hW => witnessI_good v vr i k x l rs W (hp.below hW) (hr.below hW) hl2 hlr2 hf h, fun W tv hW ht => ?_, fun hc => ?_, fun hc => ?_⟩⟩
    · have := rgiven_any v vr i x tv [k] l rs W (hp.below hW) (hr.below hW) ht hl2 hlr2 (by simp) hf
      rw [h] at this
      have e : givE true (lgsOf l rs).length i x [k] = pairE (lgsOf l rs).length i k x := oth_pair _ _ _ _
      rwa [e] at this
    · refine ⟨?_, ?_, ?_⟩
      · unfold blkR; rw [dec_no hc]; rfl
      · unfold witV; rw [if_neg hc]
      · unfold witE; rw [if_neg hc]
    · obtain ⟨⟨i0, i1⟩, ⟨k0, k1⟩, hx, hne⟩ := pairE_zero hc
      have hq : blkR (lgsOf l rs) (szsOf l rs) i k x = blkAt (lgsOf l rs) (szsOf l rs) x i.toNat k.toNat := by unfold blkR; rw [dec_yes hc]; rfl
      have hv : witV (lgsOf l rs) (szsOf l rs) i k x = (witAt (lgsOf l rs) (szsOf l rs) x i.toNat k.toNat).getD pt0 := by unfold witV; rw [if_pos hc]
      rw [hq, hv]
      refine ⟨wit_code hc, fun W hW => ?_⟩
      obtain ⟨n, rfl⟩ : ∃ n : Nat, i = (n : Int) := ⟨i.toNat, by omega⟩
      obtain ⟨m, rfl⟩ : ∃ n : Nat, k = (n : Int) := ⟨k.toNat, by omega⟩
      rw [Int.toNat_natCast, Int.toNat_natCast, ← wit_at]
      exact rwit_any v vr n m x l rs W (hp.below hW) (hr.below hW) hl2 h (by omega) (by omega) hx
theorem run_eq_pt0 (a b : Pt) (W : World) : (Op.equalIn 10000 34 (ptv a) (ptv b)).run Tryz.prog W = .ok (decide (a = b)) W := by
  obtain ⟨a1, a2, a3⟩ := a
  obtain ⟨b1, b2, b3⟩ := b
  simp only [Pt.mk.injEq]
  by_cases h1 : a1 = b1
  · by_cases h2 : a2 = b2
    · by_cases h3 : a3 = b3
      · go_simp
      · go_simp
    · go_simp
  · go_simp
theorem eq_pt_same (p : Pt) (W : World) : (Op.equalIn 10000 34 (.agg #[.int .i64 p.x, .int .i64 p.y, .int .i64 p.z]) (.agg #[.int .i64 p.x, .int .i64 p.y, .int .i64 p.z])).run Tryz.prog W = .ok true W := by
  have := run_eq_pt0 p p W
  rwa [dec_yes rfl] at this

theorem ints_lit1 (W : World) (o : Obj) (k : Int) : Ints ((W.alloc o).alloc (.cells #[.int .i64 k] 3)) (.slice (some ⟨W.heap.size + 1, 0, none⟩) 1 1) [k] := by
  refine ⟨_, 1, rfl, fun _ => ⟨W.heap.size + 1, 0, rfl, by simp, fun a x hx => ?_⟩⟩
  have h := BlkIs.new1 W o #[.int .i64 k] 3
  match a, hx with
  | 0, hx => cases hx; exact h.cell 0
set_option maxRecDepth 100000 in
set_option maxHeartbeats 16000000 in
theorem blockSweeps_walk (w : World) (gv : Value) (G : List Bx) (hg : Bxs w gv G) (hlg : G.length * 48 ≤ 140737488351232) (v : Value) (l : List BarD) (hp : Bars w v l) (hf : FitB l) (hl : l.length * 64 ≤ 140737488351232) (vr : Value) (rs : List RunD) (hr : Runs w vr rs) (hm : ∀ r ∈ rs, r.mark.size ≤ maxLen) (hlr : rs.length * 88 ≤ 140737488351232)
    (i : Int) (wi : (Lit.int .i64 i).wf = true) (k : Int) (wk : (Lit.int .i64 k).wf = true) (x : Int) (wx : (Lit.int .i64 x).wf = true) :
    Calls Tryz.prog 3 #[gv, v, vr, .int .i64 i, .int .i64 k, .int .i64 x] w fun e w' => e = .returned (.bool true) ∧ Below w.heap.size w w' := by
  have hl2 : l.length ≤ 140737488355328 := by omega
  have hlr2 : rs.length ≤ 140737488355328 := by omega
  have HFW := Lib.hid (fun W (hW : Below w.heap.size w W) => few_any v vr l rs W (hp.below hW) (hr.below hW) hl2 hlr2)
  obtain ⟨go_, gc, rfl⟩ := hg.at_
  by_cases h15 : 15 < G.length
  · have d15 : decide ((15 : Int) < (G.length : Int)) = true := dec_yes (by omega)
    have hh15 : (15 : Int) < (G.length : Int) := by omega
    clear hp hr hf hl hlr hm wi wk wx hg
    go_enter Tryz.func3, Tryz.ntmps3
    go_wp2_with fail
    refine (bawake_any _).mono ?_
    rintro e w1 ⟨rfl, hb1⟩
    have HW1 := Lib.hid hb1
    clear hb1
    go_wp2
    go_ret
    exact ⟨rfl, HW1.out⟩
  · have d15 : decide ((15 : Int) < (G.length : Int)) = false := dec_no (by omega)
    have hh15 : ¬ (15 : Int) < (G.length : Int) := by omega
    obtain ⟨c, cw, q0, p, hSB⟩ := swB_of v vr i k x l rs w hp hr hf hl2 hlr2
    have HSB := Lib.hid hSB
    have HAL := Lib.hid (fun W (hW : Below w.heap.size w W) => rall_any _ G W (hg.below hW) (by omega))
    have HAX := Lib.hid (fun W => raxis38_any x W)
    have HG := Lib.hid hg
    clear hp hr hf hl hlr hm wi wk wx hSB hg hl2 hlr2
    cases hok : G.all bxOk with
    | false =>
      have HSE := Lib.hid (fun W (hW : Below w.heap.size w W) => sweepI_bad _ G x W (HG.out.below hW) (by omega) (by rw [swE_arg x hok]; omega))
      rw [swE_arg x hok] at HSE
      rw [hok] at HAL
      clear hok
      go_enter Tryz.func3, Tryz.ntmps3
      go_wp2_with fail
      refine (bawake_any _).mono ?_
      rintro e w1 ⟨rfl, hb1⟩
      have HW1 := Lib.hid hb1
      clear hb1
      go_wp2_with fail
      refine (HFW.out _ HW1.out).mono ?_
      rintro e w2 ⟨q, rfl, hb2, hq⟩
      have HW2 := Lib.hid (bstep HW1.out hb2)
      clear hb2 hq
      cases q
      · go_wp2
        go_ret
        exact ⟨rfl, HW2.out⟩
      · go_wp2_with fail
        refine (HSE.out _ HW2.out).mono ?_
        rintro e w3 ⟨rfl, hb3⟩
        have HW3 := Lib.hid (bstep HW2.out hb3)
        clear hb3
        go_wp2_with fail
        refine (HAL.out _ HW3.out).mono ?_
        rintro e w4 ⟨rfl, hb4⟩
        have HW4 := Lib.hid (bstep HW3.out hb4)
        clear hb4
        go_wp2_with fail
        refine (HSB.out.bl _ HW4.out).mono ?_
        rintro e w11 ⟨rfl, hb11⟩
        have HW11 := Lib.hid (bstep HW4.out hb11)
        clear hb11
        go_wp2_with fail
        refine (HSB.out.wi _ HW11.out).mono ?_
        rintro e w12 ⟨rfl, hb12⟩
        have HW12 := Lib.hid (bstep HW11.out hb12)
        have hw12 : Below w.heap.size w ((w12.alloc (.cells #[.int .i64 p.x, .int .i64 p.y, .int .i64 p.z] 34)).alloc (.cells #[.int .i64 k] 3)) := bstep HW12.out (by go_grown)
        have HP0 := Lib.hid ((BlkIs.new w12 #[.int .i64 p.x, .int .i64 p.y, .int .i64 p.z] 34).alloc (.cells #[.int .i64 k] 3))
        have HGV := Lib.hid (HSB.out.gi _ _ hw12 (ints_lit1 w12 (.cells #[.int .i64 p.x, .int .i64 p.y, .int .i64 p.z] 34) k))
        have HWZ := Lib.hid hw12
        clear hb12 hw12
        go_wp2_with fail
        refine HGV.out.mono ?_
        rintro e w13 ⟨rfl, hb13⟩
        have HW13 := Lib.hid (bstep HWZ.out hb13)
        have HP1 := Lib.hid (HP0.out.below hb13)
        clear hb13 HWZ HP0 HGV HW12 HW11
        generalize w12.heap.size = gp at *
        by_cases hc : c = 0
        · obtain ⟨hcw, hrw⟩ := HSB.out.good hc
          have HRW := Lib.hid (hrw _ HW13.out)
          have HCW := Lib.hid hcw
          clear hrw HSB hcw
          subst hc
          go_wp2_with fail
          refine HRW.out.mono ?_
          rintro e w14 ⟨rfl, hb14⟩
          have HW14 := Lib.hid (bstep HW13.out hb14)
          have HP2 := Lib.hid (HP1.out.below hb14)
          have HP3 := Lib.hid (HP2.out.alloc (.cells #[.int .i64 p.x, .int .i64 p.y, .int .i64 p.z] 34))
          have HW15 := Lib.hid (bstep HW14.out (below_new w14 (.cells #[.int .i64 p.x, .int .i64 p.y, .int .i64 p.z] 34)))
          clear hb14 HP1
          have e0 := HP3.out.cell 0
          have e1 := HP3.out.cell 1
          have e2 := HP3.out.cell 2
          have f0 := HP2.out.cell 0
          have f1 := HP2.out.cell 1
          have f2 := HP2.out.cell 2
          have ez := HP2.out.lt
          have hq1 := fun W => eq_pt_same p W
          cases q0
          · have hcw2 : cw = 12 := HCW.out
            clear HCW
            subst hcw2
            go_wp2
            go_ret
            exact ⟨rfl, HW15.out⟩
          · have hcw2 : cw = 0 := HCW.out
            clear HCW
            subst hcw2
            go_wp2
            go_ret
            exact ⟨rfl, HW15.out⟩
        · obtain ⟨rfl, rfl, rfl⟩ := HSB.out.bad hc
          have hcb : (cw != 0) = true := bne_yes hc
          have e0 : w13.cell? ⟨gp, 0, none⟩ = some (.int .i64 0) := HP1.out.cell 0
          have e1 : w13.cell? ⟨gp, 1, none⟩ = some (.int .i64 0) := HP1.out.cell 1
          have e2 : w13.cell? ⟨gp, 2, none⟩ = some (.int .i64 0) := HP1.out.cell 2
          have hq1 : ∀ W, (Op.equalIn 10000 34 (.agg #[.int .i64 0, .int .i64 0, .int .i64 0]) (.agg #[.int .i64 0, .int .i64 0, .int .i64 0])).run Tryz.prog W = .ok true W := fun W => eq_pt_same pt0 W
          clear HP1 hc HSB
          go_wp2
          go_ret
          exact ⟨rfl, HW13.out⟩
    | true =>
      rw [hok] at HAL
      by_cases h8 : 8 < G.length
      · have HSE := Lib.hid (fun W (hW : Below w.heap.size w W) => sweepI_bad _ G x W (HG.out.below hW) (by omega) (by rw [swE_full x hok h8]; omega))
        rw [swE_full x hok h8] at HSE
        have d8 : decide ((8 : Int) < (G.length : Int)) = true := dec_yes (by omega)
        have hh8 : (8 : Int) < (G.length : Int) := by omega
        clear hok h8
        go_enter Tryz.func3, Tryz.ntmps3
        go_wp2_with fail
        refine (bawake_any _).mono ?_
        rintro e w1 ⟨rfl, hb1⟩
        have HW1 := Lib.hid hb1
        clear hb1
        go_wp2_with fail
        refine (HFW.out _ HW1.out).mono ?_
        rintro e w2 ⟨q, rfl, hb2, hq⟩
        have HW2 := Lib.hid (bstep HW1.out hb2)
        clear hb2 hq
        cases q
        · go_wp2
          go_ret
          exact ⟨rfl, HW2.out⟩
        · go_wp2_with fail
          refine (HSE.out _ HW2.out).mono ?_
          rintro e w3 ⟨rfl, hb3⟩
          have HW3 := Lib.hid (bstep HW2.out hb3)
          clear hb3
          go_wp2_with fail
          refine (HAL.out _ HW3.out).mono ?_
          rintro e w4 ⟨rfl, hb4⟩
          have HW4 := Lib.hid (bstep HW3.out hb4)
          clear hb4
          go_wp2_with fail
          refine (HSB.out.bl _ HW4.out).mono ?_
          rintro e w11 ⟨rfl, hb11⟩
          have HW11 := Lib.hid (bstep HW4.out hb11)
          clear hb11
          go_wp2_with fail
          refine (HSB.out.wi _ HW11.out).mono ?_
          rintro e w12 ⟨rfl, hb12⟩
          have HW12 := Lib.hid (bstep HW11.out hb12)
          have hw12 : Below w.heap.size w ((w12.alloc (.cells #[.int .i64 p.x, .int .i64 p.y, .int .i64 p.z] 34)).alloc (.cells #[.int .i64 k] 3)) := bstep HW12.out (by go_grown)
          have HP0 := Lib.hid ((BlkIs.new w12 #[.int .i64 p.x, .int .i64 p.y, .int .i64 p.z] 34).alloc (.cells #[.int .i64 k] 3))
          have HGV := Lib.hid (HSB.out.gi _ _ hw12 (ints_lit1 w12 (.cells #[.int .i64 p.x, .int .i64 p.y, .int .i64 p.z] 34) k))
          have HWZ := Lib.hid hw12
          clear hb12 hw12
          go_wp2_with fail
          refine HGV.out.mono ?_
          rintro e w13 ⟨rfl, hb13⟩
          have HW13 := Lib.hid (bstep HWZ.out hb13)
          have HP1 := Lib.hid (HP0.out.below hb13)
          clear hb13 HWZ HP0 HGV HW12 HW11
          generalize w12.heap.size = gp at *
          by_cases hc : c = 0
          · obtain ⟨hcw, hrw⟩ := HSB.out.good hc
            have HRW := Lib.hid (hrw _ HW13.out)
            have HCW := Lib.hid hcw
            clear hrw HSB hcw
            subst hc
            go_wp2_with fail
            refine HRW.out.mono ?_
            rintro e w14 ⟨rfl, hb14⟩
            have HW14 := Lib.hid (bstep HW13.out hb14)
            have HP2 := Lib.hid (HP1.out.below hb14)
            have HP3 := Lib.hid (HP2.out.alloc (.cells #[.int .i64 p.x, .int .i64 p.y, .int .i64 p.z] 34))
            have HW15 := Lib.hid (bstep HW14.out (below_new w14 (.cells #[.int .i64 p.x, .int .i64 p.y, .int .i64 p.z] 34)))
            clear hb14 HP1
            have e0 := HP3.out.cell 0
            have e1 := HP3.out.cell 1
            have e2 := HP3.out.cell 2
            have f0 := HP2.out.cell 0
            have f1 := HP2.out.cell 1
            have f2 := HP2.out.cell 2
            have ez := HP2.out.lt
            have hq1 := fun W => eq_pt_same p W
            cases q0
            · have hcw2 : cw = 12 := HCW.out
              clear HCW
              subst hcw2
              go_wp2
              go_ret
              exact ⟨rfl, HW15.out⟩
            · have hcw2 : cw = 0 := HCW.out
              clear HCW
              subst hcw2
              go_wp2
              go_ret
              exact ⟨rfl, HW15.out⟩
          · obtain ⟨rfl, rfl, rfl⟩ := HSB.out.bad hc
            have hcb : (cw != 0) = true := bne_yes hc
            have e0 : w13.cell? ⟨gp, 0, none⟩ = some (.int .i64 0) := HP1.out.cell 0
            have e1 : w13.cell? ⟨gp, 1, none⟩ = some (.int .i64 0) := HP1.out.cell 1
            have e2 : w13.cell? ⟨gp, 2, none⟩ = some (.int .i64 0) := HP1.out.cell 2
            have hq1 : ∀ W, (Op.equalIn 10000 34 (.agg #[.int .i64 0, .int .i64 0, .int .i64 0]) (.agg #[.int .i64 0, .int .i64 0, .int .i64 0])).run Tryz.prog W = .ok true W := fun W => eq_pt_same pt0 W
            clear HP1 hc HSB
            go_wp2
            go_ret
            exact ⟨rfl, HW13.out⟩
      · have d8 : decide ((8 : Int) < (G.length : Int)) = false := dec_no (by omega)
        have hh8 : ¬ (8 : Int) < (G.length : Int) := by omega
        cases hx : axB x with
        | false =>
          have HSE := Lib.hid (fun W (hW : Below w.heap.size w W) => sweepI_bad _ G x W (HG.out.below hW) (by omega) (by rw [swE_kind hok h8 hx]; omega))
          rw [swE_kind hok h8 hx] at HSE
          rw [hx] at HAX
          clear hok h8 hx
          go_enter Tryz.func3, Tryz.ntmps3
          go_wp2_with fail
          refine (bawake_any _).mono ?_
          rintro e w1 ⟨rfl, hb1⟩
          have HW1 := Lib.hid hb1
          clear hb1
          go_wp2_with fail
          refine (HFW.out _ HW1.out).mono ?_
          rintro e w2 ⟨q, rfl, hb2, hq⟩
          have HW2 := Lib.hid (bstep HW1.out hb2)
          clear hb2 hq
          cases q
          · go_wp2
            go_ret
            exact ⟨rfl, HW2.out⟩
          · go_wp2_with fail
            refine (HSE.out _ HW2.out).mono ?_
            rintro e w3 ⟨rfl, hb3⟩
            have HW3 := Lib.hid (bstep HW2.out hb3)
            clear hb3
            go_wp2_with fail
            refine (HAL.out _ HW3.out).mono ?_
            rintro e w4 ⟨rfl, hb4⟩
            have HW4 := Lib.hid (bstep HW3.out hb4)
            clear hb4
            go_wp2_with fail
            refine (HAX.out _).mono ?_
            rintro e w5 ⟨rfl, rfl⟩
            go_wp2_with fail
            refine (HSB.out.bl _ HW4.out).mono ?_
            rintro e w11 ⟨rfl, hb11⟩
            have HW11 := Lib.hid (bstep HW4.out hb11)
            clear hb11
            go_wp2_with fail
            refine (HSB.out.wi _ HW11.out).mono ?_
            rintro e w12 ⟨rfl, hb12⟩
            have HW12 := Lib.hid (bstep HW11.out hb12)
            have hw12 : Below w.heap.size w ((w12.alloc (.cells #[.int .i64 p.x, .int .i64 p.y, .int .i64 p.z] 34)).alloc (.cells #[.int .i64 k] 3)) := bstep HW12.out (by go_grown)
            have HP0 := Lib.hid ((BlkIs.new w12 #[.int .i64 p.x, .int .i64 p.y, .int .i64 p.z] 34).alloc (.cells #[.int .i64 k] 3))
            have HGV := Lib.hid (HSB.out.gi _ _ hw12 (ints_lit1 w12 (.cells #[.int .i64 p.x, .int .i64 p.y, .int .i64 p.z] 34) k))
            have HWZ := Lib.hid hw12
            clear hb12 hw12
            go_wp2_with fail
            refine HGV.out.mono ?_
            rintro e w13 ⟨rfl, hb13⟩
            have HW13 := Lib.hid (bstep HWZ.out hb13)
            have HP1 := Lib.hid (HP0.out.below hb13)
            clear hb13 HWZ HP0 HGV HW12 HW11
            generalize w12.heap.size = gp at *
            by_cases hc : c = 0
            · obtain ⟨hcw, hrw⟩ := HSB.out.good hc
              have HRW := Lib.hid (hrw _ HW13.out)
              have HCW := Lib.hid hcw
              clear hrw HSB hcw
              subst hc
              go_wp2_with fail
              refine HRW.out.mono ?_
              rintro e w14 ⟨rfl, hb14⟩
              have HW14 := Lib.hid (bstep HW13.out hb14)
              have HP2 := Lib.hid (HP1.out.below hb14)
              have HP3 := Lib.hid (HP2.out.alloc (.cells #[.int .i64 p.x, .int .i64 p.y, .int .i64 p.z] 34))
              have HW15 := Lib.hid (bstep HW14.out (below_new w14 (.cells #[.int .i64 p.x, .int .i64 p.y, .int .i64 p.z] 34)))
              clear hb14 HP1
              have e0 := HP3.out.cell 0
              have e1 := HP3.out.cell 1
              have e2 := HP3.out.cell 2
              have f0 := HP2.out.cell 0
              have f1 := HP2.out.cell 1
              have f2 := HP2.out.cell 2
              have ez := HP2.out.lt
              have hq1 := fun W => eq_pt_same p W
              cases q0
              · have hcw2 : cw = 12 := HCW.out
                clear HCW
                subst hcw2
                go_wp2
                go_ret
                exact ⟨rfl, HW15.out⟩
              · have hcw2 : cw = 0 := HCW.out
                clear HCW
                subst hcw2
                go_wp2
                go_ret
                exact ⟨rfl, HW15.out⟩
            · obtain ⟨rfl, rfl, rfl⟩ := HSB.out.bad hc
              have hcb : (cw != 0) = true := bne_yes hc
              have e0 : w13.cell? ⟨gp, 0, none⟩ = some (.int .i64 0) := HP1.out.cell 0
              have e1 : w13.cell? ⟨gp, 1, none⟩ = some (.int .i64 0) := HP1.out.cell 1
              have e2 : w13.cell? ⟨gp, 2, none⟩ = some (.int .i64 0) := HP1.out.cell 2
              have hq1 : ∀ W, (Op.equalIn 10000 34 (.agg #[.int .i64 0, .int .i64 0, .int .i64 0]) (.agg #[.int .i64 0, .int .i64 0, .int .i64 0])).run Tryz.prog W = .ok true W := fun W => eq_pt_same pt0 W
              clear HP1 hc HSB
              go_wp2
              go_ret
              exact ⟨rfl, HW13.out⟩
        | true =>
          have HSE := Lib.hid (fun W (hW : Below w.heap.size w W) => sweepI_good _ G x W (HG.out.below hW) (by omega) hok hx)
          have HRS := Lib.hid (fun W (hW : Below w.heap.size w W) => rsweep_any _ G x W (HG.out.below hW) (by omega) hx)
          have HLG : Hid ((G.map fun b => wayB b x).length ≤ 140737488355328) := by unfold Hid; rw [List.length_map]; omega
          rw [hx] at HAX
          clear hok h8 hx
          go_enter Tryz.func3, Tryz.ntmps3
          go_wp2_with fail
          refine (bawake_any _).mono ?_
          rintro e w1 ⟨rfl, hb1⟩
          have HW1 := Lib.hid hb1
          clear hb1
          go_wp2_with fail
          refine (HFW.out _ HW1.out).mono ?_
          rintro e w2 ⟨q, rfl, hb2, hq⟩
          have HW2 := Lib.hid (bstep HW1.out hb2)
          clear hb2 hq
          cases q
          · go_wp2
            go_ret
            exact ⟨rfl, HW2.out⟩
          · go_wp2_with fail
            refine (HSE.out _ HW2.out).mono ?_
            rintro e w3 ⟨o3, rfl, ho3, hb3⟩
            obtain ⟨oa3, oc3, rfl⟩ := OwnN.shape ho3
            rw [List.length_map] at ho3
            have HO3 := Lib.hid (OwnN.fl bx_len ho3)
            rw [List.length_map]
            have HW3 := Lib.hid (bstep HW2.out hb3)
            clear hb3 ho3
            go_wp2_with fail
            refine (HAL.out _ HW3.out).mono ?_
            rintro e w4 ⟨rfl, hb4⟩
            have HW4 := Lib.hid (bstep HW3.out hb4)
            have HO4 := Lib.hid (Fl.below HO3.out hb4)
            clear hb4
            go_wp2_with fail
            refine (HAX.out _).mono ?_
            rintro e w5 ⟨rfl, rfl⟩
            go_wp2_with fail
            refine (HRS.out _ HW4.out).mono ?_
            rintro e w6 ⟨o6, rfl, HO6, hb6⟩
            have HW6 := Lib.hid (bstep HW4.out hb6)
            have HEQ := Lib.hid (eqBx_any _ o6 _ _ w6 (Fl.below HO4.out hb6) (OwnN.fl bx_len HO6.out) HLG.out HLG.out)
            rw [dec_yes rfl] at HEQ
            clear hb6
            go_wp2_with fail
            refine HEQ.out.mono ?_
            rintro e w7 ⟨rfl, hb7⟩
            have HW7 := Lib.hid (bstep HW6.out hb7)
            clear hb7
            go_wp2_with fail
            refine (HSB.out.bl _ HW7.out).mono ?_
            rintro e w11 ⟨rfl, hb11⟩
            have HW11 := Lib.hid (bstep HW7.out hb11)
            clear hb11
            go_wp2_with fail
            refine (HSB.out.wi _ HW11.out).mono ?_
            rintro e w12 ⟨rfl, hb12⟩
            have HW12 := Lib.hid (bstep HW11.out hb12)
            have hw12 : Below w.heap.size w ((w12.alloc (.cells #[.int .i64 p.x, .int .i64 p.y, .int .i64 p.z] 34)).alloc (.cells #[.int .i64 k] 3)) := bstep HW12.out (by go_grown)
            have HP0 := Lib.hid ((BlkIs.new w12 #[.int .i64 p.x, .int .i64 p.y, .int .i64 p.z] 34).alloc (.cells #[.int .i64 k] 3))
            have HGV := Lib.hid (HSB.out.gi _ _ hw12 (ints_lit1 w12 (.cells #[.int .i64 p.x, .int .i64 p.y, .int .i64 p.z] 34) k))
            have HWZ := Lib.hid hw12
            clear hb12 hw12
            go_wp2_with fail
            refine HGV.out.mono ?_
            rintro e w13 ⟨rfl, hb13⟩
            have HW13 := Lib.hid (bstep HWZ.out hb13)
            have HP1 := Lib.hid (HP0.out.below hb13)
            clear hb13 HWZ HP0 HGV HW12 HW11
            generalize w12.heap.size = gp at *
            by_cases hc : c = 0
            · obtain ⟨hcw, hrw⟩ := HSB.out.good hc
              have HRW := Lib.hid (hrw _ HW13.out)
              have HCW := Lib.hid hcw
              clear hrw HSB hcw
              subst hc
              go_wp2_with fail
              refine HRW.out.mono ?_
              rintro e w14 ⟨rfl, hb14⟩
              have HW14 := Lib.hid (bstep HW13.out hb14)
              have HP2 := Lib.hid (HP1.out.below hb14)
              have HP3 := Lib.hid (HP2.out.alloc (.cells #[.int .i64 p.x, .int .i64 p.y, .int .i64 p.z] 34))
              have HW15 := Lib.hid (bstep HW14.out (below_new w14 (.cells #[.int .i64 p.x, .int .i64 p.y, .int .i64 p.z] 34)))
              clear hb14 HP1
              have e0 := HP3.out.cell 0
              have e1 := HP3.out.cell 1
              have e2 := HP3.out.cell 2
              have f0 := HP2.out.cell 0
              have f1 := HP2.out.cell 1
              have f2 := HP2.out.cell 2
              have ez := HP2.out.lt
              have hq1 := fun W => eq_pt_same p W
              cases q0
              · have hcw2 : cw = 12 := HCW.out
                clear HCW
                subst hcw2
                go_wp2
                go_ret
                exact ⟨rfl, HW15.out⟩
              · have hcw2 : cw = 0 := HCW.out
                clear HCW
                subst hcw2
                go_wp2
                go_ret
                exact ⟨rfl, HW15.out⟩
            · obtain ⟨rfl, rfl, rfl⟩ := HSB.out.bad hc
              have hcb : (cw != 0) = true := bne_yes hc
              have e0 : w13.cell? ⟨gp, 0, none⟩ = some (.int .i64 0) := HP1.out.cell 0
              have e1 : w13.cell? ⟨gp, 1, none⟩ = some (.int .i64 0) := HP1.out.cell 1
              have e2 : w13.cell? ⟨gp, 2, none⟩ = some (.int .i64 0) := HP1.out.cell 2
              have hq1 : ∀ W, (Op.equalIn 10000 34 (.agg #[.int .i64 0, .int .i64 0, .int .i64 0]) (.agg #[.int .i64 0, .int .i64 0, .int .i64 0])).run Tryz.prog W = .ok true W := fun W => eq_pt_same pt0 W
              clear HP1 hc HSB
              go_wp2
              go_ret
              exact ⟨rfl, HW13.out⟩
end
end Go.Proofs.YtnlloecbjohfdaaGreat
