/-
  Reference 19: Check (printed by wip/gen_Rcg.py).
-/
import Derived.Test.YtpiigmhbbcjamaaGreatCck
namespace Go.Proofs.YtpiigmhbbcjamaaGreat
section
open Go.RowKit
set_option linter.unusedVariables false
set_option linter.unusedSimpArgs false
attribute [local go_sem ↓] Go.wp_at_zero Go.wp_at_succ

/-- A call with a guard that holds. -/
theorem step_callG {P : Program} {ops : Array Oper} {o : Oper} {a : Act} {K : Act → World → Prop} {Q : Exit → Act → World → Prop} {E : Prop} {W : World} (hw : Region.wanted o (yielded ops a.tmps) = true) (d : Option Tmp) (hd : o.dst = d) (f : FuncId) (args : Array Value) (hx : (execOp a.eval o).run P W = .ok (.enter f args) W) (R : Value → World → Prop)
    (hC : Calls P f args W fun e w' => ∃ v, e = .returned v ∧ R v w') (hK : ∀ v w', R v w' → K (a.put d v) w') :
    if Region.wanted o (yielded ops a.tmps) = true then Oper.wp P o a W K Q else E := by
  subst hd
  rw [if_pos hw]
  unfold Oper.wp
  rw [hx]
  exact hC.mono fun e w' ⟨v, he, hr⟩ => by subst he; exact hK v w' hr
set_option maxRecDepth 100000 in
set_option maxHeartbeats 8000000 in
theorem rcheck19_any (v vr : Value) (c : Int) (x : ClD) (l : List BarD) (rs : List RunD) (w : World) (hp : Bars w v l) (hr : Runs w vr rs) (hl : l.length ≤ 140737488355328) (h : laidOk l rs = true) (hc : clrB c = true) :
    Calls Tryz.prog 30 #[v, vr, .int .i64 c, clv x] w fun e w' => e = .returned (.bool (ckC (lgsOf l rs) (szsOf l rs) c x)) ∧ Below w.heap.size w w' := by
  have HB0 := Lib.hid (below_new w (.cells (clA x) 45))
  have HX0 := Lib.hid (BlkIs.new w (clA x) 45)
  obtain ⟨s1, s2, s3, s4, s5⟩ := laid_sum h
  have hn : ((lgsOf l rs).length : Int) = sumC rs := by rw [lgsOf_len]; exact s1
  have HLD := Lib.hid (fun (i : Int) W (hW : Below w.heap.size w W) => rlaid19_any vr rs i W (hr.below hW) (by omega) s4)
  have HLB : Hid (∀ i : Int, ldB rs i = decide (0 ≤ i ∧ i < ((lgsOf l rs).length : Int))) := by intro i; rw [hn]; rfl
  have HLG := Lib.hid (fun (i : Nat) W (hW : Below w.heap.size w W) (hi : i < (lgsOf l rs).length) => rlegs19_any v vr l rs i W (hp.below hW) (hr.below hW) hl h (by rw [← lgsOf_len]; exact hi))
  have HSZ := Lib.hid (fun (i : Nat) W (hW : Below w.heap.size w W) (hi : i < (lgsOf l rs).length) => rsize19_any v vr l rs i W (hp.below hW) (hr.below hW) hl h (by rw [← lgsOf_len]; exact hi))
  have HZ := Lib.hid (lzOk_of h)
  have hcc := Lib.hid (clr_yes hc)
  generalize ldB rs = ld at *
  generalize lgsOf l rs = L at *
  generalize szsOf l rs = Z at *
  obtain ⟨xa, xb, ⟨px, py, pz⟩, ⟨qx, qy, qz⟩⟩ := x
  obtain ⟨r, hr⟩ : ∃ r, ckC L Z c ⟨xa, xb, ⟨px, py, pz⟩, ⟨qx, qy, qz⟩⟩ = r := ⟨_, rfl⟩
  have HR := Lib.hid hr
  rw [hr]
  clear hp hr h hc s1 s2 s3 s4 s5 hn
  by_cases h1 : 0 ≤ xa ∧ xa < (L.length : Int)
  · have e1 : ld xa = true := (HLB.out xa).trans (dec_yes h1)
    by_cases h2 : 0 ≤ xb ∧ xb < (L.length : Int)
    · have e2 : ld xb = true := (HLB.out xb).trans (dec_yes h2)
      have HL1 := Lib.hid (fun W hW => HLD.out xa W hW)
      have HL2 := Lib.hid (fun W hW => HLD.out xb W hW)
      rw [e1] at HL1
      rw [e2] at HL2
      by_cases h3 : xb ≤ xa
      · obtain rfl : r = false := HR.out.symm.trans (ckC_far (L := L) (Z := Z) (c := c) (x := ⟨xa, xb, ⟨px, py, pz⟩, ⟨qx, qy, qz⟩⟩) (by show ¬ (0 ≤ xa ∧ xa < xb ∧ xb < (L.length : Int)); omega))
        have d3 : decide (xb ≤ xa) = true := dec_yes h3
        have f0 := HX0.out.cell 0
        have f1 := HX0.out.cell 1
        go_enter Tryz.func30, Tryz.ntmps30
        go_wp2_with fail
        refine (HL1.out _ HB0.out).mono ?_
        rintro e w1 ⟨rfl, rfl⟩
        go_wp2_with fail
        refine (HL2.out _ HB0.out).mono ?_
        rintro e w1 ⟨rfl, rfl⟩
        go_wp2
        go_ret
        exact ⟨rfl, HB0.out⟩
      · have d3 : decide (xb ≤ xa) = false := dec_no h3
        obtain ⟨a, rfl⟩ : ∃ n : Nat, xa = (n : Int) := ⟨xa.toNat, by omega⟩
        obtain ⟨b, rfl⟩ : ∃ n : Nat, xb = (n : Int) := ⟨xb.toNat, by omega⟩
        have na : a < L.length := by omega
        have nb : b < L.length := by omega
        have n2 : decide (b ≤ a) = false := dec_no (by omega)
        have HE := Lib.hid (HR.out.symm.trans (ckC_in (by omega) nb))
        have LA := Lib.hid (HZ.out.legs a na)
        have LB := Lib.hid (HZ.out.legs b nb)
        have HGA := Lib.hid (fun W hW => HLG.out a W hW na)
        have HGB := Lib.hid (fun W hW => HLG.out b W hW nb)
        have HSA := Lib.hid (fun W hW => HSZ.out a W hW na)
        have HSB := Lib.hid (fun W hW => HSZ.out b W hW nb)
        obtain ⟨q1, hq1⟩ : ∃ q, onB (L.getD a []) ⟨px, py, pz⟩ = q := ⟨_, rfl⟩
        obtain ⟨q2, hq2⟩ : ∃ q, onB (L.getD b []) ⟨qx, qy, qz⟩ = q := ⟨_, rfl⟩
        rw [hq1, hq2] at HE
        have HNA := Lib.hid (fun (h : q1 = true) => on_near (hq1.trans h) LA.out.2.2)
        have HNB := Lib.hid (fun (h : q2 = true) => on_near (hq2.trans h) LB.out.2.2)
        have HOA := Lib.hid (fun o W (hW : Bxs W o (L.getD a [])) => ron19_any o (L.getD a []) ⟨px, py, pz⟩ W hW LA.out.2.1)
        have HOB := Lib.hid (fun o W (hW : Bxs W o (L.getD b [])) => ron19_any o (L.getD b []) ⟨qx, qy, qz⟩ W hW LB.out.2.1)
        rw [hq1] at HOA
        rw [hq2] at HOB
        have HND := Lib.hid (fun W => rneed19_any (Z.getD a 0) (Z.getD b 0) c W (HZ.out.size a na) (HZ.out.size b nb) hcc.out)
        have HNBD := Lib.hid (need_bd (HZ.out.size a na) (HZ.out.size b nb) hcc.out)
        have HLA : Hid (legsAt L a = L.getD a []) := rfl
        have HLBB : Hid (legsAt L b = L.getD b []) := rfl
        rw [HLA.out] at HGA
        rw [HLBB.out] at HGB
        generalize L.getD a [] = La at *
        generalize L.getD b [] = Lb at *
        generalize Z.getD a 0 = za at *
        generalize Z.getD b 0 = zb at *
        generalize needN za zb c = nd at *
        clear hq1 hq2 LA LB h1 h2 h3 HZ hcc HR HLA HLBB HLB HLD HLG HSZ e1 e2
        cases q1
        · obtain rfl : r = false := HE.out
          have f0 := HX0.out.cell 0
          have f1 := HX0.out.cell 1
          go_enter Tryz.func30, Tryz.ntmps30
          go_wp2_with fail
          refine (HL1.out _ HB0.out).mono ?_
          rintro e w1 ⟨rfl, rfl⟩
          go_wp2_with fail
          refine (HL2.out _ HB0.out).mono ?_
          rintro e w1 ⟨rfl, rfl⟩
          go_wp2_with fail
          clear f0 f1
          have HB1 := Lib.hid (bstep HB0.out (Below.refl _ _).drew)
          have HX1 : Hid (BlkIs (w.alloc (.cells (clA ⟨(a : Int), (b : Int), ⟨px, py, pz⟩, ⟨qx, qy, qz⟩⟩) 45)).drew w.heap.size 45 (clA ⟨(a : Int), (b : Int), ⟨px, py, pz⟩, ⟨qx, qy, qz⟩⟩)) := HX0.out
          clear HX0 HB0
          refine wp_region_held_drew (S := fun W => NeS1 w.heap.size ⟨(a : Int), (b : Int), ⟨px, py, pz⟩, ⟨qx, qy, qz⟩⟩ W) (by kernel_rfl) HX1.out.ns1 (fun hS => ?_)
          refine wpAnyH_takeV (i := 0) (some 31) v rfl rfl (by kernel_rfl) (fun _ _ _ h => h) (Or.inl ⟨by rfl, (fun W _ => by rfl)⟩) hS ?_
          simp only [Act.put, List.setIfInBounds_toArray, List.set_cons_zero, List.set_cons_succ]
          refine wpAnyH_takeV (i := 1) (some 32) vr rfl rfl (by kernel_rfl) (fun _ _ _ h => h) (Or.inl ⟨by rfl, (fun W _ => by rfl)⟩) hS ?_
          simp only [Act.put, List.setIfInBounds_toArray, List.set_cons_zero, List.set_cons_succ]
          refine wpAnyH_takeV (i := 2) (some 33) (.pointer (some ⟨w.heap.size, 0, none⟩)) rfl rfl (by kernel_rfl) (fun _ _ _ h => h) (Or.inl ⟨by rfl, (by intro W hW; obtain ⟨x0, x1, x2, x3, x4, x5, x6, x7⟩ := hW; go_simp)⟩) hS ?_
          simp only [Act.put, List.setIfInBounds_toArray, List.set_cons_zero, List.set_cons_succ]
          refine wpAnyH_takeV (i := 3) (some 34) (.int .i64 (a : Int)) rfl rfl (by kernel_rfl) (fun _ _ _ h => h) (Or.inl ⟨by rfl, (by intro W hW; obtain ⟨x0, x1, x2, x3, x4, x5, x6, x7⟩ := hW; go_simp)⟩) hS ?_
          simp only [Act.put, List.setIfInBounds_toArray, List.set_cons_zero, List.set_cons_succ]
          refine wpAnyH_takeV (i := 5) (some 36) (.pointer (some ⟨w.heap.size, 2, none⟩)) rfl rfl (by kernel_rfl) (fun _ _ _ h => h) (Or.inl ⟨by rfl, (by intro W hW; obtain ⟨x0, x1, x2, x3, x4, x5, x6, x7⟩ := hW; go_simp)⟩) hS ?_
          simp only [Act.put, List.setIfInBounds_toArray, List.set_cons_zero, List.set_cons_succ]
          refine wpAnyH_takeV (i := 6) (some 37) (ptv ⟨px, py, pz⟩) rfl rfl (by kernel_rfl) (fun _ _ _ h => h) (Or.inl ⟨by rfl, (by intro W hW; obtain ⟨x0, x1, x2, x3, x4, x5, x6, x7⟩ := hW; go_simp)⟩) hS ?_
          simp only [Act.put, List.setIfInBounds_toArray, List.set_cons_zero, List.set_cons_succ]
          clear hS
          refine wpAnyH_ready (rs := [4]) (by kernel_rfl) (by simp) ?_
          refine (AllReadyH.cons (o := _) rfl (fun K' HK => ?_) AllReadyH.nil)
          refine step_callA rfl (some 35) rfl 41 #[v, vr, .int .i64 (a : Int)] (by go_simp) (fun o W => Hid (Bxs W o La) ∧ Below _ _ W) ((HGA.out _ HB1.out).mono fun e w' ⟨o, h1, h2, h3⟩ => ⟨o, h1, h2, h3⟩) ?_
          rintro o1 y2 ⟨HO2, hb9⟩
          have HB2 := Lib.hid (bstep HB1.out hb9)
          have HX2 := Lib.hid (HX1.out.below hb9)
          clear hb9 HB1 HX1
          refine HK.out _ _ HX2.out.ns1 (fun hS => ?_)
          clear HK K' hS
          simp only [Act.put, List.setIfInBounds_toArray, List.set_cons_zero, List.set_cons_succ]
          refine wpAnyH_ready (rs := [7]) (by kernel_rfl) (by simp) ?_
          refine (AllReadyH.cons (o := _) rfl (fun K' HK => ?_) AllReadyH.nil)
          refine step_callA rfl (some 38) rfl 48 #[o1, ptv ⟨px, py, pz⟩] (by go_simp) (fun o W => o = .bool false ∧ Below _ _ W) ((HOA.out _ _ HO2.out).mono fun e w' h => ⟨_, h.1, rfl, h.2⟩) ?_
          rintro _ y3 ⟨rfl, hb9⟩
          have HB3 := Lib.hid (bstep HB2.out hb9)
          have HX3 := Lib.hid (HX2.out.below hb9)
          clear hb9 HB2 HX2
          refine HK.out _ _ HX3.out.ns1 (fun hS => ?_)
          clear HK K'
          simp only [Act.put, List.setIfInBounds_toArray, List.set_cons_zero, List.set_cons_succ]
          refine wpAnyH_takeV (i := 8) (some 39) (.bool true) rfl rfl (by kernel_rfl) (fun _ _ _ h => h) (Or.inl ⟨by rfl, (fun W _ => by rfl)⟩) hS ?_
          simp only [Act.put, List.setIfInBounds_toArray, List.set_cons_zero, List.set_cons_succ]
          refine wpAnyH_takeV (i := 9) (some 40) (.bool true) rfl rfl (by kernel_rfl) (fun _ _ _ h => h) (Or.inl ⟨by rfl, (fun W _ => by rfl)⟩) hS ?_
          simp only [Act.put, List.setIfInBounds_toArray, List.set_cons_zero, List.set_cons_succ]
          refine wpAnyH_takeV (i := 10) (some 41) undef rfl rfl (by kernel_rfl) (fun _ _ _ h => h) (Or.inr ⟨by rfl, rfl⟩) hS ?_
          simp only [Act.put, List.setIfInBounds_toArray, List.set_cons_zero, List.set_cons_succ]
          refine wpAnyH_takeV (i := 11) (some 42) undef rfl rfl (by kernel_rfl) (fun _ _ _ h => h) (Or.inr ⟨by rfl, rfl⟩) hS ?_
          simp only [Act.put, List.setIfInBounds_toArray, List.set_cons_zero, List.set_cons_succ]
          refine wpAnyH_takeV (i := 12) (some 43) undef rfl rfl (by kernel_rfl) (fun _ _ _ h => h) (Or.inr ⟨by rfl, rfl⟩) hS ?_
          simp only [Act.put, List.setIfInBounds_toArray, List.set_cons_zero, List.set_cons_succ]
          refine wpAnyH_takeV (i := 13) (some 44) undef rfl rfl (by kernel_rfl) (fun _ _ _ h => h) (Or.inr ⟨by rfl, rfl⟩) hS ?_
          simp only [Act.put, List.setIfInBounds_toArray, List.set_cons_zero, List.set_cons_succ]
          refine wpAnyH_takeV (i := 14) (some 45) undef rfl rfl (by kernel_rfl) (fun _ _ _ h => h) (Or.inr ⟨by rfl, rfl⟩) hS ?_
          simp only [Act.put, List.setIfInBounds_toArray, List.set_cons_zero, List.set_cons_succ]
          refine wpAnyH_takeV (i := 15) (some 46) undef rfl rfl (by kernel_rfl) (fun _ _ _ h => h) (Or.inr ⟨by rfl, rfl⟩) hS ?_
          simp only [Act.put, List.setIfInBounds_toArray, List.set_cons_zero, List.set_cons_succ]
          refine wpAnyH_takeV (i := 16) (some 47) undef rfl rfl (by kernel_rfl) (fun _ _ _ h => h) (Or.inr ⟨by rfl, rfl⟩) hS ?_
          simp only [Act.put, List.setIfInBounds_toArray, List.set_cons_zero, List.set_cons_succ]
          refine wpAnyH_takeV (i := 17) (some 48) undef rfl rfl (by kernel_rfl) (fun _ _ _ h => h) (Or.inr ⟨by rfl, rfl⟩) hS ?_
          simp only [Act.put, List.setIfInBounds_toArray, List.set_cons_zero, List.set_cons_succ]
          refine wpAnyH_takeV (i := 18) (some 49) undef rfl rfl (by kernel_rfl) (fun _ _ _ h => h) (Or.inr ⟨by rfl, rfl⟩) hS ?_
          simp only [Act.put, List.setIfInBounds_toArray, List.set_cons_zero, List.set_cons_succ]
          refine wpAnyH_takeV (i := 19) (some 50) (.bool true) rfl rfl (by kernel_rfl) (fun _ _ _ h => h) (Or.inl ⟨by rfl, (fun W _ => by rfl)⟩) hS ?_
          simp only [Act.put, List.setIfInBounds_toArray, List.set_cons_zero, List.set_cons_succ]
          clear hS
          refine wpAnyH_done (by kernel_rfl) ?_ _
          go_wp2
          go_ret
          exact ⟨rfl, HB3.out⟩
        · cases q2
          · obtain rfl : r = false := HE.out
            have f0 := HX0.out.cell 0
            have f1 := HX0.out.cell 1
            go_enter Tryz.func30, Tryz.ntmps30
            go_wp2_with fail
            refine (HL1.out _ HB0.out).mono ?_
            rintro e w1 ⟨rfl, rfl⟩
            go_wp2_with fail
            refine (HL2.out _ HB0.out).mono ?_
            rintro e w1 ⟨rfl, rfl⟩
            go_wp2_with fail
            clear f0 f1
            have HB1 := Lib.hid (bstep HB0.out (Below.refl _ _).drew)
            have HX1 : Hid (BlkIs (w.alloc (.cells (clA ⟨(a : Int), (b : Int), ⟨px, py, pz⟩, ⟨qx, qy, qz⟩⟩) 45)).drew w.heap.size 45 (clA ⟨(a : Int), (b : Int), ⟨px, py, pz⟩, ⟨qx, qy, qz⟩⟩)) := HX0.out
            clear HX0 HB0
            refine wp_region_held_drew (S := fun W => NeS1 w.heap.size ⟨(a : Int), (b : Int), ⟨px, py, pz⟩, ⟨qx, qy, qz⟩⟩ W) (by kernel_rfl) HX1.out.ns1 (fun hS => ?_)
            refine wpAnyH_takeV (i := 0) (some 31) v rfl rfl (by kernel_rfl) (fun _ _ _ h => h) (Or.inl ⟨by rfl, (fun W _ => by rfl)⟩) hS ?_
            simp only [Act.put, List.setIfInBounds_toArray, List.set_cons_zero, List.set_cons_succ]
            refine wpAnyH_takeV (i := 1) (some 32) vr rfl rfl (by kernel_rfl) (fun _ _ _ h => h) (Or.inl ⟨by rfl, (fun W _ => by rfl)⟩) hS ?_
            simp only [Act.put, List.setIfInBounds_toArray, List.set_cons_zero, List.set_cons_succ]
            refine wpAnyH_takeV (i := 2) (some 33) (.pointer (some ⟨w.heap.size, 0, none⟩)) rfl rfl (by kernel_rfl) (fun _ _ _ h => h) (Or.inl ⟨by rfl, (by intro W hW; obtain ⟨x0, x1, x2, x3, x4, x5, x6, x7⟩ := hW; go_simp)⟩) hS ?_
            simp only [Act.put, List.setIfInBounds_toArray, List.set_cons_zero, List.set_cons_succ]
            refine wpAnyH_takeV (i := 3) (some 34) (.int .i64 (a : Int)) rfl rfl (by kernel_rfl) (fun _ _ _ h => h) (Or.inl ⟨by rfl, (by intro W hW; obtain ⟨x0, x1, x2, x3, x4, x5, x6, x7⟩ := hW; go_simp)⟩) hS ?_
            simp only [Act.put, List.setIfInBounds_toArray, List.set_cons_zero, List.set_cons_succ]
            refine wpAnyH_takeV (i := 5) (some 36) (.pointer (some ⟨w.heap.size, 2, none⟩)) rfl rfl (by kernel_rfl) (fun _ _ _ h => h) (Or.inl ⟨by rfl, (by intro W hW; obtain ⟨x0, x1, x2, x3, x4, x5, x6, x7⟩ := hW; go_simp)⟩) hS ?_
            simp only [Act.put, List.setIfInBounds_toArray, List.set_cons_zero, List.set_cons_succ]
            refine wpAnyH_takeV (i := 6) (some 37) (ptv ⟨px, py, pz⟩) rfl rfl (by kernel_rfl) (fun _ _ _ h => h) (Or.inl ⟨by rfl, (by intro W hW; obtain ⟨x0, x1, x2, x3, x4, x5, x6, x7⟩ := hW; go_simp)⟩) hS ?_
            simp only [Act.put, List.setIfInBounds_toArray, List.set_cons_zero, List.set_cons_succ]
            clear hS
            refine wpAnyH_ready (rs := [4]) (by kernel_rfl) (by simp) ?_
            refine (AllReadyH.cons (o := _) rfl (fun K' HK => ?_) AllReadyH.nil)
            refine step_callA rfl (some 35) rfl 41 #[v, vr, .int .i64 (a : Int)] (by go_simp) (fun o W => Hid (Bxs W o La) ∧ Below _ _ W) ((HGA.out _ HB1.out).mono fun e w' ⟨o, h1, h2, h3⟩ => ⟨o, h1, h2, h3⟩) ?_
            rintro o1 y2 ⟨HO2, hb9⟩
            have HB2 := Lib.hid (bstep HB1.out hb9)
            have HX2 := Lib.hid (HX1.out.below hb9)
            clear hb9 HB1 HX1
            refine HK.out _ _ HX2.out.ns1 (fun hS => ?_)
            clear HK K' hS
            simp only [Act.put, List.setIfInBounds_toArray, List.set_cons_zero, List.set_cons_succ]
            refine wpAnyH_ready (rs := [7]) (by kernel_rfl) (by simp) ?_
            refine (AllReadyH.cons (o := _) rfl (fun K' HK => ?_) AllReadyH.nil)
            refine step_callA rfl (some 38) rfl 48 #[o1, ptv ⟨px, py, pz⟩] (by go_simp) (fun o W => o = .bool true ∧ Below _ _ W) ((HOA.out _ _ HO2.out).mono fun e w' h => ⟨_, h.1, rfl, h.2⟩) ?_
            rintro _ y3 ⟨rfl, hb9⟩
            have HB3 := Lib.hid (bstep HB2.out hb9)
            have HX3 := Lib.hid (HX2.out.below hb9)
            clear hb9 HB2 HX2
            refine HK.out _ _ HX3.out.ns1 (fun hS => ?_)
            clear HK K'
            simp only [Act.put, List.setIfInBounds_toArray, List.set_cons_zero, List.set_cons_succ]
            refine wpAnyH_takeV (i := 8) (some 39) (.bool false) rfl rfl (by kernel_rfl) (fun _ _ _ h => h) (Or.inl ⟨by rfl, (fun W _ => by rfl)⟩) hS ?_
            simp only [Act.put, List.setIfInBounds_toArray, List.set_cons_zero, List.set_cons_succ]
            refine wpAnyH_takeV (i := 9) (some 40) (.bool false) rfl rfl (by kernel_rfl) (fun _ _ _ h => h) (Or.inl ⟨by rfl, (fun W _ => by rfl)⟩) hS ?_
            simp only [Act.put, List.setIfInBounds_toArray, List.set_cons_zero, List.set_cons_succ]
            refine wpAnyH_takeV (i := 10) (some 41) v rfl rfl (by kernel_rfl) (fun _ _ _ h => h) (Or.inl ⟨by rfl, (fun W _ => by rfl)⟩) hS ?_
            simp only [Act.put, List.setIfInBounds_toArray, List.set_cons_zero, List.set_cons_succ]
            refine wpAnyH_takeV (i := 11) (some 42) vr rfl rfl (by kernel_rfl) (fun _ _ _ h => h) (Or.inl ⟨by rfl, (fun W _ => by rfl)⟩) hS ?_
            simp only [Act.put, List.setIfInBounds_toArray, List.set_cons_zero, List.set_cons_succ]
            refine wpAnyH_takeV (i := 12) (some 43) (.pointer (some ⟨w.heap.size, 1, none⟩)) rfl rfl (by kernel_rfl) (fun _ _ _ h => h) (Or.inl ⟨by rfl, (by intro W hW; obtain ⟨x0, x1, x2, x3, x4, x5, x6, x7⟩ := hW; go_simp)⟩) hS ?_
            simp only [Act.put, List.setIfInBounds_toArray, List.set_cons_zero, List.set_cons_succ]
            refine wpAnyH_takeV (i := 13) (some 44) (.int .i64 (b : Int)) rfl rfl (by kernel_rfl) (fun _ _ _ h => h) (Or.inl ⟨by rfl, (by intro W hW; obtain ⟨x0, x1, x2, x3, x4, x5, x6, x7⟩ := hW; go_simp)⟩) hS ?_
            simp only [Act.put, List.setIfInBounds_toArray, List.set_cons_zero, List.set_cons_succ]
            refine wpAnyH_takeV (i := 15) (some 46) (.pointer (some ⟨w.heap.size, 5, none⟩)) rfl rfl (by kernel_rfl) (fun _ _ _ h => h) (Or.inl ⟨by rfl, (by intro W hW; obtain ⟨x0, x1, x2, x3, x4, x5, x6, x7⟩ := hW; go_simp)⟩) hS ?_
            simp only [Act.put, List.setIfInBounds_toArray, List.set_cons_zero, List.set_cons_succ]
            refine wpAnyH_takeV (i := 16) (some 47) (ptv ⟨qx, qy, qz⟩) rfl rfl (by kernel_rfl) (fun _ _ _ h => h) (Or.inl ⟨by rfl, (by intro W hW; obtain ⟨x0, x1, x2, x3, x4, x5, x6, x7⟩ := hW; go_simp)⟩) hS ?_
            simp only [Act.put, List.setIfInBounds_toArray, List.set_cons_zero, List.set_cons_succ]
            clear hS
            refine wpAnyH_ready (rs := [14]) (by kernel_rfl) (by simp) ?_
            refine (AllReadyH.cons (o := _) rfl (fun K' HK => ?_) AllReadyH.nil)
            refine step_callG (by rfl) (some 45) rfl 41 #[v, vr, .int .i64 (b : Int)] (by go_simp) (fun o W => Hid (Bxs W o Lb) ∧ Below _ _ W) ((HGB.out _ HB3.out).mono fun e w' ⟨o, h1, h2, h3⟩ => ⟨o, h1, h2, h3⟩) ?_
            rintro o2 y4 ⟨HO4, hb9⟩
            have HB4 := Lib.hid (bstep HB3.out hb9)
            have HX4 := Lib.hid (HX3.out.below hb9)
            clear hb9 HB3 HX3
            refine HK.out _ _ HX4.out.ns1 (fun hS => ?_)
            clear HK K' hS
            simp only [Act.put, List.setIfInBounds_toArray, List.set_cons_zero, List.set_cons_succ]
            refine wpAnyH_ready (rs := [17]) (by kernel_rfl) (by simp) ?_
            refine (AllReadyH.cons (o := _) rfl (fun K' HK => ?_) AllReadyH.nil)
            refine step_callG (by rfl) (some 48) rfl 48 #[o2, ptv ⟨qx, qy, qz⟩] (by go_simp) (fun o W => o = .bool false ∧ Below _ _ W) ((HOB.out _ _ HO4.out).mono fun e w' h => ⟨_, h.1, rfl, h.2⟩) ?_
            rintro _ y5 ⟨rfl, hb9⟩
            have HB5 := Lib.hid (bstep HB4.out hb9)
            have HX5 := Lib.hid (HX4.out.below hb9)
            clear hb9 HB4 HX4
            refine HK.out _ _ HX5.out.ns1 (fun hS => ?_)
            clear HK K'
            simp only [Act.put, List.setIfInBounds_toArray, List.set_cons_zero, List.set_cons_succ]
            refine wpAnyH_takeV (i := 18) (some 49) (.bool true) rfl rfl (by kernel_rfl) (fun _ _ _ h => h) (Or.inl ⟨by rfl, (fun W _ => by rfl)⟩) hS ?_
            simp only [Act.put, List.setIfInBounds_toArray, List.set_cons_zero, List.set_cons_succ]
            refine wpAnyH_takeV (i := 19) (some 50) (.bool true) rfl rfl (by kernel_rfl) (fun _ _ _ h => h) (Or.inl ⟨by rfl, (fun W _ => by rfl)⟩) hS ?_
            simp only [Act.put, List.setIfInBounds_toArray, List.set_cons_zero, List.set_cons_succ]
            clear hS
            refine wpAnyH_done (by kernel_rfl) ?_ _
            go_wp2
            go_ret
            exact ⟨rfl, HB5.out⟩
          · have hE : r = decide (4 * dist2 ⟨px, py, pz⟩ ⟨qx, qy, qz⟩ < nd) := HE.out
            rw [dist_eq] at hE
            have HE2 := Lib.hid hE
            obtain ⟨u1, u2, u3, u4, u5, u6⟩ := HNA.out rfl
            obtain ⟨v1, v2, v3, v4, v5, v6⟩ := HNB.out rfl
            simp only at u1 u2 u3 u4 u5 u6 v1 v2 v3 v4 v5 v6
            obtain ⟨x1, x2⟩ := sq_in (d := px - qx) (by omega) (by omega)
            obtain ⟨y1, y2⟩ := sq_in (d := py - qy) (by omega) (by omega)
            obtain ⟨t1, t2⟩ := sq_in (d := pz - qz) (by omega) (by omega)
            have k1 : IntKind.i64.wrap (px - qx) = px - qx := IntWalk.i64_in _ (by omega)
            have k2 : IntKind.i64.wrap (py - qy) = py - qy := IntWalk.i64_in _ (by omega)
            have k3 : IntKind.i64.wrap (pz - qz) = pz - qz := IntWalk.i64_in _ (by omega)
            have m1 : IntKind.i64.wrap ((px - qx) * (px - qx)) = (px - qx) * (px - qx) := IntWalk.i64_in _ (by omega)
            have m2 : IntKind.i64.wrap ((py - qy) * (py - qy)) = (py - qy) * (py - qy) := IntWalk.i64_in _ (by omega)
            have m3 : IntKind.i64.wrap ((pz - qz) * (pz - qz)) = (pz - qz) * (pz - qz) := IntWalk.i64_in _ (by omega)
            have m4 : IntKind.i64.wrap ((px - qx) * (px - qx) + (py - qy) * (py - qy)) = (px - qx) * (px - qx) + (py - qy) * (py - qy) := IntWalk.i64_in _ (by omega)
            have m5 : IntKind.i64.wrap ((px - qx) * (px - qx) + (py - qy) * (py - qy) + (pz - qz) * (pz - qz)) = (px - qx) * (px - qx) + (py - qy) * (py - qy) + (pz - qz) * (pz - qz) := IntWalk.i64_in _ (by omega)
            have m6 : IntKind.i64.wrap (4 * ((px - qx) * (px - qx) + (py - qy) * (py - qy) + (pz - qz) * (pz - qz))) = 4 * ((px - qx) * (px - qx) + (py - qy) * (py - qy) + (pz - qz) * (pz - qz)) := IntWalk.i64_in _ (by omega)
            clear hE u1 u2 u3 u4 u5 u6 v1 v2 v3 v4 v5 v6 x1 x2 y1 y2 t1 t2 HE
            have f0 := HX0.out.cell 0
            have f1 := HX0.out.cell 1
            go_enter Tryz.func30, Tryz.ntmps30
            go_wp2_with fail
            refine (HL1.out _ HB0.out).mono ?_
            rintro e w1 ⟨rfl, rfl⟩
            go_wp2_with fail
            refine (HL2.out _ HB0.out).mono ?_
            rintro e w1 ⟨rfl, rfl⟩
            go_wp2_with fail
            clear f0 f1
            have HB1 := Lib.hid (bstep HB0.out (Below.refl _ _).drew)
            have HX1 : Hid (BlkIs (w.alloc (.cells (clA ⟨(a : Int), (b : Int), ⟨px, py, pz⟩, ⟨qx, qy, qz⟩⟩) 45)).drew w.heap.size 45 (clA ⟨(a : Int), (b : Int), ⟨px, py, pz⟩, ⟨qx, qy, qz⟩⟩)) := HX0.out
            clear HX0 HB0
            refine wp_region_held_drew (S := fun W => NeS1 w.heap.size ⟨(a : Int), (b : Int), ⟨px, py, pz⟩, ⟨qx, qy, qz⟩⟩ W) (by kernel_rfl) HX1.out.ns1 (fun hS => ?_)
            refine wpAnyH_takeV (i := 0) (some 31) v rfl rfl (by kernel_rfl) (fun _ _ _ h => h) (Or.inl ⟨by rfl, (fun W _ => by rfl)⟩) hS ?_
            simp only [Act.put, List.setIfInBounds_toArray, List.set_cons_zero, List.set_cons_succ]
            refine wpAnyH_takeV (i := 1) (some 32) vr rfl rfl (by kernel_rfl) (fun _ _ _ h => h) (Or.inl ⟨by rfl, (fun W _ => by rfl)⟩) hS ?_
            simp only [Act.put, List.setIfInBounds_toArray, List.set_cons_zero, List.set_cons_succ]
            refine wpAnyH_takeV (i := 2) (some 33) (.pointer (some ⟨w.heap.size, 0, none⟩)) rfl rfl (by kernel_rfl) (fun _ _ _ h => h) (Or.inl ⟨by rfl, (by intro W hW; obtain ⟨x0, x1, x2, x3, x4, x5, x6, x7⟩ := hW; go_simp)⟩) hS ?_
            simp only [Act.put, List.setIfInBounds_toArray, List.set_cons_zero, List.set_cons_succ]
            refine wpAnyH_takeV (i := 3) (some 34) (.int .i64 (a : Int)) rfl rfl (by kernel_rfl) (fun _ _ _ h => h) (Or.inl ⟨by rfl, (by intro W hW; obtain ⟨x0, x1, x2, x3, x4, x5, x6, x7⟩ := hW; go_simp)⟩) hS ?_
            simp only [Act.put, List.setIfInBounds_toArray, List.set_cons_zero, List.set_cons_succ]
            refine wpAnyH_takeV (i := 5) (some 36) (.pointer (some ⟨w.heap.size, 2, none⟩)) rfl rfl (by kernel_rfl) (fun _ _ _ h => h) (Or.inl ⟨by rfl, (by intro W hW; obtain ⟨x0, x1, x2, x3, x4, x5, x6, x7⟩ := hW; go_simp)⟩) hS ?_
            simp only [Act.put, List.setIfInBounds_toArray, List.set_cons_zero, List.set_cons_succ]
            refine wpAnyH_takeV (i := 6) (some 37) (ptv ⟨px, py, pz⟩) rfl rfl (by kernel_rfl) (fun _ _ _ h => h) (Or.inl ⟨by rfl, (by intro W hW; obtain ⟨x0, x1, x2, x3, x4, x5, x6, x7⟩ := hW; go_simp)⟩) hS ?_
            simp only [Act.put, List.setIfInBounds_toArray, List.set_cons_zero, List.set_cons_succ]
            clear hS
            refine wpAnyH_ready (rs := [4]) (by kernel_rfl) (by simp) ?_
            refine (AllReadyH.cons (o := _) rfl (fun K' HK => ?_) AllReadyH.nil)
            refine step_callA rfl (some 35) rfl 41 #[v, vr, .int .i64 (a : Int)] (by go_simp) (fun o W => Hid (Bxs W o La) ∧ Below _ _ W) ((HGA.out _ HB1.out).mono fun e w' ⟨o, h1, h2, h3⟩ => ⟨o, h1, h2, h3⟩) ?_
            rintro o1 y2 ⟨HO2, hb9⟩
            have HB2 := Lib.hid (bstep HB1.out hb9)
            have HX2 := Lib.hid (HX1.out.below hb9)
            clear hb9 HB1 HX1
            refine HK.out _ _ HX2.out.ns1 (fun hS => ?_)
            clear HK K' hS
            simp only [Act.put, List.setIfInBounds_toArray, List.set_cons_zero, List.set_cons_succ]
            refine wpAnyH_ready (rs := [7]) (by kernel_rfl) (by simp) ?_
            refine (AllReadyH.cons (o := _) rfl (fun K' HK => ?_) AllReadyH.nil)
            refine step_callA rfl (some 38) rfl 48 #[o1, ptv ⟨px, py, pz⟩] (by go_simp) (fun o W => o = .bool true ∧ Below _ _ W) ((HOA.out _ _ HO2.out).mono fun e w' h => ⟨_, h.1, rfl, h.2⟩) ?_
            rintro _ y3 ⟨rfl, hb9⟩
            have HB3 := Lib.hid (bstep HB2.out hb9)
            have HX3 := Lib.hid (HX2.out.below hb9)
            clear hb9 HB2 HX2
            refine HK.out _ _ HX3.out.ns1 (fun hS => ?_)
            clear HK K'
            simp only [Act.put, List.setIfInBounds_toArray, List.set_cons_zero, List.set_cons_succ]
            refine wpAnyH_takeV (i := 8) (some 39) (.bool false) rfl rfl (by kernel_rfl) (fun _ _ _ h => h) (Or.inl ⟨by rfl, (fun W _ => by rfl)⟩) hS ?_
            simp only [Act.put, List.setIfInBounds_toArray, List.set_cons_zero, List.set_cons_succ]
            refine wpAnyH_takeV (i := 9) (some 40) (.bool false) rfl rfl (by kernel_rfl) (fun _ _ _ h => h) (Or.inl ⟨by rfl, (fun W _ => by rfl)⟩) hS ?_
            simp only [Act.put, List.setIfInBounds_toArray, List.set_cons_zero, List.set_cons_succ]
            refine wpAnyH_takeV (i := 10) (some 41) v rfl rfl (by kernel_rfl) (fun _ _ _ h => h) (Or.inl ⟨by rfl, (fun W _ => by rfl)⟩) hS ?_
            simp only [Act.put, List.setIfInBounds_toArray, List.set_cons_zero, List.set_cons_succ]
            refine wpAnyH_takeV (i := 11) (some 42) vr rfl rfl (by kernel_rfl) (fun _ _ _ h => h) (Or.inl ⟨by rfl, (fun W _ => by rfl)⟩) hS ?_
            simp only [Act.put, List.setIfInBounds_toArray, List.set_cons_zero, List.set_cons_succ]
            refine wpAnyH_takeV (i := 12) (some 43) (.pointer (some ⟨w.heap.size, 1, none⟩)) rfl rfl (by kernel_rfl) (fun _ _ _ h => h) (Or.inl ⟨by rfl, (by intro W hW; obtain ⟨x0, x1, x2, x3, x4, x5, x6, x7⟩ := hW; go_simp)⟩) hS ?_
            simp only [Act.put, List.setIfInBounds_toArray, List.set_cons_zero, List.set_cons_succ]
            refine wpAnyH_takeV (i := 13) (some 44) (.int .i64 (b : Int)) rfl rfl (by kernel_rfl) (fun _ _ _ h => h) (Or.inl ⟨by rfl, (by intro W hW; obtain ⟨x0, x1, x2, x3, x4, x5, x6, x7⟩ := hW; go_simp)⟩) hS ?_
            simp only [Act.put, List.setIfInBounds_toArray, List.set_cons_zero, List.set_cons_succ]
            refine wpAnyH_takeV (i := 15) (some 46) (.pointer (some ⟨w.heap.size, 5, none⟩)) rfl rfl (by kernel_rfl) (fun _ _ _ h => h) (Or.inl ⟨by rfl, (by intro W hW; obtain ⟨x0, x1, x2, x3, x4, x5, x6, x7⟩ := hW; go_simp)⟩) hS ?_
            simp only [Act.put, List.setIfInBounds_toArray, List.set_cons_zero, List.set_cons_succ]
            refine wpAnyH_takeV (i := 16) (some 47) (ptv ⟨qx, qy, qz⟩) rfl rfl (by kernel_rfl) (fun _ _ _ h => h) (Or.inl ⟨by rfl, (by intro W hW; obtain ⟨x0, x1, x2, x3, x4, x5, x6, x7⟩ := hW; go_simp)⟩) hS ?_
            simp only [Act.put, List.setIfInBounds_toArray, List.set_cons_zero, List.set_cons_succ]
            clear hS
            refine wpAnyH_ready (rs := [14]) (by kernel_rfl) (by simp) ?_
            refine (AllReadyH.cons (o := _) rfl (fun K' HK => ?_) AllReadyH.nil)
            refine step_callG (by rfl) (some 45) rfl 41 #[v, vr, .int .i64 (b : Int)] (by go_simp) (fun o W => Hid (Bxs W o Lb) ∧ Below _ _ W) ((HGB.out _ HB3.out).mono fun e w' ⟨o, h1, h2, h3⟩ => ⟨o, h1, h2, h3⟩) ?_
            rintro o2 y4 ⟨HO4, hb9⟩
            have HB4 := Lib.hid (bstep HB3.out hb9)
            have HX4 := Lib.hid (HX3.out.below hb9)
            clear hb9 HB3 HX3
            refine HK.out _ _ HX4.out.ns1 (fun hS => ?_)
            clear HK K' hS
            simp only [Act.put, List.setIfInBounds_toArray, List.set_cons_zero, List.set_cons_succ]
            refine wpAnyH_ready (rs := [17]) (by kernel_rfl) (by simp) ?_
            refine (AllReadyH.cons (o := _) rfl (fun K' HK => ?_) AllReadyH.nil)
            refine step_callG (by rfl) (some 48) rfl 48 #[o2, ptv ⟨qx, qy, qz⟩] (by go_simp) (fun o W => o = .bool true ∧ Below _ _ W) ((HOB.out _ _ HO4.out).mono fun e w' h => ⟨_, h.1, rfl, h.2⟩) ?_
            rintro _ y5 ⟨rfl, hb9⟩
            have HB5 := Lib.hid (bstep HB4.out hb9)
            have HX5 := Lib.hid (HX4.out.below hb9)
            clear hb9 HB4 HX4
            refine HK.out _ _ HX5.out.ns1 (fun hS => ?_)
            clear HK K'
            simp only [Act.put, List.setIfInBounds_toArray, List.set_cons_zero, List.set_cons_succ]
            refine wpAnyH_takeV (i := 18) (some 49) (.bool false) rfl rfl (by kernel_rfl) (fun _ _ _ h => h) (Or.inl ⟨by rfl, (fun W _ => by rfl)⟩) hS ?_
            simp only [Act.put, List.setIfInBounds_toArray, List.set_cons_zero, List.set_cons_succ]
            refine wpAnyH_takeV (i := 19) (some 50) (.bool false) rfl rfl (by kernel_rfl) (fun _ _ _ h => h) (Or.inl ⟨by rfl, (fun W _ => by rfl)⟩) hS ?_
            simp only [Act.put, List.setIfInBounds_toArray, List.set_cons_zero, List.set_cons_succ]
            clear hS
            refine wpAnyH_done (by kernel_rfl) ?_ _
            have e0 := HX5.out.cell 0
            have e1 := HX5.out.cell 1
            have e2 := HX5.out.cell 2
            have e3 := HX5.out.cell 3
            have e4 := HX5.out.cell 4
            have e5 := HX5.out.cell 5
            have e6 := HX5.out.cell 6
            have e7 := HX5.out.cell 7
            go_wp2_with fail
            clear e0 e1 e2 e3 e4 e5 e6 e7
            have e0 := fun d os => cell_regrown (HX5.out.cell 0) d os
            have e1 := fun d os => cell_regrown (HX5.out.cell 1) d os
            refine wp_region_quiet_below (by kernel_rfl) (by kernel_rfl) ?_
            repeat (go_big_quiet_step ((first
              | (go_at_call 45; with_reducible exact Calls.regrown_of (HSA.out _ (bstep HB5.out (below_regrown _ _ _))))
              | (go_at_call 45; with_reducible exact Calls.regrown_of (HSB.out _ (bstep HB5.out (below_regrown _ _ _))))
              | (go_at_call 12; exact Calls.regrown_of (HND.out _)))))
            refine wpQuiet_nil ?_
            intro _ hw'
            obtain ⟨⟨nq, osq⟩, hw''⟩ := hw'
            subst hw''
            have HB6 := Lib.hid (bstep HB5.out (below_regrown y5 nq osq))
            clear e0 e1
            generalize Go.Sort.grow (redrawn y5 nq) osq = w6 at *
            go_wp2
            go_ret
            exact ⟨by rw [HE2.out]; rfl, HB6.out⟩
    · have e2 : ld xb = false := (HLB.out xb).trans (dec_no h2)
      have HL1 := Lib.hid (fun W hW => HLD.out xa W hW)
      have HL2 := Lib.hid (fun W hW => HLD.out xb W hW)
      rw [e1] at HL1
      rw [e2] at HL2
      obtain rfl : r = false := HR.out.symm.trans (ckC_far (L := L) (Z := Z) (c := c) (x := ⟨xa, xb, ⟨px, py, pz⟩, ⟨qx, qy, qz⟩⟩) (by show ¬ (0 ≤ xa ∧ xa < xb ∧ xb < (L.length : Int)); omega))
      have f0 := HX0.out.cell 0
      have f1 := HX0.out.cell 1
      go_enter Tryz.func30, Tryz.ntmps30
      go_wp2_with fail
      refine (HL1.out _ HB0.out).mono ?_
      rintro e w1 ⟨rfl, rfl⟩
      go_wp2_with fail
      refine (HL2.out _ HB0.out).mono ?_
      rintro e w1 ⟨rfl, rfl⟩
      go_wp2
      go_ret
      exact ⟨rfl, HB0.out⟩
  · have e1 : ld xa = false := (HLB.out xa).trans (dec_no h1)
    have HL1 := Lib.hid (fun W hW => HLD.out xa W hW)
    rw [e1] at HL1
    obtain rfl : r = false := HR.out.symm.trans (ckC_far (L := L) (Z := Z) (c := c) (x := ⟨xa, xb, ⟨px, py, pz⟩, ⟨qx, qy, qz⟩⟩) (by show ¬ (0 ≤ xa ∧ xa < xb ∧ xb < (L.length : Int)); omega))
    have f0 := HX0.out.cell 0
    have f1 := HX0.out.cell 1
    go_enter Tryz.func30, Tryz.ntmps30
    go_wp2_with fail
    refine (HL1.out _ HB0.out).mono ?_
    rintro e w1 ⟨rfl, rfl⟩
    go_wp2
    go_ret
    exact ⟨rfl, HB0.out⟩
end
end Go.Proofs.YtpiigmhbbcjamaaGreat
