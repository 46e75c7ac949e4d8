/-
  The walk of ClashChecks.
-/
import Derived.Test.YtpiigmhbbcjamaaGreatRcg
import Derived.Test.YtpiigmhbbcjamaaGreatRcf
namespace Go.Proofs.YtpiigmhbbcjamaaGreat
section
open Go.RowKit
set_option linter.unusedVariables false
set_option linter.unusedSimpArgs false
attribute [local go_sem ↓] Go.wp_at_zero Go.wp_at_succ

theorem cnearest_bad (v vr : Value) (l : List BarD) (rs : List RunD) (w : World) (hp : Bars w v l) (hr : Runs w vr rs) (hl : l.length ≤ 140737488355328) (hlr : rs.length ≤ 140737488355328) (hf : FitB l) (h : laidOk l rs = false) :
    Calls Tryz.prog 27 #[v, vr] w fun e w' => e = .returned (.tuple #[clv ⟨0, 0, ⟨0, 0, 0⟩, ⟨0, 0, 0⟩⟩, .int .i64 0, .int .i64 1]) ∧ Below w.heap.size w w' := by
  have HB0 := Lib.hid (below_new w (.cells z8 45))
  have HX0 := Lib.hid (BlkIs.new w z8 45)
  have HB := Lib.hid (fun W (hW : Below w.heap.size w W) => of_bad v vr l rs W (hp.below hW) (hr.below hW) hl hlr hf h)
  clear hp hr h hf
  go_enter Tryz.func27, Tryz.ntmps27
  go_wp2_with fail
  refine (HB.out _ HB0.out).mono ?_
  rintro e w1 ⟨rfl, hb1⟩
  have HX1 := Lib.hid (HX0.out.below hb1)
  have HB1 := Lib.hid (bstep HB0.out hb1)
  clear hb1 HB HB0 HX0
  have e0 := HX1.out.cell 0
  have e1 := HX1.out.cell 1
  have e2 := HX1.out.cell 2
  have e3 := HX1.out.cell 3
  have e4 := HX1.out.cell 4
  have e5 := HX1.out.cell 5
  have e6 := HX1.out.cell 6
  have e7 := HX1.out.cell 7
  have ef := HX1.out.free
  have ez := HX1.out.lt
  go_wp2
  exact bodyPost_ret (v := .tuple #[clv ⟨0, 0, ⟨0, 0, 0⟩, ⟨0, 0, 0⟩⟩, .int .i64 0, .int .i64 1]) (by simp [results, Tryz.results27, go_sem, e0, e1, e2, e3, e4, e5, e6, e7]) rfl ⟨rfl, wbelow_set8 HB1.out (Nat.le_refl _) ⟨0, 0, ⟨0, 0, 0⟩, ⟨0, 0, 0⟩⟩⟩
set_option maxRecDepth 100000 in
set_option maxHeartbeats 8000000 in
theorem clashChecks_walk (w : World) (v : Value) (l : List BarD) (hp : Bars w v l) (hf : FitB l) (hl : l.length * 64 ≤ 140737488351232) (vr : Value) (rs : List RunD) (hr : Runs w vr rs) (hm : ∀ r ∈ rs, r.mark.size ≤ maxLen) (hlr : rs.length * 88 ≤ 140737488351232)
    (c : Int) (wc : (Lit.int .i64 c).wf = true) (x : ClD) (hx : (Lit.int .i64 x.a).wf = true) (hy : (Lit.int .i64 x.b).wf = true) :
    Calls Tryz.prog 6 #[v, vr, .int .i64 c, clv x] w fun en w' => en = .returned (.bool true) ∧ Below w.heap.size w w' := by
  have hl2 : l.length ≤ 140737488355328 := by omega
  have hlr2 : rs.length ≤ 140737488355328 := by omega
  have HP := Lib.hid hp
  have HR := Lib.hid hr
  have HFI := Lib.hid hf
  have HSM := Lib.hid (fun W (hW : Below w.heap.size w W) => rsmall19_any v vr l rs W (hp.below hW) (hr.below hW) hl2 hlr2)
  have HV := Lib.hid (fun W (hW : Below w.heap.size w W) => rlaid_any v vr l rs W (hp.below hW) (hr.below hW) hl2 hlr2 hf)
  have HCL := Lib.hid (fun W => rclear19_any c W)
  have HB0 := Lib.hid (below_new w (.cells (clA x) 45))
  have HX0 := Lib.hid (BlkIs.new w (clA x) 45)
  have hEz : ∀ W, (Op.equalIn 10000 45 (clv ⟨0, 0, ⟨0, 0, 0⟩, ⟨0, 0, 0⟩⟩) (clv ⟨0, 0, ⟨0, 0, 0⟩, ⟨0, 0, 0⟩⟩)).run Tryz.prog W = .ok true W := fun W => run_eq_cl ⟨0, 0, ⟨0, 0, 0⟩, ⟨0, 0, 0⟩⟩ ⟨0, 0, ⟨0, 0, 0⟩, ⟨0, 0, 0⟩⟩ W
  clear hp hr hf hl hm hlr wc hx hy
  obtain ⟨ok, hok⟩ : ∃ q, laidOk l rs = q := ⟨_, rfl⟩
  obtain ⟨cl, hcl⟩ : ∃ q, clrB c = q := ⟨_, rfl⟩
  rw [hok] at HV
  rw [hcl] at HCL
  cases ok
  · have HCK := Lib.hid (fun W (hW : Below w.heap.size w W) => ccheck_bad v vr c x l rs W (HP.out.below hW) (HR.out.below hW) hl2 hlr2 HFI.out 1 (Or.inl ⟨hok, rfl⟩))
    have HNR := Lib.hid (fun W (hW : Below w.heap.size w W) => cnearest_bad v vr l rs W (HP.out.below hW) (HR.out.below hW) hl2 hlr2 HFI.out hok)
    clear hok hcl HCL
    go_enter Tryz.func6, Tryz.ntmps6
    go_wp2_with fail
    refine (cawake_any _).mono ?_
    rintro en w1 ⟨rfl, hb1⟩
    have HW1 := Lib.hid (bstep HB0.out hb1)
    have HX1 := Lib.hid (HX0.out.below hb1)
    clear hb1 HB0 HX0
    go_wp2_with fail
    refine (HSM.out _ HW1.out).mono ?_
    rintro en w2 ⟨q, rfl, hb2, hq⟩
    have HW2 := Lib.hid (bstep HW1.out hb2)
    have HX2 := Lib.hid (HX1.out.below hb2)
    clear hb2 hq HW1 HSM HX1
    cases q
    · go_wp2
      go_ret
      exact ⟨rfl, HW2.out⟩
    · skip
      have e0 := HX2.out.cell 0
      have e1 := HX2.out.cell 1
      have e2 := HX2.out.cell 2
      have e3 := HX2.out.cell 3
      have e4 := HX2.out.cell 4
      have e5 := HX2.out.cell 5
      have e6 := HX2.out.cell 6
      have e7 := HX2.out.cell 7
      go_wp2_with fail
      refine (HCK.out _ HW2.out).mono ?_
      rintro en w3 ⟨rfl, hb3⟩
      have HW3 := Lib.hid (bstep HW2.out hb3)
      have HX3 := Lib.hid (HX2.out.below hb3)
      clear hb3 HW2 HCK HX2 e0 e1 e2 e3 e4 e5 e6 e7
      go_wp2_with fail
      refine (HNR.out _ HW3.out).mono ?_
      rintro en w4 ⟨rfl, hb4⟩
      have HY4 := Lib.hid (BlkIs.new w4 (clA ⟨0, 0, ⟨0, 0, 0⟩, ⟨0, 0, 0⟩⟩) 45)
      have HW4 := Lib.hid (bstep (bstep HW3.out hb4) (below_new w4 (.cells (clA ⟨0, 0, ⟨0, 0, 0⟩, ⟨0, 0, 0⟩⟩) 45)))
      have HX4 := Lib.hid ((HX3.out.below hb4).alloc (.cells (clA ⟨0, 0, ⟨0, 0, 0⟩, ⟨0, 0, 0⟩⟩) 45))
      clear hb4 HW3 HNR HX3
      go_wp2_with fail
      refine (HV.out _ HW4.out).mono ?_
      rintro en w5 ⟨rfl, hb5⟩
      have HW5 := Lib.hid (bstep HW4.out hb5)
      have HX5 := Lib.hid (HX4.out.below hb5)
      have HY5 := Lib.hid (HY4.out.below hb5)
      clear hb5 HW4 HV HX4 HY4
      have e0 := HY5.out.cell 0
      have e1 := HY5.out.cell 1
      have e2 := HY5.out.cell 2
      have e3 := HY5.out.cell 3
      have e4 := HY5.out.cell 4
      have e5 := HY5.out.cell 5
      have e6 := HY5.out.cell 6
      have e7 := HY5.out.cell 7
      go_wp2
      go_ret
      exact ⟨rfl, HW5.out⟩
  · obtain ⟨s1, s2, s3, s4, s5⟩ := laid_sum hok
    have hn : sumC rs = ((lgsOf l rs).length : Int) := by rw [lgsOf_len]; exact s1.symm
    have HCN := Lib.hid (fun W (hW : Below w.heap.size w W) => rcount_any vr rs W (HR.out.below hW) (by omega) s4)
    rw [hn] at HCN
    obtain ⟨R, N, E, EC, HCK, HNR, HRC, HRN⟩ : ∃ (R : Bool) (N : NeS) (E EC : Int), Hid (∀ W, Below w.heap.size w W → Calls Tryz.prog 25 #[v, vr, .int .i64 c, clv x] W fun e w' => e = .returned (.tuple #[.bool R, .int .i64 EC]) ∧ Below W.heap.size W w') ∧
        Hid (∀ W, Below w.heap.size w W → Calls Tryz.prog 27 #[v, vr] W fun e w' => e = .returned (.tuple #[clv N.x, .int .i64 N.n, .int .i64 E]) ∧ Below W.heap.size W w') ∧
        Hid ((cl = false ∧ EC = 2 ∧ R = false) ∨ (cl = true ∧ EC = 0 ∧ ∀ W, Below w.heap.size w W → Calls Tryz.prog 30 #[v, vr, .int .i64 c, clv x] W fun e w' => e = .returned (.bool R) ∧ Below W.heap.size W w')) ∧
        Hid (((lgsOf l rs).length < 2 ∧ E = 12 ∧ N = ⟨⟨0, 0, ⟨0, 0, 0⟩, ⟨0, 0, 0⟩⟩, 0⟩) ∨ (2 ≤ (lgsOf l rs).length ∧ E = 0 ∧ ∀ W, Below w.heap.size w W → Calls Tryz.prog 29 #[v, vr] W fun e w' => e = .returned (.tuple #[clv N.x, .int .i64 N.n]) ∧ Below W.heap.size W w')) := by
      have HN1 : Hid (∀ W, Below w.heap.size w W → Calls Tryz.prog 27 #[v, vr] W fun e w' => e = .returned (.tuple #[clv (ncX (lgsOf l rs)).x, .int .i64 (ncX (lgsOf l rs)).n, .int .i64 (ncE (lgsOf l rs))]) ∧ Below W.heap.size W w') := fun W hW => cnearest_good v vr l rs W (HP.out.below hW) (HR.out.below hW) hl2 hlr2 HFI.out hok
      have HN2 : Hid (((lgsOf l rs).length < 2 ∧ ncE (lgsOf l rs) = 12 ∧ ncX (lgsOf l rs) = ⟨⟨0, 0, ⟨0, 0, 0⟩, ⟨0, 0, 0⟩⟩, 0⟩) ∨ (2 ≤ (lgsOf l rs).length ∧ ncE (lgsOf l rs) = 0 ∧ ∀ W, Below w.heap.size w W → Calls Tryz.prog 29 #[v, vr] W fun e w' => e = .returned (.tuple #[clv (ncX (lgsOf l rs)).x, .int .i64 (ncX (lgsOf l rs)).n]) ∧ Below W.heap.size W w')) := by
        by_cases h2 : (lgsOf l rs).length < 2
        · exact Or.inl ⟨h2, (nc_few h2).1, (nc_few h2).2⟩
        · refine Or.inr ⟨by omega, (nc_many h2).1, fun W hW => ?_⟩
          rw [(nc_many h2).2]
          exact rnearest19_any v vr l rs W (HP.out.below hW) (HR.out.below hW) hl2 hok (by omega)
      cases cl
      · exact ⟨false, _, _, 2, fun W hW => ccheck_bad v vr c x l rs W (HP.out.below hW) (HR.out.below hW) hl2 hlr2 HFI.out 2 (Or.inr ⟨hok, hcl, rfl⟩), HN1, Or.inl ⟨rfl, rfl, rfl⟩, HN2⟩
      · exact ⟨_, _, _, 0, fun W hW => ccheck_good v vr c x l rs W (HP.out.below hW) (HR.out.below hW) hl2 hlr2 HFI.out hok hcl, HN1, Or.inr ⟨rfl, rfl, fun W hW => rcheck19_any v vr c x l rs W (HP.out.below hW) (HR.out.below hW) hl2 hok hcl⟩, HN2⟩
    generalize lgsOf l rs = L at *
    clear hok hcl hn s1 s2 s3 s4 s5
    obtain ⟨nx, nn⟩ := N
    simp only at HNR HRN
    have hEq : ∀ W, (Op.equalIn 10000 45 (clv nx) (clv nx)).run Tryz.prog W = .ok true W := fun W => (run_eq_cl nx nx W).trans (by rw [dec_yes rfl])
    go_enter Tryz.func6, Tryz.ntmps6
    go_wp2_with fail
    refine (cawake_any _).mono ?_
    rintro en w1 ⟨rfl, hb1⟩
    have HW1 := Lib.hid (bstep HB0.out hb1)
    have HX1 := Lib.hid (HX0.out.below hb1)
    clear hb1 HB0 HX0
    go_wp2_with fail
    refine (HSM.out _ HW1.out).mono ?_
    rintro en w2 ⟨q, rfl, hb2, hq⟩
    have HW2 := Lib.hid (bstep HW1.out hb2)
    have HX2 := Lib.hid (HX1.out.below hb2)
    clear hb2 hq HW1 HSM HX1
    cases q
    · go_wp2
      go_ret
      exact ⟨rfl, HW2.out⟩
    · skip
      rcases HRN.out with ⟨hL, rfl, hN⟩ | ⟨hL, rfl, hRN⟩
      · obtain ⟨rfl, rfl⟩ : nx = ⟨0, 0, ⟨0, 0, 0⟩, ⟨0, 0, 0⟩⟩ ∧ nn = 0 := by cases hN; exact ⟨rfl, rfl⟩
        clear hN HRN
        have e0 := HX2.out.cell 0
        have e1 := HX2.out.cell 1
        have e2 := HX2.out.cell 2
        have e3 := HX2.out.cell 3
        have e4 := HX2.out.cell 4
        have e5 := HX2.out.cell 5
        have e6 := HX2.out.cell 6
        have e7 := HX2.out.cell 7
        go_wp2_with fail
        refine (HCK.out _ HW2.out).mono ?_
        rintro en w3 ⟨rfl, hb3⟩
        have HW3 := Lib.hid (bstep HW2.out hb3)
        have HX3 := Lib.hid (HX2.out.below hb3)
        clear hb3 HW2 HCK HX2 e0 e1 e2 e3 e4 e5 e6 e7
        go_wp2_with fail
        refine (HNR.out _ HW3.out).mono ?_
        rintro en w4 ⟨rfl, hb4⟩
        have HY4 := Lib.hid (BlkIs.new w4 (clA ⟨0, 0, ⟨0, 0, 0⟩, ⟨0, 0, 0⟩⟩) 45)
        have HW4 := Lib.hid (bstep (bstep HW3.out hb4) (below_new w4 (.cells (clA ⟨0, 0, ⟨0, 0, 0⟩, ⟨0, 0, 0⟩⟩) 45)))
        have HX4 := Lib.hid ((HX3.out.below hb4).alloc (.cells (clA ⟨0, 0, ⟨0, 0, 0⟩, ⟨0, 0, 0⟩⟩) 45))
        clear hb4 HW3 HNR HX3
        go_wp2_with fail
        refine (HV.out _ HW4.out).mono ?_
        rintro en w5 ⟨rfl, hb5⟩
        have HW5 := Lib.hid (bstep HW4.out hb5)
        have HX5 := Lib.hid (HX4.out.below hb5)
        have HY5 := Lib.hid (HY4.out.below hb5)
        clear hb5 HW4 HV HX4 HY4
        have e0 := HY5.out.cell 0
        have e1 := HY5.out.cell 1
        have e2 := HY5.out.cell 2
        have e3 := HY5.out.cell 3
        have e4 := HY5.out.cell 4
        have e5 := HY5.out.cell 5
        have e6 := HY5.out.cell 6
        have e7 := HY5.out.cell 7
        go_wp2_with fail
        refine (HCN.out _ HW5.out).mono ?_
        rintro en w6 ⟨rfl, rfl⟩
        have d1 : decide ((L.length : Int) < 2) = true := dec_yes (by omega)
        have n1 : decide (L.length < 2) = true := dec_yes hL
        go_wp2_with fail
        refine (HCL.out _).mono ?_
        rintro en w9 ⟨rfl, rfl⟩
        cases cl
        · obtain ⟨_, rfl, rfl⟩ : (false : Bool) = false ∧ EC = 2 ∧ R = false := by
            rcases HRC.out with h | h
            · exact h
            · cases h.1
          go_wp2
          go_ret
          exact ⟨rfl, HW5.out⟩
        · obtain ⟨_, rfl, _⟩ : (true : Bool) = true ∧ EC = 0 ∧ True := by
            rcases HRC.out with h | h
            · cases h.1
            · exact ⟨rfl, h.2.1, trivial⟩
          have HRK : Hid (∀ W, Below w.heap.size w W → Calls Tryz.prog 30 #[v, vr, .int .i64 c, clv x] W fun e w' => e = .returned (.bool R) ∧ Below W.heap.size W w') := by
            rcases HRC.out with h | h
            · cases h.1
            · exact h.2.2
          have e0 := HX5.out.cell 0
          have e1 := HX5.out.cell 1
          have e2 := HX5.out.cell 2
          have e3 := HX5.out.cell 3
          have e4 := HX5.out.cell 4
          have e5 := HX5.out.cell 5
          have e6 := HX5.out.cell 6
          have e7 := HX5.out.cell 7
          go_wp2_with fail
          refine (HRK.out _ HW5.out).mono ?_
          rintro en w10 ⟨rfl, hb10⟩
          have HW10 := Lib.hid (bstep HW5.out hb10)
          clear hb10
          cases R <;> (go_wp2; go_ret; exact ⟨rfl, HW10.out⟩)
      · have HRN2 := Lib.hid hRN
        clear hRN HRN
        have e0 := HX2.out.cell 0
        have e1 := HX2.out.cell 1
        have e2 := HX2.out.cell 2
        have e3 := HX2.out.cell 3
        have e4 := HX2.out.cell 4
        have e5 := HX2.out.cell 5
        have e6 := HX2.out.cell 6
        have e7 := HX2.out.cell 7
        go_wp2_with fail
        refine (HCK.out _ HW2.out).mono ?_
        rintro en w3 ⟨rfl, hb3⟩
        have HW3 := Lib.hid (bstep HW2.out hb3)
        have HX3 := Lib.hid (HX2.out.below hb3)
        clear hb3 HW2 HCK HX2 e0 e1 e2 e3 e4 e5 e6 e7
        go_wp2_with fail
        refine (HNR.out _ HW3.out).mono ?_
        rintro en w4 ⟨rfl, hb4⟩
        have HY4 := Lib.hid (BlkIs.new w4 (clA nx) 45)
        have HW4 := Lib.hid (bstep (bstep HW3.out hb4) (below_new w4 (.cells (clA nx) 45)))
        have HX4 := Lib.hid ((HX3.out.below hb4).alloc (.cells (clA nx) 45))
        clear hb4 HW3 HNR HX3
        go_wp2_with fail
        refine (HV.out _ HW4.out).mono ?_
        rintro en w5 ⟨rfl, hb5⟩
        have HW5 := Lib.hid (bstep HW4.out hb5)
        have HX5 := Lib.hid (HX4.out.below hb5)
        have HY5 := Lib.hid (HY4.out.below hb5)
        clear hb5 HW4 HV HX4 HY4
        have e0 := HY5.out.cell 0
        have e1 := HY5.out.cell 1
        have e2 := HY5.out.cell 2
        have e3 := HY5.out.cell 3
        have e4 := HY5.out.cell 4
        have e5 := HY5.out.cell 5
        have e6 := HY5.out.cell 6
        have e7 := HY5.out.cell 7
        go_wp2_with fail
        refine (HCN.out _ HW5.out).mono ?_
        rintro en w6 ⟨rfl, rfl⟩
        have d1 : decide ((L.length : Int) < 2) = false := dec_no (by omega)
        have n1 : decide (L.length < 2) = false := dec_no (by omega)
        clear e0 e1 e2 e3 e4 e5 e6 e7
        go_wp2_with fail
        refine (HRN2.out _ HW5.out).mono ?_
        rintro en w7 ⟨rfl, hb7⟩
        have HZ7 := Lib.hid (BlkIs.new w7 (clA nx) 45)
        have HW7 := Lib.hid (bstep (bstep HW5.out hb7) (below_new w7 (.cells (clA nx) 45)))
        have HX7 := Lib.hid ((HX5.out.below hb7).alloc (.cells (clA nx) 45))
        have HY7 := Lib.hid ((HY5.out.below hb7).alloc (.cells (clA nx) 45))
        have hy7 : w4.heap.size < w7.heap.size := (HY5.out.below hb7).lt
        clear hb7 HW5 HX5 HY5 HRN2
        have e0 := HY7.out.cell 0
        have e1 := HY7.out.cell 1
        have e2 := HY7.out.cell 2
        have e3 := HY7.out.cell 3
        have e4 := HY7.out.cell 4
        have e5 := HY7.out.cell 5
        have e6 := HY7.out.cell 6
        have e7 := HY7.out.cell 7
        go_wp2_with fail
        refine (HCL.out _).mono ?_
        rintro en w9 ⟨rfl, rfl⟩
        cases cl
        · obtain ⟨_, rfl, rfl⟩ : (false : Bool) = false ∧ EC = 2 ∧ R = false := by
            rcases HRC.out with h | h
            · exact h
            · cases h.1
          go_wp2
          go_ret
          exact ⟨rfl, HW7.out⟩
        · obtain ⟨_, rfl, _⟩ : (true : Bool) = true ∧ EC = 0 ∧ True := by
            rcases HRC.out with h | h
            · cases h.1
            · exact ⟨rfl, h.2.1, trivial⟩
          have HRK : Hid (∀ W, Below w.heap.size w W → Calls Tryz.prog 30 #[v, vr, .int .i64 c, clv x] W fun e w' => e = .returned (.bool R) ∧ Below W.heap.size W w') := by
            rcases HRC.out with h | h
            · cases h.1
            · exact h.2.2
          have e0 := HX7.out.cell 0
          have e1 := HX7.out.cell 1
          have e2 := HX7.out.cell 2
          have e3 := HX7.out.cell 3
          have e4 := HX7.out.cell 4
          have e5 := HX7.out.cell 5
          have e6 := HX7.out.cell 6
          have e7 := HX7.out.cell 7
          go_wp2_with fail
          refine (HRK.out _ HW7.out).mono ?_
          rintro en w10 ⟨rfl, hb10⟩
          have HW10 := Lib.hid (bstep HW7.out hb10)
          clear hb10
          cases R <;> (go_wp2; go_ret; exact ⟨rfl, HW10.out⟩)
end
end Go.Proofs.YtpiigmhbbcjamaaGreat
