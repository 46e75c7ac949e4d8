/-
  clash.Check (printed by wip/gen_Cck.py).
-/
import Derived.Test.YtpiigmhbbcjamaaGreatRcd
import Derived.Test.YtpiigmhbbcjamaaGreatQbl
namespace Go.Proofs.YtpiigmhbbcjamaaGreat
section
open Go.RowKit
set_option linter.unusedVariables false
set_option linter.unusedSimpArgs false
attribute [local go_sem ↓] Go.wp_at_zero Go.wp_at_succ

/-- What Check answers. -/
def ckC (L : List (List Bx)) (Z : List Int) (c : Int) (x : ClD) : Bool :=
  decide (0 ≤ x.a ∧ x.a < x.b ∧ x.b < (L.length : Int)) && (onB (L.getD x.a.toNat []) x.p && (onB (L.getD x.b.toNat []) x.q && decide (4 * dist2 x.p x.q < needN (Z.getD x.a.toNat 0) (Z.getD x.b.toNat 0) c)))
theorem ckC_far {L : List (List Bx)} {Z : List Int} {c : Int} {x : ClD} (h : ¬ (0 ≤ x.a ∧ x.a < x.b ∧ x.b < (L.length : Int))) : ckC L Z c x = false := by
  unfold ckC; rw [dec_no h]; rfl
theorem ckC_in {L : List (List Bx)} {Z : List Int} {c : Int} {a b : Nat} {p q : Pt} (h : a < b) (hb : b < L.length) :
    ckC L Z c ⟨a, b, p, q⟩ = (onB (L.getD a []) p && (onB (L.getD b []) q && decide (4 * dist2 p q < needN (Z.getD a 0) (Z.getD b 0) c))) := by
  unfold ckC
  rw [dec_yes (p := 0 ≤ ((a : Int)) ∧ ((a : Int)) < ((b : Int)) ∧ ((b : Int)) < (L.length : Int)) ⟨by omega, by omega, by omega⟩]
  rfl
theorem on_near {B : List Bx} {p : Pt} (h : onB B p = true) (hB : B.all bxOk = true) : PtIn 1048576 p := by
  obtain ⟨b, hb, ib⟩ := onB_iff.1 h
  have g := bxOk_dec.1 (List.all_eq_true.1 hB b hb)
  unfold inBx at ib
  unfold PtIn
  omega
theorem sq_in {d : Int} (h1 : -2097152 ≤ d) (h2 : d ≤ 2097152) : 0 ≤ d * d ∧ d * d ≤ 4398046511104 := by
  by_cases h : 0 ≤ d
  · have h3 := Int.mul_le_mul h2 h2 h (by omega : (0 : Int) ≤ 2097152)
    have h4 := Int.mul_nonneg h h
    omega
  · have h3 : (-d) * (-d) ≤ 2097152 * 2097152 := Int.mul_le_mul (by omega) (by omega) (by omega) (by omega)
    have h4 : 0 ≤ (-d) * (-d) := Int.mul_nonneg (by omega) (by omega)
    have e : (-d) * (-d) = d * d := by rw [Int.neg_mul, Int.mul_neg, Int.neg_neg]
    omega
theorem dist_eq (a1 a2 a3 b1 b2 b3 : Int) : dist2 ⟨a1, a2, a3⟩ ⟨b1, b2, b3⟩ = (a1 - b1) * (a1 - b1) + (a2 - b2) * (a2 - b2) + (a3 - b3) * (a3 - b3) := rfl
theorem Spc.two {w : World} {T : Nat} {L : List (List Bx)} {Z : List Int} (h : Spc w T L Z) (hz : Z.length = L.length) {i k : Nat} (hi : i < L.length) (hk : k < L.length) :
    ∃ b off vc ub uo uc ui ci uk ck, T < w.heap.size ∧ b < w.heap.size ∧ ub < w.heap.size ∧ w.cell? ⟨T, 0, none⟩ = some (.slice (some ⟨b, off, none⟩) L.length vc) ∧ w.cell? ⟨T, 1, none⟩ = some (.slice (some ⟨ub, uo, none⟩) L.length uc) ∧
      w.cell? ⟨b, off + i, none⟩ = some (.slice ui (L.getD i []).length ci) ∧ Bxs w (.slice ui (L.getD i []).length ci) (L.getD i []) ∧ w.cell? ⟨b, off + k, none⟩ = some (.slice uk (L.getD k []).length ck) ∧ Bxs w (.slice uk (L.getD k []).length ck) (L.getD k []) ∧
      w.cell? ⟨ub, uo + i, none⟩ = some (.int .i64 (Z.getD i 0)) ∧ w.cell? ⟨ub, uo + k, none⟩ = some (.int .i64 (Z.getD k 0)) := by
  obtain ⟨b, off, vc, U, h1, h2, h3, h4, h5, ui, ci, h6, h7⟩ := h.open_ hi
  obtain ⟨b', off', vc', U', _, _, g3, _, _, uk, ck, g6, g7⟩ := h.open_ hk
  obtain ⟨ub, uo, uc, _, f2, f3, f4, f5⟩ := h.sizes hz hi hk
  have e := h3.symm.trans g3
  simp only [Option.some.injEq, Value.slice.injEq, Addr.mk.injEq] at e
  obtain ⟨⟨rfl, rfl, _⟩, _, rfl⟩ := e
  exact ⟨b, off, vc, ub, uo, uc, ui, ci, uk, ck, h1, h2, f2, h3, f3, h6, h7, g6, g7, f4, f5⟩
theorem ccheck_bad (v vr : Value) (c : Int) (x : ClD) (l : List BarD) (rs : List RunD) (w : World) (hp : Bars w v l) (hr : Runs w vr rs) (hl : l.length ≤ 140737488355328) (hlr : rs.length ≤ 140737488355328) (hf : FitB l) (n : Int) (h : (laidOk l rs = false ∧ n = 1) ∨ (laidOk l rs = true ∧ clrB c = false ∧ n = 2)) :
    Calls Tryz.prog 25 #[v, vr, .int .i64 c, clv x] w fun e w' => e = .returned (.tuple #[.bool false, .int .i64 n]) ∧ Below w.heap.size w w' := by
  have HB : Hid (∀ W, Below w.heap.size w W → Calls Tryz.prog 42 #[v, vr, .int .i64 c] W fun e w' => e = .returned (.tuple #[.pointer none, .int .i64 n]) ∧ Below W.heap.size W w') := by
    intro W hW
    rcases h with ⟨h, rfl⟩ | ⟨h, hc, rfl⟩
    · exact given_bad v vr c l rs W (hp.below hW) (hr.below hW) hl hlr hf h
    · exact given_far v vr c l rs W (hp.below hW) (hr.below hW) hl hlr hf h hc
  have hn : (n != 0) = true := bne_yes (by omega)
  have HB0 := Lib.hid (below_new w (.cells (clA x) 45))
  clear hp hr h
  go_enter Tryz.func25, Tryz.ntmps25
  go_wp2_with fail
  refine (HB.out _ HB0.out).mono ?_
  rintro e w1 ⟨rfl, hb1⟩
  have HB1 := Lib.hid (bstep HB0.out hb1)
  clear hb1
  go_wp2
  go_ret2
  exact ⟨rfl, HB1.out⟩
set_option maxRecDepth 100000 in
set_option maxHeartbeats 8000000 in
theorem ccheck_good (v vr : Value) (c : Int) (x : ClD) (l : List BarD) (rs : List RunD) (w : World) (hp : Bars w v l) (hr : Runs w vr rs) (hl : l.length ≤ 140737488355328) (hlr : rs.length ≤ 140737488355328) (hf : FitB l) (h : laidOk l rs = true) (hc : clrB c = true) :
    Calls Tryz.prog 25 #[v, vr, .int .i64 c, clv x] w fun e w' => e = .returned (.tuple #[.bool (ckC (lgsOf l rs) (szsOf l rs) c x), .int .i64 0]) ∧ Below w.heap.size w w' := by
  have HB0 := Lib.hid (below_new w (.cells (clA x) 45))
  have HX0 := Lib.hid (BlkIs.new w (clA x) 45)
  have HB := Lib.hid (fun W (hW : Below w.heap.size w W) => given_ok v vr c l rs W (hp.below hW) (hr.below hW) hl hlr hf h hc)
  have HZ := Lib.hid (lzOk_of h)
  have hcc := Lib.hid (clr_yes hc)
  generalize lgsOf l rs = L at *
  generalize szsOf l rs = Z at *
  obtain ⟨xa, xb, ⟨px, py, pz⟩, ⟨qx, qy, qz⟩⟩ := x
  obtain ⟨r, hr⟩ : ∃ r, ckC L Z c ⟨xa, xb, ⟨px, py, pz⟩, ⟨qx, qy, qz⟩⟩ = r := ⟨_, rfl⟩
  have HR := Lib.hid hr
  rw [hr]
  clear hp hr h hf hc
  by_cases h1 : xa < 0
  · have d1 : decide (xa < 0) = true := dec_yes h1
    obtain rfl : r = false := HR.out.symm.trans (ckC_far (L := L) (Z := Z) (c := c) (x := ⟨xa, xb, ⟨px, py, pz⟩, ⟨qx, qy, qz⟩⟩) (by show ¬ (0 ≤ xa ∧ xa < xb ∧ xb < (L.length : Int)); omega))
    go_enter Tryz.func25, Tryz.ntmps25
    go_wp2_with fail
    refine (HB.out _ HB0.out).mono ?_
    rintro e w1 ⟨T, rfl, hs, hb1⟩
    have HX1 := Lib.hid (HX0.out.below hb1)
    have HB1 := Lib.hid (bstep HB0.out hb1)
    have HS := Lib.hid hs
    clear hb1 hs HB HX0 HB0
    obtain ⟨ao, cap, hT, c0⟩ := HS.out.head
    have c0 := fun d os => cell_regrown c0 d os
    have e0 := fun d os => cell_regrown (HX1.out.cell 0) d os
    have e1 := fun d os => cell_regrown (HX1.out.cell 1) d os
    have e2 := fun d os => cell_regrown (HX1.out.cell 2) d os
    have e3 := fun d os => cell_regrown (HX1.out.cell 3) d os
    have e4 := fun d os => cell_regrown (HX1.out.cell 4) d os
    have e5 := fun d os => cell_regrown (HX1.out.cell 5) d os
    have e6 := fun d os => cell_regrown (HX1.out.cell 6) d os
    have e7 := fun d os => cell_regrown (HX1.out.cell 7) d os
    clear HS hT
    go_wp2_with fail
    refine wp_region_quiet_below (by kernel_rfl) (by kernel_rfl) ?_
    repeat (go_big_quiet_step ((first
      | fail)))
    refine wpQuiet_nil ?_
    intro _ hw'
    obtain ⟨⟨nq, osq⟩, hw''⟩ := hw'
    subst hw''
    have HB2 := Lib.hid (bstep HB1.out (below_regrown w1 nq osq))
    generalize Go.Sort.grow (redrawn w1 nq) osq = w2 at *
    go_wp2
    go_ret2
    exact ⟨rfl, HB2.out⟩
  · have d1 : decide (xa < 0) = false := dec_no h1
    by_cases h2 : xb ≤ xa
    · have d2 : decide (xb ≤ xa) = true := dec_yes h2
      obtain rfl : r = false := HR.out.symm.trans (ckC_far (L := L) (Z := Z) (c := c) (x := ⟨xa, xb, ⟨px, py, pz⟩, ⟨qx, qy, qz⟩⟩) (by show ¬ (0 ≤ xa ∧ xa < xb ∧ xb < (L.length : Int)); omega))
      go_enter Tryz.func25, Tryz.ntmps25
      go_wp2_with fail
      refine (HB.out _ HB0.out).mono ?_
      rintro e w1 ⟨T, rfl, hs, hb1⟩
      have HX1 := Lib.hid (HX0.out.below hb1)
      have HB1 := Lib.hid (bstep HB0.out hb1)
      have HS := Lib.hid hs
      clear hb1 hs HB HX0 HB0
      obtain ⟨ao, cap, hT, c0⟩ := HS.out.head
      have c0 := fun d os => cell_regrown c0 d os
      have e0 := fun d os => cell_regrown (HX1.out.cell 0) d os
      have e1 := fun d os => cell_regrown (HX1.out.cell 1) d os
      have e2 := fun d os => cell_regrown (HX1.out.cell 2) d os
      have e3 := fun d os => cell_regrown (HX1.out.cell 3) d os
      have e4 := fun d os => cell_regrown (HX1.out.cell 4) d os
      have e5 := fun d os => cell_regrown (HX1.out.cell 5) d os
      have e6 := fun d os => cell_regrown (HX1.out.cell 6) d os
      have e7 := fun d os => cell_regrown (HX1.out.cell 7) d os
      clear HS hT
      go_wp2_with fail
      refine wp_region_quiet_below (by kernel_rfl) (by kernel_rfl) ?_
      repeat (go_big_quiet_step ((first
        | fail)))
      refine wpQuiet_nil ?_
      intro _ hw'
      obtain ⟨⟨nq, osq⟩, hw''⟩ := hw'
      subst hw''
      have HB2 := Lib.hid (bstep HB1.out (below_regrown w1 nq osq))
      generalize Go.Sort.grow (redrawn w1 nq) osq = w2 at *
      go_wp2
      go_ret2
      exact ⟨rfl, HB2.out⟩
    · have d2 : decide (xb ≤ xa) = false := dec_no h2
      by_cases h3 : (L.length : Int) ≤ xb
      · have d3 : decide ((L.length : Int) ≤ xb) = true := dec_yes h3
        obtain rfl : r = false := HR.out.symm.trans (ckC_far (L := L) (Z := Z) (c := c) (x := ⟨xa, xb, ⟨px, py, pz⟩, ⟨qx, qy, qz⟩⟩) (by show ¬ (0 ≤ xa ∧ xa < xb ∧ xb < (L.length : Int)); omega))
        go_enter Tryz.func25, Tryz.ntmps25
        go_wp2_with fail
        refine (HB.out _ HB0.out).mono ?_
        rintro e w1 ⟨T, rfl, hs, hb1⟩
        have HX1 := Lib.hid (HX0.out.below hb1)
        have HB1 := Lib.hid (bstep HB0.out hb1)
        have HS := Lib.hid hs
        clear hb1 hs HB HX0 HB0
        obtain ⟨ao, cap, hT, c0⟩ := HS.out.head
        have c0 := fun d os => cell_regrown c0 d os
        have e0 := fun d os => cell_regrown (HX1.out.cell 0) d os
        have e1 := fun d os => cell_regrown (HX1.out.cell 1) d os
        have e2 := fun d os => cell_regrown (HX1.out.cell 2) d os
        have e3 := fun d os => cell_regrown (HX1.out.cell 3) d os
        have e4 := fun d os => cell_regrown (HX1.out.cell 4) d os
        have e5 := fun d os => cell_regrown (HX1.out.cell 5) d os
        have e6 := fun d os => cell_regrown (HX1.out.cell 6) d os
        have e7 := fun d os => cell_regrown (HX1.out.cell 7) d os
        clear HS hT
        go_wp2_with fail
        refine wp_region_quiet_below (by kernel_rfl) (by kernel_rfl) ?_
        repeat (go_big_quiet_step ((first
          | fail)))
        refine wpQuiet_nil ?_
        intro _ hw'
        obtain ⟨⟨nq, osq⟩, hw''⟩ := hw'
        subst hw''
        have HB2 := Lib.hid (bstep HB1.out (below_regrown w1 nq osq))
        generalize Go.Sort.grow (redrawn w1 nq) osq = w2 at *
        go_wp2
        go_ret2
        exact ⟨rfl, HB2.out⟩
      · have d3 : decide ((L.length : Int) ≤ xb) = false := dec_no h3
        obtain ⟨a, rfl⟩ : ∃ n : Nat, xa = (n : Int) := ⟨xa.toNat, by omega⟩
        obtain ⟨b, rfl⟩ : ∃ n : Nat, xb = (n : Int) := ⟨xb.toNat, by omega⟩
        have na : a < L.length := by omega
        have n2 : decide (b ≤ a) = false := dec_no (by omega)
        have n3 : decide (L.length ≤ b) = false := dec_no (by omega)
        have nb : b < L.length := by omega
        have HE := Lib.hid (HR.out.symm.trans (ckC_in (by omega) nb))
        have LA := Lib.hid (HZ.out.legs a na)
        have LB := Lib.hid (HZ.out.legs b nb)
        have SA := Lib.hid (HZ.out.size a na)
        have SB := Lib.hid (HZ.out.size b nb)
        have hzl := HZ.out.len
        have i0 : (0 : Int) ≤ (a : Int) := by omega
        have i1 : (a : Int) < (L.length : Int) := by omega
        have i2 : (0 : Int) ≤ (b : Int) := by omega
        have i3 : (b : Int) < (L.length : Int) := by omega
        obtain ⟨q1, hq1⟩ : ∃ q, onB (L.getD a []) ⟨px, py, pz⟩ = q := ⟨_, rfl⟩
        obtain ⟨q2, hq2⟩ : ∃ q, onB (L.getD b []) ⟨qx, qy, qz⟩ = q := ⟨_, rfl⟩
        rw [hq1, hq2] at HE
        have HNA := Lib.hid (fun (h : q1 = true) => on_near (hq1.trans h) LA.out.2.2)
        have HNB := Lib.hid (fun (h : q2 = true) => on_near (hq2.trans h) LB.out.2.2)
        have HOA := Lib.hid (fun u cu W (hW : Bxs W (.slice u (L.getD a []).length cu) (L.getD a [])) => con_any (.slice u (L.getD a []).length cu) (L.getD a []) ⟨px, py, pz⟩ W hW LA.out.2.1)
        have HOB := Lib.hid (fun u cu W (hW : Bxs W (.slice u (L.getD b []).length cu) (L.getD b [])) => con_any (.slice u (L.getD b []).length cu) (L.getD b []) ⟨qx, qy, qz⟩ W hW LB.out.2.1)
        rw [hq1] at HOA
        rw [hq2] at HOB
        have HTW := Lib.hid (fun W T (hs : Spc W T L Z) => hs.two hzl na nb)
        have HND := Lib.hid (fun W => need_any (Z.getD a 0) (Z.getD b 0) c W SA.out SB.out hcc.out)
        have HNBD := Lib.hid (need_bd SA.out SB.out hcc.out)
        generalize L.getD a [] = La at *
        generalize L.getD b [] = Lb at *
        generalize Z.getD a 0 = za at *
        generalize Z.getD b 0 = zb at *
        generalize needN za zb c = nd at *
        clear hq1 hq2 LA LB SA SB hzl h1 h2 h3 HZ hcc HR
        cases q1
        · obtain rfl : r = false := HE.out
          go_enter Tryz.func25, Tryz.ntmps25
          go_wp2_with fail
          refine (HB.out _ HB0.out).mono ?_
          rintro e w1 ⟨T, rfl, hs, hb1⟩
          have HX1 := Lib.hid (HX0.out.below hb1)
          have HB1 := Lib.hid (bstep HB0.out hb1)
          have HS := Lib.hid hs
          clear hb1 hs HB HX0 HB0
          obtain ⟨b0, off, vc, ub, uo, uc, ui, ci, uk, ck, hT, hb0, hub, c0, c1, f0, g0, f1, g1, z0, z1⟩ := HTW.out _ _ HS.out
          have HTW1 := Lib.hid (And.intro hT (And.intro hub (And.intro c1 (And.intro z0 z1))))
          have HGA := Lib.hid g0
          have HGB := Lib.hid g1
          have c0 := fun d os => cell_regrown c0 d os
          have f0 := fun d os => cell_regrown f0 d os
          have f1 := fun d os => cell_regrown f1 d os
          have e0 := fun d os => cell_regrown (HX1.out.cell 0) d os
          have e1 := fun d os => cell_regrown (HX1.out.cell 1) d os
          have e2 := fun d os => cell_regrown (HX1.out.cell 2) d os
          have e3 := fun d os => cell_regrown (HX1.out.cell 3) d os
          have e4 := fun d os => cell_regrown (HX1.out.cell 4) d os
          have e5 := fun d os => cell_regrown (HX1.out.cell 5) d os
          have e6 := fun d os => cell_regrown (HX1.out.cell 6) d os
          have e7 := fun d os => cell_regrown (HX1.out.cell 7) d os
          clear HS g0 g1 c1 z0 z1 HTW
          go_wp2_with fail
          refine wp_region_quiet_below (by kernel_rfl) (by kernel_rfl) ?_
          repeat (go_big_quiet_step ((first
            | (go_at_call 47; with_reducible exact Calls.regrown_of (HOA.out _ _ _ (Fl.below HGA.out (below_regrown _ _ _))))
            | (go_at_call 47; with_reducible exact Calls.regrown_of (HOB.out _ _ _ (Fl.below HGB.out (below_regrown _ _ _)))))))
          refine wpQuiet_nil ?_
          intro _ hw'
          obtain ⟨⟨nq, osq⟩, hw''⟩ := hw'
          subst hw''
          have HB2 := Lib.hid (bstep HB1.out (below_regrown w1 nq osq))
          generalize Go.Sort.grow (redrawn w1 nq) osq = w2 at *
          go_wp2
          go_ret2
          exact ⟨rfl, HB2.out⟩
        · cases q2
          · obtain rfl : r = false := HE.out
            go_enter Tryz.func25, Tryz.ntmps25
            go_wp2_with fail
            refine (HB.out _ HB0.out).mono ?_
            rintro e w1 ⟨T, rfl, hs, hb1⟩
            have HX1 := Lib.hid (HX0.out.below hb1)
            have HB1 := Lib.hid (bstep HB0.out hb1)
            have HS := Lib.hid hs
            clear hb1 hs HB HX0 HB0
            obtain ⟨b0, off, vc, ub, uo, uc, ui, ci, uk, ck, hT, hb0, hub, c0, c1, f0, g0, f1, g1, z0, z1⟩ := HTW.out _ _ HS.out
            have HTW1 := Lib.hid (And.intro hT (And.intro hub (And.intro c1 (And.intro z0 z1))))
            have HGA := Lib.hid g0
            have HGB := Lib.hid g1
            have c0 := fun d os => cell_regrown c0 d os
            have f0 := fun d os => cell_regrown f0 d os
            have f1 := fun d os => cell_regrown f1 d os
            have e0 := fun d os => cell_regrown (HX1.out.cell 0) d os
            have e1 := fun d os => cell_regrown (HX1.out.cell 1) d os
            have e2 := fun d os => cell_regrown (HX1.out.cell 2) d os
            have e3 := fun d os => cell_regrown (HX1.out.cell 3) d os
            have e4 := fun d os => cell_regrown (HX1.out.cell 4) d os
            have e5 := fun d os => cell_regrown (HX1.out.cell 5) d os
            have e6 := fun d os => cell_regrown (HX1.out.cell 6) d os
            have e7 := fun d os => cell_regrown (HX1.out.cell 7) d os
            clear HS g0 g1 c1 z0 z1 HTW
            go_wp2_with fail
            refine wp_region_quiet_below (by kernel_rfl) (by kernel_rfl) ?_
            repeat (go_big_quiet_step ((first
              | (go_at_call 47; with_reducible exact Calls.regrown_of (HOA.out _ _ _ (Fl.below HGA.out (below_regrown _ _ _))))
              | (go_at_call 47; with_reducible exact Calls.regrown_of (HOB.out _ _ _ (Fl.below HGB.out (below_regrown _ _ _)))))))
            refine wpQuiet_nil ?_
            intro _ hw'
            obtain ⟨⟨nq, osq⟩, hw''⟩ := hw'
            subst hw''
            have HB2 := Lib.hid (bstep HB1.out (below_regrown w1 nq osq))
            generalize Go.Sort.grow (redrawn w1 nq) osq = w2 at *
            go_wp2
            go_ret2
            exact ⟨rfl, HB2.out⟩
          · have hE : r = decide (4 * dist2 ⟨px, py, pz⟩ ⟨qx, qy, qz⟩ < nd) := HE.out
            rw [dist_eq] at hE
            have HE2 := Lib.hid hE
            obtain ⟨u1, u2, u3, u4, u5, u6⟩ := HNA.out rfl
            obtain ⟨v1, v2, v3, v4, v5, v6⟩ := HNB.out rfl
            simp only at u1 u2 u3 u4 u5 u6 v1 v2 v3 v4 v5 v6
            obtain ⟨x1, x2⟩ := sq_in (d := px - qx) (by omega) (by omega)
            obtain ⟨y1, y2⟩ := sq_in (d := py - qy) (by omega) (by omega)
            obtain ⟨t1, t2⟩ := sq_in (d := pz - qz) (by omega) (by omega)
            have k1 : IntKind.i64.wrap (px - qx) = px - qx := IntWalk.i64_in _ (by omega)
            have k2 : IntKind.i64.wrap (py - qy) = py - qy := IntWalk.i64_in _ (by omega)
            have k3 : IntKind.i64.wrap (pz - qz) = pz - qz := IntWalk.i64_in _ (by omega)
            have m1 : IntKind.i64.wrap ((px - qx) * (px - qx)) = (px - qx) * (px - qx) := IntWalk.i64_in _ (by omega)
            have m2 : IntKind.i64.wrap ((py - qy) * (py - qy)) = (py - qy) * (py - qy) := IntWalk.i64_in _ (by omega)
            have m3 : IntKind.i64.wrap ((pz - qz) * (pz - qz)) = (pz - qz) * (pz - qz) := IntWalk.i64_in _ (by omega)
            have m4 : IntKind.i64.wrap ((px - qx) * (px - qx) + (py - qy) * (py - qy)) = (px - qx) * (px - qx) + (py - qy) * (py - qy) := IntWalk.i64_in _ (by omega)
            have m5 : IntKind.i64.wrap ((px - qx) * (px - qx) + (py - qy) * (py - qy) + (pz - qz) * (pz - qz)) = (px - qx) * (px - qx) + (py - qy) * (py - qy) + (pz - qz) * (pz - qz) := IntWalk.i64_in _ (by omega)
            have m6 : IntKind.i64.wrap (4 * ((px - qx) * (px - qx) + (py - qy) * (py - qy) + (pz - qz) * (pz - qz))) = 4 * ((px - qx) * (px - qx) + (py - qy) * (py - qy) + (pz - qz) * (pz - qz)) := IntWalk.i64_in _ (by omega)
            clear hE u1 u2 u3 u4 u5 u6 v1 v2 v3 v4 v5 v6 x1 x2 y1 y2 t1 t2 HE
            go_enter Tryz.func25, Tryz.ntmps25
            go_wp2_with fail
            refine (HB.out _ HB0.out).mono ?_
            rintro e w1 ⟨T, rfl, hs, hb1⟩
            have HX1 := Lib.hid (HX0.out.below hb1)
            have HB1 := Lib.hid (bstep HB0.out hb1)
            have HS := Lib.hid hs
            clear hb1 hs HB HX0 HB0
            obtain ⟨b0, off, vc, ub, uo, uc, ui, ci, uk, ck, hT, hb0, hub, c0, c1, f0, g0, f1, g1, z0, z1⟩ := HTW.out _ _ HS.out
            have HTW1 := Lib.hid (And.intro hT (And.intro hub (And.intro c1 (And.intro z0 z1))))
            have HGA := Lib.hid g0
            have HGB := Lib.hid g1
            have c0 := fun d os => cell_regrown c0 d os
            have f0 := fun d os => cell_regrown f0 d os
            have f1 := fun d os => cell_regrown f1 d os
            have e0 := fun d os => cell_regrown (HX1.out.cell 0) d os
            have e1 := fun d os => cell_regrown (HX1.out.cell 1) d os
            have e2 := fun d os => cell_regrown (HX1.out.cell 2) d os
            have e3 := fun d os => cell_regrown (HX1.out.cell 3) d os
            have e4 := fun d os => cell_regrown (HX1.out.cell 4) d os
            have e5 := fun d os => cell_regrown (HX1.out.cell 5) d os
            have e6 := fun d os => cell_regrown (HX1.out.cell 6) d os
            have e7 := fun d os => cell_regrown (HX1.out.cell 7) d os
            clear HS g0 g1 c1 z0 z1 HTW
            go_wp2_with fail
            refine wp_region_quiet_below (by kernel_rfl) (by kernel_rfl) ?_
            repeat (go_big_quiet_step ((first
              | (go_at_call 47; with_reducible exact Calls.regrown_of (HOA.out _ _ _ (Fl.below HGA.out (below_regrown _ _ _))))
              | (go_at_call 47; with_reducible exact Calls.regrown_of (HOB.out _ _ _ (Fl.below HGB.out (below_regrown _ _ _)))))))
            refine wpQuiet_nil ?_
            intro _ hw'
            obtain ⟨⟨nq, osq⟩, hw''⟩ := hw'
            subst hw''
            have HB2 := Lib.hid (bstep HB1.out (below_regrown w1 nq osq))
            have HX2 := Lib.hid (HX1.out.below (below_regrown w1 nq osq))
            have HTW2 := Lib.hid (And.intro (cell_regrown HTW1.out.2.2.1 nq osq) (And.intro (cell_regrown HTW1.out.2.2.2.1 nq osq) (cell_regrown HTW1.out.2.2.2.2 nq osq)))
            clear e0 e1 e2 e3 e4 e5 e6 e7 c0 f0 f1
            generalize Go.Sort.grow (redrawn w1 nq) osq = w2 at *
            have e0 := fun d os => cell_regrown (HX2.out.cell 0) d os
            have e1 := fun d os => cell_regrown (HX2.out.cell 1) d os
            have e2 := fun d os => cell_regrown (HX2.out.cell 2) d os
            have e3 := fun d os => cell_regrown (HX2.out.cell 3) d os
            have e4 := fun d os => cell_regrown (HX2.out.cell 4) d os
            have e5 := fun d os => cell_regrown (HX2.out.cell 5) d os
            have e6 := fun d os => cell_regrown (HX2.out.cell 6) d os
            have e7 := fun d os => cell_regrown (HX2.out.cell 7) d os
            go_wp2_with fail
            refine wp_region_quiet_below (by kernel_rfl) (by kernel_rfl) ?_
            repeat (go_big_quiet_step ((first
              | fail)))
            refine wpQuiet_nil ?_
            intro _ hw'
            obtain ⟨⟨nq, osq⟩, hw''⟩ := hw'
            subst hw''
            have HB3 := Lib.hid (bstep HB2.out (below_regrown w2 nq osq))
            have HX3 := Lib.hid (HX2.out.below (below_regrown w2 nq osq))
            have c1 := cell_regrown HTW2.out.1 nq osq
            have z0 := cell_regrown HTW2.out.2.1 nq osq
            have z1 := cell_regrown HTW2.out.2.2 nq osq
            clear e0 e1 e2 e3 e4 e5 e6 e7
            generalize Go.Sort.grow (redrawn w2 nq) osq = w3 at *
            have c1 := fun d os => cell_regrown c1 d os
            have z0 := fun d os => cell_regrown z0 d os
            have z1 := fun d os => cell_regrown z1 d os
            have e0 := fun d os => cell_regrown (HX3.out.cell 0) d os
            have e1 := fun d os => cell_regrown (HX3.out.cell 1) d os
            go_wp2_with fail
            refine wp_region_quiet_below (by kernel_rfl) (by kernel_rfl) ?_
            repeat (go_big_quiet_step ((first
              | (go_at_call 36; exact Calls.regrown_of (HND.out _)))))
            refine wpQuiet_nil ?_
            intro _ hw'
            obtain ⟨⟨nq, osq⟩, hw''⟩ := hw'
            subst hw''
            have HB4 := Lib.hid (bstep HB3.out (below_regrown w3 nq osq))
            clear e0 e1 c1 z0 z1
            generalize Go.Sort.grow (redrawn w3 nq) osq = w4 at *
            go_wp2
            go_ret2
            exact ⟨by rw [HE2.out]; rfl, HB4.out⟩
end
end Go.Proofs.YtpiigmhbbcjamaaGreat
