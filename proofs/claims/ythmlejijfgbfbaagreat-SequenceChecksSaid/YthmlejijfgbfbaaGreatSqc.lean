/-
  The walk of SequenceChecks (printed by wip/gen_Sqz.py).
-/
import Derived.Test.YthmlejijfgbfbaaGreatSqa
namespace Go.Proofs.YthmlejijfgbfbaaGreat
section
open Go.RowKit
set_option linter.unusedVariables false
set_option linter.unusedSimpArgs false
attribute [local go_sem ↓] Go.wp_at_zero Go.wp_at_succ

theorem allE_codes (ok : Bool) (n : Nat) (X : List Int) : allE ok n X = 0 ∨ allE ok n X = 1 ∨ allE ok n X = 3 ∨ allE ok n X = 6 ∨ allE ok n X = 11 := by
  unfold allE edgE
  split
  · split
    · simp
    · split
      · split <;> simp
      · simp
  · simp
/-- What Check answers beside what First answers. -/
theorem chk_rel {c : Int} {n : Nat} {es : List (Nat × Nat)} {q : List Int} (hc : c = 0 ∨ c = 1 ∨ c = 3 ∨ c = 6 ∨ c = 11) (he : EndsD n es) (hs : ∀ x, (x, x) ∉ es) :
    ((sqFst c n es q).2.2 = 0 ∧ sqChk c n es q = (false, 0)) ∨ ((sqFst c n es q).2.2 = 12 ∧ sqChk c n es q = (true, 0)) ∨ ((sqFst c n es q).2.2 ≠ 0 ∧ (sqFst c n es q).2.2 ≠ 12 ∧ sqChk c n es q = (false, (sqFst c n es q).2.2)) := by
  unfold sqFst sqChk
  by_cases h0 : c = 0
  · rw [if_pos h0, if_pos h0]
    unfold fstR
    have hcod := nodes_codes n q
    have hcn := chk_nodes n es q
    by_cases hn : nodesRes n q = 0
    · rw [if_pos hn]
      have hf := fst_chk he hs hn
      unfold fstV
      cases ho : fstE es (q.map Int.toNat) n with
      | none =>
        have h1 := hf.2 ho
        exact Or.inr (Or.inl ⟨rfl, Prod.ext h1 (by rw [hcn, hn])⟩)
      | some r =>
        obtain ⟨a, b⟩ := r
        have h1 : (chkRes n es q).1 = false := by
          cases hb : (chkRes n es q).1 with
          | false => rfl
          | true => have := hf.1 hb; rw [ho] at this; cases this
        exact Or.inl ⟨rfl, Prod.ext h1 (by rw [hcn, hn])⟩
    · rw [if_neg hn]
      have h1 := chk_bad (es := es) hn
      exact Or.inr (Or.inr ⟨hn, by show nodesRes n q ≠ 12; omega, Prod.ext h1 hcn⟩)
  · rw [if_neg h0, if_neg h0]
    exact Or.inr (Or.inr ⟨h0, by show c ≠ 12; omega, rfl⟩)
set_option maxRecDepth 100000 in
set_option maxHeartbeats 8000000 in
theorem sequenceChecks_walk (w : World) (v : Value) (l : List BarD) (hp : Bars w v l) (hf : FitB l) (hl : l.length * 64 ≤ 140737488351232) (vr : Value) (rs : List RunD) (hr : Runs w vr rs) (hm : ∀ r ∈ rs, r.mark.size ≤ maxLen) (hlr : rs.length * 88 ≤ 140737488351232)
    (xv : Value) (X : List Int) (hx : Ints w xv X) (hlx : X.length * 8 ≤ 140737488351232) (wx : ∀ x ∈ X, (Lit.int .i64 x).wf = true)
    (qv : Value) (q : List Int) (hq : Ints w qv q) (hlq : q.length * 8 ≤ 140737488351232) (wq : ∀ x ∈ q, (Lit.int .i64 x).wf = true) (hcp : Caps qv) :
    Calls Tryz.prog 4 #[v, vr, xv, qv] w fun en w' => en = .returned (.bool true) ∧ Below w.heap.size w w' := by
  have hl2 : l.length ≤ 140737488355328 := by omega
  have hlr2 : rs.length ≤ 140737488355328 := by omega
  have HP := Lib.hid hp
  have HR := Lib.hid hr
  have HFI := Lib.hid hf
  have HX := Lib.hid hx
  obtain ⟨xo, xc, rfl⟩ := Sl.at_ hx
  have HQ := Lib.hid hq
  have HCP := Lib.hid hcp
  obtain ⟨qo, qc, rfl⟩ := Sl.at_ hq
  have HSM := Lib.hid (fun W (hW : Below w.heap.size w W) => ssmall_any v vr l rs W (hp.below hW) (hr.below hW) hl2 hlr2)
  clear hp hr hf hl hlr hm wx hx hq wq hcp
  by_cases h70 : 70 < X.length
  · have d1 : decide ((70 : Int) < (X.length : Int)) = true := dec_yes (by omega)
    have d2 : decide (70 < X.length) = true := dec_yes h70
    go_enter Tryz.func4, Tryz.ntmps4
    go_wp2_with fail
    refine (sawake_any _).mono ?_
    rintro en w1 ⟨rfl, hb1⟩
    have HW1 := Lib.hid hb1
    clear hb1
    go_wp2_with fail
    refine (HSM.out _ HW1.out).mono ?_
    rintro en w2 ⟨b, rfl, hb2, hq2⟩
    have HW2 := Lib.hid (bstep HW1.out hb2)
    have HQ2 := Lib.hid hq2
    clear hb2 hq2 HW1 HSM
    cases b
    all_goals
      go_wp2
      go_ret
      exact ⟨rfl, HW2.out⟩
  · have d1 : decide ((70 : Int) < (X.length : Int)) = false := dec_no (by omega)
    have d2 : decide (70 < X.length) = false := dec_no h70
    by_cases h71 : 70 < q.length
    · have d3 : decide ((70 : Int) < (q.length : Int)) = true := dec_yes (by omega)
      have d4 : decide (70 < q.length) = true := dec_yes h71
      go_enter Tryz.func4, Tryz.ntmps4
      go_wp2_with fail
      refine (sawake_any _).mono ?_
      rintro en w1 ⟨rfl, hb1⟩
      have HW1 := Lib.hid hb1
      clear hb1
      go_wp2_with fail
      refine (HSM.out _ HW1.out).mono ?_
      rintro en w2 ⟨b, rfl, hb2, hq2⟩
      have HW2 := Lib.hid (bstep HW1.out hb2)
      have HQ2 := Lib.hid hq2
      clear hb2 hq2 HW1 HSM
      cases b
      all_goals
        go_wp2
        go_ret
        exact ⟨rfl, HW2.out⟩
    · have d3 : decide ((70 : Int) < (q.length : Int)) = false := dec_no (by omega)
      have d4 : decide (70 < q.length) = false := dec_no h71
      go_enter Tryz.func4, Tryz.ntmps4
      go_wp2_with fail
      refine (sawake_any _).mono ?_
      rintro en w1 ⟨rfl, hb1⟩
      have HW1 := Lib.hid hb1
      clear hb1
      go_wp2_with fail
      refine (HSM.out _ HW1.out).mono ?_
      rintro en w2 ⟨b, rfl, hb2, hq2⟩
      have HW2 := Lib.hid (bstep HW1.out hb2)
      have HQ2 := Lib.hid hq2
      clear hb2 hq2 HW1 HSM
      cases b
      · go_wp2
        go_ret
        exact ⟨rfl, HW2.out⟩
      · have HA : Hid (SqA w v vr l rs) := ⟨HP.out, HR.out, hl2, hlr2, HFI.out, fun hok => fewN hok (HQ2.out (by simp))⟩
        have hx6 : X.length ≤ 1000000 := by omega
        have hx5 : X.length ≤ 140737488355328 := by omega
        have hq6 : q.length ≤ 1000000 := by omega
        have hq5 : q.length ≤ 140737488355328 := by omega
        have G1 := Lib.hid (fun W (hW : Below w.heap.size w W) => scheck_any v vr (.slice xo X.length xc) (.slice qo q.length qc) X q l rs W (HA.out.below hW) (HX.out.below hW) hx5 (HQ.out.below hW) hq5)
        have G2 := Lib.hid (fun W (hW : Below w.heap.size w W) => sfirst_any v vr (.slice xo X.length xc) (.slice qo q.length qc) X q l rs W (HA.out.below hW) (HX.out.below hW) hx5 (HQ.out.below hW) hq5 HCP.out)
        have G3 := Lib.hid (fun W (hW : Below w.heap.size w W) => rfst39_any v vr (.slice xo X.length xc) (.slice qo q.length qc) X q l rs W (HA.out.below hW) (HX.out.below hW) hx6 (HQ.out.below hW) hq6)
        have HREL := Lib.hid (chk_rel (q := q) (allE_codes (laidOk l rs) (lgsOf l rs).length X) (edN_ends (lgsOf l rs) (szsOf l rs) X (lgsOf l rs).length) (fun x => edN_self))
        unfold sqEs sqC at *
        generalize sqFst (allE (laidOk l rs) (lgsOf l rs).length X) (lgsOf l rs).length (edN (lgsOf l rs) (szsOf l rs) X (lgsOf l rs).length) q = R at *
        generalize sqChk (allE (laidOk l rs) (lgsOf l rs).length X) (lgsOf l rs).length (edN (lgsOf l rs) (szsOf l rs) X (lgsOf l rs).length) q = S at *
        obtain ⟨ra, rb, rc⟩ := R
        obtain ⟨sa, sc⟩ := S
        simp only at G1 G2 G3 HREL
        go_wp2_with fail
        refine (G1.out _ HW2.out).mono ?_
        rintro en w3 ⟨rfl, hb⟩
        have HW3 := Lib.hid (bstep HW2.out hb)
        clear hb HW2 G1
        go_wp2_with fail
        refine (G2.out _ HW3.out).mono ?_
        rintro en w4 ⟨rfl, hb⟩
        have HW4 := Lib.hid (bstep HW3.out hb)
        clear hb HW3 G2
        go_wp2_with fail
        refine (G3.out _ HW4.out).mono ?_
        rintro en w5 ⟨rfl, hb⟩
        have HW5 := Lib.hid (bstep HW4.out hb)
        clear hb HW4 G3
        rcases HREL.out with ⟨h1, h2⟩ | ⟨h1, h2⟩ | ⟨h1, h2, h3⟩
        · subst h1
          obtain ⟨rfl, rfl⟩ : sa = false ∧ sc = 0 := by cases h2; exact ⟨rfl, rfl⟩
          clear h2 HREL
          go_wp2
          go_ret
          exact ⟨rfl, HW5.out⟩
        · subst h1
          obtain ⟨rfl, rfl⟩ : sa = true ∧ sc = 0 := by cases h2; exact ⟨rfl, rfl⟩
          clear h2 HREL
          go_wp2
          go_ret
          exact ⟨rfl, HW5.out⟩
        · have e1 : (rc == 0) = false := beq_no h1
          have e2 : (rc == 12) = false := beq_no h2
          obtain ⟨rfl, rfl⟩ : sa = false ∧ sc = rc := by cases h3; exact ⟨rfl, rfl⟩
          clear h3 HREL
          go_wp2
          go_ret
          exact ⟨rfl, HW5.out⟩
end
end Go.Proofs.YthmlejijfgbfbaaGreat
