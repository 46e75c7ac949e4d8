/-
  The walk of SequencePlaced (printed by wip/gen_Sqp.py).
-/
import Derived.Test.YthmlejijfgbfbaaGreatSqh
namespace Go.Proofs.YthmlejijfgbfbaaGreat
section
open Go.RowKit
set_option linter.unusedVariables false
set_option linter.unusedSimpArgs false
attribute [local go_sem ↓] Go.wp_at_zero Go.wp_at_succ

/-- With no sequence found by Free none is right. -/
theorem placed_no {l : List BarD} {rs : List RunD} (h : laidOk l rs = false ∨ freeTo (lgsOf l rs) (szsOf l rs) (lgsOf l rs).length (lgsOf l rs).length = none) (X q : List Int) :
    (sqChk (sqC l rs X) (lgsOf l rs).length (sqEs l rs X) q).2 = 0 → (sqChk (sqC l rs X) (lgsOf l rs).length (sqEs l rs X) q).1 = false := by
  unfold sqChk
  by_cases hc : sqC l rs X = 0
  · rw [if_pos hc]
    obtain ⟨hok, he⟩ := sqC_zero hc
    rcases h with h | h
    · rw [hok] at h; cases h
    · intro h2
      have := free_none h (X := X) (l := q) he
      cases hb : (chkRes (lgsOf l rs).length (sqEs l rs X) q).1 with
      | false => rfl
      | true => exact absurd (Prod.ext hb h2) this
  · rw [if_neg hc]
    intro _
    rfl
theorem placed_yes {l : List BarD} {rs : List RunD} {s : FrS} (hok : laidOk l rs = true) (h14 : (lgsOf l rs).length ≤ 14) (h : freeTo (lgsOf l rs) (szsOf l rs) (lgsOf l rs).length (lgsOf l rs).length = some s) :
    sqChk (sqC l rs s.ax) (lgsOf l rs).length (sqEs l rs s.ax) (ntI s.ord.reverse) = (true, 0) := by
  obtain ⟨h1, h2⟩ := free_right h (by omega)
  have hc : sqC l rs s.ax = 0 := by
    unfold sqC allE
    rw [hok, h1]
    rfl
  unfold sqChk
  rw [if_pos hc]
  exact h2
/-- What Free answers, in one. -/
theorem sfree_any (v vr : Value) (l : List BarD) (rs : List RunD) (w : World) (hA : SqA w v vr l rs) :
    ((laidOk l rs = false ∨ freeTo (lgsOf l rs) (szsOf l rs) (lgsOf l rs).length (lgsOf l rs).length = none) ∧ ∃ er : Int, (er = 1 ∨ er = 23) ∧ (er = 1 ↔ laidOk l rs = false) ∧ ∀ W, Below w.heap.size w W → Calls Tryz.prog 46 #[v, vr] W fun e w' => e = .returned (.tuple #[.slice none 0 0, .slice none 0 0, .int .i64 er]) ∧ Below W.heap.size W w') ∨
    (laidOk l rs = true ∧ ∃ s, freeTo (lgsOf l rs) (szsOf l rs) (lgsOf l rs).length (lgsOf l rs).length = some s ∧ ∀ W, Below w.heap.size w W → Calls Tryz.prog 46 #[v, vr] W fun e w' => ∃ o a, e = .returned (.tuple #[o, a, .int .i64 0]) ∧ Own w' W.heap.size 3 natf o s.ord.reverse ∧ Own w' W.heap.size 3 intf a s.ax ∧ Below W.heap.size W w') := by
  cases hok : laidOk l rs with
  | false => exact .inl ⟨.inl rfl, 1, .inl rfl, by simp, fun W hW => sfree_bad v vr l rs W (hA.below hW) hok⟩
  | true =>
    cases hf : freeTo (lgsOf l rs) (szsOf l rs) (lgsOf l rs).length (lgsOf l rs).length with
    | none =>
      refine .inl ⟨.inr rfl, 23, .inr rfl, by simp, fun W hW => (sfree_good v vr l rs W (hA.below hW) hok).mono ?_⟩
      rintro e w' (⟨s, o, a, h1, _⟩ | ⟨_, h2, h3⟩)
      · rw [hf] at h1; cases h1
      · exact ⟨h2, h3⟩
    | some s =>
      refine .inr ⟨rfl, s, rfl, fun W hW => (sfree_good v vr l rs W (hA.below hW) hok).mono ?_⟩
      rintro e w' (⟨s', o, a, h1, h2, h3, h4, h5⟩ | ⟨h1, _⟩)
      · rw [hf] at h1; cases h1; exact ⟨o, a, h2, h3, h4, h5⟩
      · rw [hf] at h1; cases h1
set_option maxRecDepth 100000 in
set_option maxHeartbeats 8000000 in
theorem sequencePlaced_walk (w : World) (v : Value) (l : List BarD) (hp : Bars w v l) (hf : FitB l) (hl : l.length * 64 ≤ 140737488351232) (vr : Value) (rs : List RunD) (hr : Runs w vr rs) (hm : ∀ r ∈ rs, r.mark.size ≤ maxLen) (hlr : rs.length * 88 ≤ 140737488351232)
    (xv : Value) (X : List Int) (hx : Ints w xv X) (hlx : X.length * 8 ≤ 140737488351232) (wx : ∀ x ∈ X, (Lit.int .i64 x).wf = true)
    (qv : Value) (q : List Int) (hq : Ints w qv q) (hlq : q.length * 8 ≤ 140737488351232) (wq : ∀ x ∈ q, (Lit.int .i64 x).wf = true) (hcp : Caps qv) :
    Calls Tryz.prog 12 #[v, vr, xv, qv] w fun en w' => en = .returned (.bool true) ∧ Below w.heap.size w w' := by
  have hl2 : l.length ≤ 140737488355328 := by omega
  have hlr2 : rs.length ≤ 140737488355328 := by omega
  have HP := Lib.hid hp
  have HR := Lib.hid hr
  have HFI := Lib.hid hf
  have HX := Lib.hid hx
  obtain ⟨xo, xc, rfl⟩ := Sl.at_ hx
  have HQ := Lib.hid hq
  have HCP := Lib.hid hcp
  obtain ⟨qo, qc, rfl⟩ := Sl.at_ hq
  have HSM := Lib.hid (fun W (hW : Below w.heap.size w W) => ssmall_any v vr l rs W (hp.below hW) (hr.below hW) hl2 hlr2)
  clear hp hr hf hl hlr hm wx hx hq wq hcp
  by_cases h70 : 70 < X.length
  · have d1 : decide ((70 : Int) < (X.length : Int)) = true := dec_yes (by omega)
    have d2 : decide (70 < X.length) = true := dec_yes h70
    go_enter Tryz.func12, Tryz.ntmps12
    go_wp2_with fail
    refine (sawake_any _).mono ?_
    rintro en w1 ⟨rfl, hb1⟩
    have HW1 := Lib.hid hb1
    clear hb1
    go_wp2_with fail
    refine (HSM.out _ HW1.out).mono ?_
    rintro en w2 ⟨b, rfl, hb2, hq2⟩
    have HW2 := Lib.hid (bstep HW1.out hb2)
    have HQ2 := Lib.hid hq2
    clear hb2 hq2 HW1 HSM
    cases b
    all_goals
      go_wp2
      go_ret
      exact ⟨rfl, HW2.out⟩
  · have d1 : decide ((70 : Int) < (X.length : Int)) = false := dec_no (by omega)
    have d2 : decide (70 < X.length) = false := dec_no h70
    by_cases h71 : 70 < q.length
    · have d3 : decide ((70 : Int) < (q.length : Int)) = true := dec_yes (by omega)
      have d4 : decide (70 < q.length) = true := dec_yes h71
      go_enter Tryz.func12, Tryz.ntmps12
      go_wp2_with fail
      refine (sawake_any _).mono ?_
      rintro en w1 ⟨rfl, hb1⟩
      have HW1 := Lib.hid hb1
      clear hb1
      go_wp2_with fail
      refine (HSM.out _ HW1.out).mono ?_
      rintro en w2 ⟨b, rfl, hb2, hq2⟩
      have HW2 := Lib.hid (bstep HW1.out hb2)
      have HQ2 := Lib.hid hq2
      clear hb2 hq2 HW1 HSM
      cases b
      all_goals
        go_wp2
        go_ret
        exact ⟨rfl, HW2.out⟩
    · have d3 : decide ((70 : Int) < (q.length : Int)) = false := dec_no (by omega)
      have d4 : decide (70 < q.length) = false := dec_no h71
      go_enter Tryz.func12, Tryz.ntmps12
      go_wp2_with fail
      refine (sawake_any _).mono ?_
      rintro en w1 ⟨rfl, hb1⟩
      have HW1 := Lib.hid hb1
      clear hb1
      go_wp2_with fail
      refine (HSM.out _ HW1.out).mono ?_
      rintro en w2 ⟨b, rfl, hb2, hq2⟩
      have HW2 := Lib.hid (bstep HW1.out hb2)
      have HQ2 := Lib.hid hq2
      clear hb2 hq2 HW1 HSM
      cases b
      · go_wp2
        go_ret
        exact ⟨rfl, HW2.out⟩
      · have HA : Hid (SqA w v vr l rs) := ⟨HP.out, HR.out, hl2, hlr2, HFI.out, fun hok => fewN hok (HQ2.out (by simp))⟩
        have hx5 : X.length ≤ 140737488355328 := by omega
        have hq5 : q.length ≤ 140737488355328 := by omega
        have G1 := Lib.hid (fun W (hW : Below w.heap.size w W) => scheck_any v vr (.slice xo X.length xc) (.slice qo q.length qc) X q l rs W (HA.out.below hW) (HX.out.below hW) hx5 (HQ.out.below hW) hq5)
        rcases sfree_any v vr l rs w HA.out with ⟨hno, er, her, hiff, hF⟩ | ⟨hok, s, hs, hF⟩
        · have HF := Lib.hid hF
          have HREL := Lib.hid (placed_no hno X q)
          unfold sqEs sqC at *
          generalize sqChk (allE (laidOk l rs) (lgsOf l rs).length X) (lgsOf l rs).length (edN (lgsOf l rs) (szsOf l rs) X (lgsOf l rs).length) q = S at *
          obtain ⟨sa, sc⟩ := S
          simp only at G1 HREL
          clear hno hF hiff
          have e0 : Hid (((sc != 0) = true) ∨ ((sc != 0) = false ∧ sa = false)) := by
            unfold Hid
            by_cases h : sc = 0
            · exact .inr ⟨bne_no h, HREL.out h⟩
            · exact .inl (bne_yes h)
          rcases her with rfl | rfl
          all_goals
            go_wp2_with fail
            refine (HF.out _ HW2.out).mono ?_
            rintro en w3 ⟨rfl, hb⟩
            have HW3 := Lib.hid (bstep HW2.out hb)
            clear hb
            go_wp2_with fail
            refine (G1.out _ HW3.out).mono ?_
            rintro en w4 ⟨rfl, hb⟩
            have HW4 := Lib.hid (bstep HW3.out hb)
            clear hb
            rcases e0.out with h1 | ⟨h1, h2⟩
            · go_wp2
              go_ret
              exact ⟨rfl, HW4.out⟩
            · subst h2
              go_wp2
              go_ret
              exact ⟨rfl, HW4.out⟩
        · have h14 := HA.out.h14 hok
          have HF := Lib.hid hF
          have HI := Lib.hid (frI_all _ s hs)
          have HYS := Lib.hid (placed_yes hok h14 hs)
          have G4 := Lib.hid (fun ov xv2 W (hW : Below w.heap.size w W) (hx2 : Ints W xv2 s.ax) (hl2 : s.ax.length ≤ 140737488355328) (ho : Ints W ov (ntI s.ord.reverse)) (hlo : (ntI s.ord.reverse).length ≤ 140737488355328) => scheck_any v vr xv2 ov s.ax (ntI s.ord.reverse) l rs W (HA.out.below hW) hx2 hl2 ho hlo)
          rw [HYS.out] at G4
          simp only at G4
          have HL1 : Hid (s.ax.length ≤ 140737488355328 ∧ (ntI s.ord.reverse).length ≤ 140737488355328) := by
            have := HI.out.alen
            have := HI.out.olen
            refine ⟨by omega, ?_⟩
            rw [ntI_len, List.length_reverse]
            omega
          generalize sqChk (sqC l rs X) (lgsOf l rs).length (sqEs l rs X) q = S at *
          obtain ⟨sa, sc⟩ := S
          simp only at G1
          clear hok hs hF h14
          go_wp2_with fail
          refine (HF.out _ HW2.out).mono ?_
          rintro en w3 ⟨o, a, rfl, ho, ha, hb⟩
          have HW3 := Lib.hid (bstep HW2.out hb)
          obtain ⟨oo, oc, rfl⟩ := ho.shape
          obtain ⟨ao, ac, rfl⟩ := ha.shape
          have HO := Lib.hid ho.sl.ints'
          have HAX := Lib.hid (ha.sl : Ints w3 _ s.ax)
          clear hb ho ha
          generalize s.ord.reverse.length = rl at *
          generalize s.ax.length = al at *
          go_wp2_with fail
          refine (G1.out _ HW3.out).mono ?_
          rintro en w4 ⟨rfl, hb⟩
          have HW4 := Lib.hid (bstep HW3.out hb)
          have G5 := Lib.hid (G4.out _ _ w4 HW4.out (HAX.out.below hb) HL1.out.1 (HO.out.below hb) HL1.out.2)
          clear hb G4
          go_wp2_with fail
          refine G5.out.mono ?_
          rintro en w5 ⟨rfl, hb⟩
          have HW5 := Lib.hid (bstep HW4.out hb)
          clear hb
          go_wp2
          go_ret
          exact ⟨rfl, HW5.out⟩
end
end Go.Proofs.YthmlejijfgbfbaaGreat
