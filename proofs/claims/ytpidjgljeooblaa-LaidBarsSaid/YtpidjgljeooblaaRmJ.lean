/-
  The reference's legs and hull of a laid bar are the program's.
-/
import Derived.Test.YtpidjgljeooblaaRmI
namespace Go.Proofs.Ytpidjgljeooblaa
open Go.RowKit
set_option linter.unusedVariables false
set_option linter.unusedSimpArgs false
attribute [local go_sem ↓] Go.wp_at_zero Go.wp_at_succ

theorem rhull16_any (v vr : Value) (l : List BarD) (rs : List RunD) (i : Nat) (q : List Pt) (w : World) (hp : Bars w v l) (hr : Runs w vr rs) (hl : l.length ≤ 140737488355328) (h : laidOk l rs = true) (hi : i < cumN rs) (hq : (laidPts l rs)[i]? = some q) :
    Calls Try.prog 18 #[v, vr, .int .i64 (i : Int)] w fun e w' => e = .returned (bxv (hullP q)) ∧ Below w.heap.size w w' := by
  have hb0 := below_new w (.cells #[.int .i64 0, .int .i64 0, .int .i64 0, .int .i64 0, .int .i64 0, .int .i64 0] 33)
  have HP := Lib.hid (rlpts_any v vr l rs i _ (hp.below hb0) (hr.below hb0) hl h hi)
  obtain ⟨n1, n2, n3⟩ := laid_near h hq
  have HQ := Lib.hid hq
  obtain ⟨p, hp0⟩ : ∃ p, q[0]? = some p := ⟨_, List.getElem?_eq_getElem n3⟩
  have HP0 := Lib.hid hp0
  clear hp hr h hi hq n1 n3 hp0
  go_enter Try.func18, Try.ntmps18
  go_wp2_with fail
  refine HP.out.mono ?_
  rintro e w1 ⟨o, q', rfl, HO, hb1⟩
  obtain rfl : q' = q := Option.some.inj (HO.out.1.symm.trans HQ.out)
  have HB1 := Lib.hid (bstep hb0 hb1)
  have HX := Lib.hid ((BlkIs.new w #[.int .i64 0, .int .i64 0, .int .i64 0, .int .i64 0, .int .i64 0, .int .i64 0] 33).below hb1)
  have HH := Lib.hid (rhull_any o q' p w1 (OwnN.fl pt_len HO.out.2) (by omega) HP0.out)
  generalize hR : hullP q' = R at *
  have HRR := Lib.hid hR
  clear hb1 HO hb0 hR
  go_wp2_with fail
  refine HH.out.mono ?_
  rintro e w2 ⟨rfl, hb2⟩
  have HB2 := Lib.hid (bstep HB1.out hb2)
  have hx := HX.out.below hb2
  have e0 := hx.cell 0
  have e1 := hx.cell 1
  have e2 := hx.cell 2
  have e3 := hx.cell 3
  have e4 := hx.cell 4
  have e5 := hx.cell 5
  have ef := hx.free
  clear hb2 hx
  go_wp2
  refine bodyPost_ret (v := bxv R) (by simp [results, Try.results18, go_sem, e0, e1, e2, e3, e4, e5, ef]) rfl ⟨by rw [HRR.out], ?_⟩
  exact HB2.out.grown (grown_set6 _ _ _ _ _ _ _ _) HB2.out.size (fun g e => by cases e; exact Nat.le_refl _)

set_option maxRecDepth 100000 in
set_option maxHeartbeats 4000000 in
theorem rlegs_any (v vr : Value) (l : List BarD) (rs : List RunD) (i : Nat) (q : List Pt) (w : World) (hp : Bars w v l) (hr : Runs w vr rs) (hl : l.length ≤ 140737488355328) (h : laidOk l rs = true) (hi : i < cumN rs) (hq : (laidPts l rs)[i]? = some q) :
    Calls Try.prog 17 #[v, vr, .int .i64 (i : Int)] w fun e w' => ∃ o, e = .returned o ∧ Hid (OwnBxs w' w.heap.size o (legsN q (q.length - 1))) ∧ Below w.heap.size w w' := by
  have HP := Lib.hid (rlpts_any v vr l rs i w hp hr hl h hi)
  obtain ⟨n1, n2, n3⟩ := laid_near h hq
  have HQ := Lib.hid hq
  clear hp hr h hi hq n1
  go_enter Try.func17, Try.ntmps17
  go_wp2_with fail
  refine HP.out.mono ?_
  rintro e w1 ⟨o, q', rfl, HO1, hb1⟩
  obtain rfl : q' = q := Option.some.inj (HO1.out.1.symm.trans HQ.out)
  have HO := Lib.hid HO1.out.2
  obtain ⟨oo, oc, rfl⟩ := OwnN.shape HO1.out.2
  have HB1 := Lib.hid hb1
  clear hb1 HQ HO1
  go_wp2_with fail
  go_loopw [8, 9] (fun o i wr => ∃ t : Nat, t + 1 ≤ q'.length ∧ i = .int .i64 ((t : Int) + 1) ∧ Below w1.heap.size w1 wr ∧ OwnBxs wr w1.heap.size o (legsN q' t)) (fun _ i _ => q'.length - (intOf i).toNat)
  case atStart => exact ⟨0, by omega, rfl, Below.refl _ _, OwnN.nil _ _ _ _ _⟩
  case round =>
    obtain ⟨t, ht, rfl, hBr, hown⟩ := hrel
    by_cases hlt : t + 1 < q'.length
    · obtain ⟨g, gcap, hv, hlt2, hbg⟩ : ∃ g cap, (Value.slice oo q'.length oc) = .slice (some ⟨g, 0, none⟩) q'.length cap ∧ q'.length ≤ cap ∧ g < w1.heap.size := by
        rcases HO.out.2 with ⟨h', h0⟩ | ⟨g, cap', cur, h', hb, hg, hcap, _⟩
        · omega
        · exact ⟨g, cap', h', hcap, (Array.getElem?_eq_some_iff.1 hg).1⟩
      cases hv
      have t0 : (0 : Int) ≤ (t : Int) := Int.natCast_nonneg _
      have t1 : (t : Int) + 1 < (q'.length : Int) := by omega
      have t2 : (t : Int) + 1 + 1 ≤ (oc : Int) := by omega
      have tt1 : decide ((t : Int) + 1 < (q'.length : Int)) = true := dec_yes t1
      have HBr := Lib.hid hBr
      have HOr := Lib.hid hown
      obtain ⟨a, ha⟩ : ∃ y, q'[t]? = some y := ⟨_, List.getElem?_eq_getElem (by omega)⟩
      obtain ⟨b, hb⟩ : ∃ y, q'[t + 1]? = some y := ⟨_, List.getElem?_eq_getElem hlt⟩
      have PS : Hid (Pts wr (.slice (some ⟨g, t * 3, none⟩) (t + 1 + 1 - t) (oc - t)) [a, b]) := by
        have h1 := Fl.drop_ ((OwnN.fl pt_len HO.out).below hBr) t (oc - t) (by omega)
        have h2 := h1.take_ 2 (oc - t) (by omega)
        rw [show (q'.drop t).take 2 = [a, b] from take2 ha hb, Nat.zero_add] at h2
        rw [show t + 1 + 1 - t = 2 by omega]
        exact h2
      have HST : Hid (legsN q' (t + 1) = legsN q' t ++ [legB a b]) := by
        show legsN q' (t + 1) = _
        rw [legsN_succ, List.getD_eq_getElem?_getD, List.getD_eq_getElem?_getD, ha, hb]; rfl
      have HHU := Lib.hid (rhull_any _ [a, b] a wr PS.out (by simp) rfl)
      have HLB : Hid (hullP [a, b] = legB a b) := rfl
      rw [HLB.out] at HHU
      clear hBr hown ha hb
      go_wp2_with fail
      refine HHU.out.mono ?_
      rintro e w6 ⟨rfl, hb6⟩
      generalize legB a b = lg at *
      have HB6 := Lib.hid ((bstep HBr.out hb6).alloc (bstep HBr.out hb6).size (.cells (bxCellsA lg) 33))
      have HOR6 := Lib.hid (OwnN.alloc (OwnN.below HOr.out hb6) (.cells (bxCellsA lg) 33))
      have hl2 : (legsN q' t).length + 1 ≤ 1099511627776 := by rw [legsN_len]; omega
      have hbase : w1.heap.size ≤ w6.heap.size := (bstep HBr.out hb6).size
      have HOR7 := Lib.hid (OwnN.below HOr.out hb6)
      have HB7 := Lib.hid (bstep HBr.out hb6)
      clear hb6 HB6 HOR6
      go_wp2_with (at_builtin; refine wpList_pushAt _ w6.heap.size rfl rfl _ _ 26 rfl 33 6 48 elemBx w1.heap.size bxCells _ _ lg _ rfl rfl (bx_one _) HOR7.out rfl rfl hl2 (by omega) hbase ?_; intro v' w' hown' hg' hat'; have HO9 := Lib.hid hown'; have HB9 := Lib.hid (HB7.out.grown hg' HB7.out.size (fun j hj => (HOR7.out.lt j hj).1)); clear hown' hg' hat')
      go_roundw
      case rel => exact ⟨t + 1, by omega, by go_num, HB9.out, by rw [HST.out]; exact HO9.out⟩
      case measure => simp [intOf]; omega
    · have e : t = q'.length - 1 := by omega
      have hi1 : ¬ (t : Int) + 1 < (q'.length : Int) := by omega
      subst e
      have HOr := Lib.hid hown
      have HBZ := Lib.hid (bstep HB1.out hBr)
      have hz := HB1.out.size
      clear hown hBr
      go_wp2
      go_ret
      exact ⟨_, rfl, OwnN.mono HOr.out hz, HBZ.out⟩
end Go.Proofs.Ytpidjgljeooblaa
