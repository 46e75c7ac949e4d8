/-
  The reference's points, legs, and hull of a laid bar are the program's. The reference's legs and hull of a laid bar are the program's.
-/
import Derived.Test.YtpidjgljeooblaaRmH
import Derived.Test.YtpidjgljeooblaaQbl
namespace Go.Proofs.Ytpidjgljeooblaa
section
open Go.RowKit
set_option linter.unusedVariables false
set_option linter.unusedSimpArgs false
attribute [local go_sem ↓] Go.wp_at_zero Go.wp_at_succ

theorem cumN_mono (rs : List RunD) {a b : Nat} (h : a ≤ b) : cumN (rs.take a) ≤ cumN (rs.take b) := by
  have e : (rs.take b).take a = rs.take a := by rw [List.take_take, Nat.min_eq_left h]
  rw [← e]
  exact cumN_take_le _ _
theorem place_one {rs : List RunD} {i k j k' j' : Nat} {r r' : RunD} (h1 : rs[k]? = some r) (h2 : j < r.count.toNat) (h3 : i = cumN (rs.take k) + j) (h1' : rs[k']? = some r') (h2' : j' < r'.count.toNat) (h3' : i = cumN (rs.take k') + j') : k' = k ∧ j' = j := by
  have key : ∀ {k j k' j' : Nat} {r r' : RunD}, rs[k]? = some r → j < r.count.toNat → i = cumN (rs.take k) + j → i = cumN (rs.take k') + j' → ¬ k < k' := by
    intro k j k' j' r r' h1 h2 h3 h4 hlt
    have h5 := cumN_mono rs (show k + 1 ≤ k' from hlt)
    rw [cumN_snoc h1] at h5
    omega
  have e : k' = k := by
    have a := key (r' := r') h1 h2 h3 h3'
    have b := key (r' := r) h1' h2' h3' h3
    omega
  subst e
  exact ⟨rfl, by omega⟩

set_option maxHeartbeats 2000000 in
theorem rbar_any (bb off cap : Nat) (vr : Value) (l : List BarD) (rs : List RunD) (i k j : Nat) (r : RunD) (b : BarD) (uo : Option Addr) (uc : Nat) (t : Nat) (w : World) (hp : Bars w (.slice (some ⟨bb, off, none⟩) l.length cap) l) (hr : Runs w vr rs) (hl : l.length ≤ 140737488355328) (hlr : rs.length ≤ 60) (hs : ∀ r ∈ rs, 1 ≤ r.count ∧ r.count ≤ 1000)
    (hi : i < cumN rs) (hi2 : i ≤ 1000000) (hk : rs[k]? = some r) (hj : j < r.count.toNat) (hij : i = cumN (rs.take k) + j) (ht : findZ l r.mark = (t : Int)) (hb : l[t]? = some b)
    (hc : w.cell? ⟨bb, off + t * 5 + 4, none⟩ = some (.slice uo b.dims.length uc)) :
    Calls Try.prog 25 #[.slice (some ⟨bb, off, none⟩) l.length cap, vr, .int .i64 (i : Int)] w fun e w' => e = .returned (barv b (.slice uo b.dims.length uc)) ∧ Below w.heap.size w w' := by
  obtain ⟨ro, rcap, rfl⟩ := hr.at_
  have hb0 := below_new w (.cells #[.string ⟨#[]⟩, .int .i64 0, .int .i64 0, .int .i64 0, .slice none 0 0] 54)
  have HPL := Lib.hid (rplace_any (.slice ro rs.length rcap) rs i _ (hr.below hb0) (by omega) hs hi hi2)
  have HFI := Lib.hid (rfind_any (.slice (some ⟨bb, off, none⟩) l.length cap) l r.mark _ (hp.below hb0) hl)
  have HU : Hid (∀ (k' j' : Nat) (r' : RunD), rs[k']? = some r' → j' < r'.count.toNat → i = cumN (rs.take k') + j' → k' = k) := fun k' j' r' a1 a2 a3 => (place_one hk hj hij a1 a2 a3).1
  obtain ⟨b', off', e, hbl, q0, q1, q2, q3, uo', uc', q4, hdx⟩ := bars_get hp hb
  cases e
  rw [q4] at hc
  cases hc
  obtain ⟨rb, roff, rfl, hrl, g0, g1, g2, g3, g4, g5, g6, g7, g8, g9⟩ := runs_get hr hk
  have htl := (List.getElem?_eq_some_iff.1 hb).1
  have hkl := (List.getElem?_eq_some_iff.1 hk).1
  have i0 : (0 : Int) ≤ (k : Int) := by omega
  have i1 : (k : Int) < (rs.length : Int) := by omega
  have j0 : (0 : Int) ≤ (t : Int) := by omega
  have j1 : (t : Int) < (l.length : Int) := by omega
  rw [ht] at HFI
  clear hp hr hs hi hij hk ht hb hdx g1 g2 g3 g4 g5 g6 g7 g8 g9 hb0 hj
  go_enter Try.func25, Try.ntmps25
  go_wp2_with fail
  refine HPL.out.mono ?_
  rintro e w1 ⟨k', j', r', rfl, hk', hj', hi', rfl⟩
  obtain rfl : k' = k := HU.out k' j' r' hk' hj' hi'
  clear hk' hj' hi'
  go_wp2_with fail
  refine HFI.out.mono ?_
  rintro e w2 ⟨rfl, rfl⟩
  go_wp2
  exact bodyPost_ret (v := barv b (.slice uo b.dims.length uc)) (by simp [results, Try.results25, go_sem]) rfl ⟨rfl, by go_grown⟩

abbrev RunTen (b o : Nat) (r : RunD) (W : World) : Prop :=
  W.cell? ⟨b, o, none⟩ = some (.string r.mark) ∧ W.cell? ⟨b, o + 1, none⟩ = some (.int .i64 r.tx) ∧ W.cell? ⟨b, o + 2, none⟩ = some (.int .i64 r.ty) ∧ W.cell? ⟨b, o + 3, none⟩ = some (.int .i64 r.at_.x) ∧ W.cell? ⟨b, o + 4, none⟩ = some (.int .i64 r.at_.y) ∧ W.cell? ⟨b, o + 5, none⟩ = some (.int .i64 r.at_.z) ∧
  W.cell? ⟨b, o + 6, none⟩ = some (.int .i64 r.step.x) ∧ W.cell? ⟨b, o + 7, none⟩ = some (.int .i64 r.step.y) ∧ W.cell? ⟨b, o + 8, none⟩ = some (.int .i64 r.step.z) ∧ W.cell? ⟨b, o + 9, none⟩ = some (.int .i64 r.count)

set_option maxHeartbeats 4000000 in
theorem rlpts_any (v vr : Value) (l : List BarD) (rs : List RunD) (i : Nat) (w : World) (hp : Bars w v l) (hr : Runs w vr rs) (hl : l.length ≤ 140737488355328) (h : laidOk l rs = true) (hi : i < cumN rs) :
    Calls Try.prog 45 #[v, vr, .int .i64 (i : Int)] w fun e w' => ∃ o q, e = .returned o ∧ Hid ((laidPts l rs)[i]? = some q ∧ OwnPts w' w.heap.size o q) ∧ Below w.heap.size w w' := by
  obtain ⟨q1, q2, q3, q4⟩ := laidOk_parts h
  have hs : ∀ r ∈ rs, 1 ≤ r.count ∧ r.count ≤ 1000 := fun r hm => right_count (q3 r hm)
  have hi2 : i ≤ 1000000 := by
    have := cumN_sum (fun r hm => (hs r hm).1)
    omega
  obtain ⟨ao, cap, rfl⟩ := hp.at_
  obtain ⟨ro, rcap, rfl⟩ := hr.at_
  have HPL := Lib.hid (rplace_any (.slice ro rs.length rcap) rs i w hr (by omega) hs hi hi2)
  have HH := Lib.hid h
  have HPP := Lib.hid hp
  have HRR := Lib.hid hr
  have HS := Lib.hid hs
  have HI := Lib.hid hi
  clear hp hr h hs hi q1 q3 q4
  go_enter Try.func45, Try.ntmps45
  go_wp2_with fail
  refine HPL.out.mono ?_
  rintro e w1 ⟨k, j, r, rfl, hk, hj, hij, rfl⟩
  obtain ⟨b, line, ok, turn, hat, c1, c2, hst, hpts⟩ := laid_place HH.out hk hj
  obtain ⟨t, ht, hb, _⟩ := lineOf_some line
  obtain ⟨bb, off, rfl, hbl, x0, x1, x2, x3, uo, uc, x4, hdx⟩ := bars_get HPP.out hb
  obtain ⟨rb, roff, rfl, hrl, g0, g1, g2, g3, g4, g5, g6, g7, g8, g9⟩ := runs_get HRR.out hk
  have HB := Lib.hid (fun W (hW : Below w.heap.size w W) => rbar_any bb off cap _ l rs i k j r b uo uc t W (HPP.out.below hW) (HRR.out.below hW) hl q2 HS.out HI.out hi2 hk hj hij ht hb ((hW.cell hbl).trans x4))
  have HPT := Lib.hid (fun W (hW : Below w.heap.size w W) => rpoints_any b (.slice uo b.dims.length uc) r (j : Int) W (Sl.below hdx hW) ok turn hat (by omega) (by omega) (fun h => hst (by omega)))
  have HQ : Hid ((laidPts l rs)[i]? = some (rptsOf b r j)) := by rw [hij]; exact hpts
  have d0 := fun d os => cell_regrown g0 d os
  have d1 := fun d os => cell_regrown g1 d os
  have d2 := fun d os => cell_regrown g2 d os
  have d3 := fun d os => cell_regrown g3 d os
  have d4 := fun d os => cell_regrown g4 d os
  have d5 := fun d os => cell_regrown g5 d os
  have d6 := fun d os => cell_regrown g6 d os
  have d7 := fun d os => cell_regrown g7 d os
  have d8 := fun d os => cell_regrown g8 d os
  have d9 := fun d os => cell_regrown g9 d os
  have hkl := (List.getElem?_eq_some_iff.1 hk).1
  have i0 : (0 : Int) ≤ (k : Int) := by omega
  have i1 : (k : Int) < (rs.length : Int) := by omega
  clear hk hj hij line ok turn hat c1 c2 hst hpts ht hb x0 x1 x2 x3 x4 hdx g0 g1 g2 g3 g4 g5 g6 g7 g8 g9 HPL HH HPP HRR HS HI
  go_upto_region 2 with fail
  refine wp_region_below_tail 9 (by kernel_rfl) (by kernel_rfl) ?_
  simp only [List.take_succ_cons, List.take_zero, List.drop_succ_cons, List.drop_zero]
  repeat (go_big_quiet_step ((first
    | (go_at_call 25; exact Calls.regrown_of (HB.out _ (below_regrown _ _ _))))))
  refine wpQuiet_nil ?_
  intro _ hw'
  obtain ⟨⟨nq, osq⟩, hw''⟩ := hw'
  subst hw''
  have HB2 : Hid (Below w.heap.size w (Go.Sort.grow (redrawn w nq) osq)) := below_regrown w nq osq
  clear d0 d1 d2 d3 d4 d5 d6 d7 d8 d9 HB
  generalize Go.Sort.grow (redrawn w nq) osq = W2 at *
  go_wp2_with fail
  refine (HPT.out _ HB2.out).mono ?_
  rintro e w3 ⟨o, rfl, HO, hb3⟩
  have HB3 := Lib.hid (bstep HB2.out hb3)
  have hz := HB2.out.size
  clear hb3
  go_wp2
  go_ret
  exact ⟨_, _, rfl, ⟨HQ.out, HO.out.mono hz⟩, HB3.out⟩
end

section
open Go.RowKit
set_option linter.unusedVariables false
set_option linter.unusedSimpArgs false
attribute [local go_sem ↓] Go.wp_at_zero Go.wp_at_succ

theorem rhull16_any (v vr : Value) (l : List BarD) (rs : List RunD) (i : Nat) (q : List Pt) (w : World) (hp : Bars w v l) (hr : Runs w vr rs) (hl : l.length ≤ 140737488355328) (h : laidOk l rs = true) (hi : i < cumN rs) (hq : (laidPts l rs)[i]? = some q) :
    Calls Try.prog 18 #[v, vr, .int .i64 (i : Int)] w fun e w' => e = .returned (bxv (hullP q)) ∧ Below w.heap.size w w' := by
  have hb0 := below_new w (.cells #[.int .i64 0, .int .i64 0, .int .i64 0, .int .i64 0, .int .i64 0, .int .i64 0] 33)
  have HP := Lib.hid (rlpts_any v vr l rs i _ (hp.below hb0) (hr.below hb0) hl h hi)
  obtain ⟨n1, n2, n3⟩ := laid_near h hq
  have HQ := Lib.hid hq
  obtain ⟨p, hp0⟩ : ∃ p, q[0]? = some p := ⟨_, List.getElem?_eq_getElem n3⟩
  have HP0 := Lib.hid hp0
  clear hp hr h hi hq n1 n3 hp0
  go_enter Try.func18, Try.ntmps18
  go_wp2_with fail
  refine HP.out.mono ?_
  rintro e w1 ⟨o, q', rfl, HO, hb1⟩
  obtain rfl : q' = q := Option.some.inj (HO.out.1.symm.trans HQ.out)
  have HB1 := Lib.hid (bstep hb0 hb1)
  have HX := Lib.hid ((BlkIs.new w #[.int .i64 0, .int .i64 0, .int .i64 0, .int .i64 0, .int .i64 0, .int .i64 0] 33).below hb1)
  have HH := Lib.hid (rhull_any o q' p w1 (OwnN.fl pt_len HO.out.2) (by omega) HP0.out)
  generalize hR : hullP q' = R at *
  have HRR := Lib.hid hR
  clear hb1 HO hb0 hR
  go_wp2_with fail
  refine HH.out.mono ?_
  rintro e w2 ⟨rfl, hb2⟩
  have HB2 := Lib.hid (bstep HB1.out hb2)
  have hx := HX.out.below hb2
  have e0 := hx.cell 0
  have e1 := hx.cell 1
  have e2 := hx.cell 2
  have e3 := hx.cell 3
  have e4 := hx.cell 4
  have e5 := hx.cell 5
  have ef := hx.free
  clear hb2 hx
  go_wp2
  refine bodyPost_ret (v := bxv R) (by simp [results, Try.results18, go_sem, e0, e1, e2, e3, e4, e5, ef]) rfl ⟨by rw [HRR.out], ?_⟩
  exact HB2.out.grown (grown_set6 _ _ _ _ _ _ _ _) HB2.out.size (fun g e => by cases e; exact Nat.le_refl _)

set_option maxRecDepth 100000 in
set_option maxHeartbeats 4000000 in
theorem rlegs_any (v vr : Value) (l : List BarD) (rs : List RunD) (i : Nat) (q : List Pt) (w : World) (hp : Bars w v l) (hr : Runs w vr rs) (hl : l.length ≤ 140737488355328) (h : laidOk l rs = true) (hi : i < cumN rs) (hq : (laidPts l rs)[i]? = some q) :
    Calls Try.prog 17 #[v, vr, .int .i64 (i : Int)] w fun e w' => ∃ o, e = .returned o ∧ Hid (OwnBxs w' w.heap.size o (legsN q (q.length - 1))) ∧ Below w.heap.size w w' := by
  have HP := Lib.hid (rlpts_any v vr l rs i w hp hr hl h hi)
  obtain ⟨n1, n2, n3⟩ := laid_near h hq
  have HQ := Lib.hid hq
  clear hp hr h hi hq n1
  go_enter Try.func17, Try.ntmps17
  go_wp2_with fail
  refine HP.out.mono ?_
  rintro e w1 ⟨o, q', rfl, HO1, hb1⟩
  obtain rfl : q' = q := Option.some.inj (HO1.out.1.symm.trans HQ.out)
  have HO := Lib.hid HO1.out.2
  obtain ⟨oo, oc, rfl⟩ := OwnN.shape HO1.out.2
  have HB1 := Lib.hid hb1
  clear hb1 HQ HO1
  go_wp2_with fail
  go_loopw [8, 9] (fun o i wr => ∃ t : Nat, t + 1 ≤ q'.length ∧ i = .int .i64 ((t : Int) + 1) ∧ Below w1.heap.size w1 wr ∧ OwnBxs wr w1.heap.size o (legsN q' t)) (fun _ i _ => q'.length - (intOf i).toNat)
  case atStart => exact ⟨0, by omega, rfl, Below.refl _ _, OwnN.nil _ _ _ _ _⟩
  case round =>
    obtain ⟨t, ht, rfl, hBr, hown⟩ := hrel
    by_cases hlt : t + 1 < q'.length
    · obtain ⟨g, gcap, hv, hlt2, hbg⟩ : ∃ g cap, (Value.slice oo q'.length oc) = .slice (some ⟨g, 0, none⟩) q'.length cap ∧ q'.length ≤ cap ∧ g < w1.heap.size := by
        rcases HO.out.2 with ⟨h', h0⟩ | ⟨g, cap', cur, h', hb, hg, hcap, _⟩
        · omega
        · exact ⟨g, cap', h', hcap, (Array.getElem?_eq_some_iff.1 hg).1⟩
      cases hv
      have t0 : (0 : Int) ≤ (t : Int) := Int.natCast_nonneg _
      have t1 : (t : Int) + 1 < (q'.length : Int) := by omega
      have t2 : (t : Int) + 1 + 1 ≤ (oc : Int) := by omega
      have tt1 : decide ((t : Int) + 1 < (q'.length : Int)) = true := dec_yes t1
      have HBr := Lib.hid hBr
      have HOr := Lib.hid hown
      obtain ⟨a, ha⟩ : ∃ y, q'[t]? = some y := ⟨_, List.getElem?_eq_getElem (by omega)⟩
      obtain ⟨b, hb⟩ : ∃ y, q'[t + 1]? = some y := ⟨_, List.getElem?_eq_getElem hlt⟩
      have PS : Hid (Pts wr (.slice (some ⟨g, t * 3, none⟩) (t + 1 + 1 - t) (oc - t)) [a, b]) := by
        have h1 := Fl.drop_ ((OwnN.fl pt_len HO.out).below hBr) t (oc - t) (by omega)
        have h2 := h1.take_ 2 (oc - t) (by omega)
        rw [show (q'.drop t).take 2 = [a, b] from take2 ha hb, Nat.zero_add] at h2
        rw [show t + 1 + 1 - t = 2 by omega]
        exact h2
      have HST : Hid (legsN q' (t + 1) = legsN q' t ++ [legB a b]) := by
        show legsN q' (t + 1) = _
        rw [legsN_succ, List.getD_eq_getElem?_getD, List.getD_eq_getElem?_getD, ha, hb]; rfl
      have HHU := Lib.hid (rhull_any _ [a, b] a wr PS.out (by simp) rfl)
      have HLB : Hid (hullP [a, b] = legB a b) := rfl
      rw [HLB.out] at HHU
      clear hBr hown ha hb
      go_wp2_with fail
      refine HHU.out.mono ?_
      rintro e w6 ⟨rfl, hb6⟩
      generalize legB a b = lg at *
      have HB6 := Lib.hid ((bstep HBr.out hb6).alloc (bstep HBr.out hb6).size (.cells (bxCellsA lg) 33))
      have HOR6 := Lib.hid (OwnN.alloc (OwnN.below HOr.out hb6) (.cells (bxCellsA lg) 33))
      have hl2 : (legsN q' t).length + 1 ≤ 1099511627776 := by rw [legsN_len]; omega
      have hbase : w1.heap.size ≤ w6.heap.size := (bstep HBr.out hb6).size
      have HOR7 := Lib.hid (OwnN.below HOr.out hb6)
      have HB7 := Lib.hid (bstep HBr.out hb6)
      clear hb6 HB6 HOR6
      go_wp2_with (at_builtin; refine wpList_pushAt _ w6.heap.size rfl rfl _ _ 26 rfl 33 6 48 elemBx w1.heap.size bxCells _ _ lg _ rfl rfl (bx_one _) HOR7.out rfl rfl hl2 (by omega) hbase ?_; intro v' w' hown' hg' hat'; have HO9 := Lib.hid hown'; have HB9 := Lib.hid (HB7.out.grown hg' HB7.out.size (fun j hj => (HOR7.out.lt j hj).1)); clear hown' hg' hat')
      go_roundw
      case rel => exact ⟨t + 1, by omega, by go_num, HB9.out, by rw [HST.out]; exact HO9.out⟩
      case measure => simp [intOf]; omega
    · have e : t = q'.length - 1 := by omega
      have hi1 : ¬ (t : Int) + 1 < (q'.length : Int) := by omega
      subst e
      have HOr := Lib.hid hown
      have HBZ := Lib.hid (bstep HB1.out hBr)
      have hz := HB1.out.size
      clear hown hBr
      go_wp2
      go_ret
      exact ⟨_, rfl, OwnN.mono HOr.out hz, HBZ.out⟩
end
end Go.Proofs.Ytpidjgljeooblaa
