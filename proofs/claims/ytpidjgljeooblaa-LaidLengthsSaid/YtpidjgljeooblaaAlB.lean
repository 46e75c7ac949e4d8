/-
  The walk through the iterator over all laid bars.
-/
import Derived.Test.YtpidjgljeooblaaAlA
import Derived.Deep.RegionHeld3
import Derived.Deep.DrawnRows
import Derived.StillTailTactics
namespace Go.Proofs.Ytpidjgljeooblaa
open Go.RowKit Go.Shelf
set_option linter.unusedVariables false
set_option linter.unusedSimpArgs false
attribute [local go_sem ↓] Go.wp_at_zero Go.wp_at_succ
attribute [local go_sem] Oper.semAt_some

theorem set_next1 {T ps : List Pt} {f : Pt → Pt} {j : Nat} {p q : Pt} (hl : ps.length = T.length) (h : ∀ (t : Nat) p, t < j → T[t]? = some p → ps[t]? = some (f p)) (hy : T[j]? = some p) (hq : f p = q) :
    (ps.set j q).length = T.length ∧ ∀ (t : Nat) p, t < j + 1 → T[t]? = some p → (ps.set j q)[t]? = some (f p) := by
  refine ⟨by rw [List.length_set]; exact hl, fun t z ht hz => ?_⟩
  by_cases e : t = j
  · subst e
    rw [hy] at hz; cases hz
    rw [List.getElem?_set_self (by have := (List.getElem?_eq_some_iff.1 hy).1; omega), hq]
  · rw [List.getElem?_set_ne (by omega)]
    exact h t z (by omega) hz
theorem set_next {T ps : List Pt} {f : Pt → Pt} {j : Nat} {p q : Pt} (hl : ps.length = T.length) (h : ∀ (t : Nat) p, t < j → T[t]? = some p → ps[t]? = some (f p)) (hy : T[j]? = some p) (q1 : Pt) (hq : f p = q) :
    ((ps.set j q1).set j q).length = T.length ∧ ∀ (t : Nat) p, t < j + 1 → T[t]? = some p → ((ps.set j q1).set j q)[t]? = some (f p) := by
  rw [List.set_set]
  exact set_next1 hl h hy hq
theorem eq_map {T ps : List Pt} {f : Pt → Pt} (hl : ps.length = T.length) (h : ∀ (t : Nat) p, T[t]? = some p → ps[t]? = some (f p)) : ps = T.map f := by
  apply List.ext_getElem?
  intro t
  rw [List.getElem?_map]
  rcases Nat.lt_or_ge t T.length with ht | ht
  · rw [List.getElem?_eq_getElem ht, h t _ (List.getElem?_eq_getElem ht)]; rfl
  · rw [List.getElem?_eq_none (by omega), List.getElem?_eq_none ht]; rfl
theorem plus_keep {W W9 : World} {G base n cap : Nat} {ps : List Pt} (h : OwnPts W base (.slice (some ⟨G, 0, none⟩) n cap) ps) (hb : Below W.heap.size W W9) : OwnPts W9 base (.slice (some ⟨G, 0, none⟩) n cap) ps := OwnN.below h hb

set_option maxRecDepth 100000 in
set_option maxHeartbeats 8000000 in
theorem all1_told (n : Nat) (hn : 1 ≤ n) (l : List BarD) (rs : List RunD) (v vr : Value) (w : World) (RB BB : Nat) (hRB : BlkIs w RB 23 #[vr]) (hBB : BlkIs w BB 22 #[v]) (hp : Bars w v l) (hr : Runs w vr rs)
    (hl : l.length ≤ 140737488355328) (hlr : rs.length ≤ 60) (hf : FitB l) (hs : schedOk l = true) (hall : ∀ r ∈ rs, rightB l r = true) :
    Tells Fence.wide n Try.prog 80 #[.pointer (some ⟨RB, 0, none⟩), .pointer (some ⟨BB, 0, none⟩)] (fun x : Nat × Value => #[.int .i64 (x.1 : Int), x.2]) Kc (Told l rs w.heap.size) (fun xs => xs.map Prod.fst = List.range (cumN rs)) (fun _ => True) w := by
  intro L J Jx W hW hJ hY h0
  refine callsIn_wide.2 ?_
  have HJ : Hid (∀ s A B, J s A → Below A.heap.size A B → J s B) := fun s A B h hb => hJ s A B none h ⟨hb.os, hb.tape, hb.output, hb.size, fun i hi _ => hb.block i hi⟩ (fun r e => by cases e)
  have HY := Lib.hid hY
  have HP := Lib.hid (hp.below hW)
  have HR := Lib.hid (hr.below hW)
  have k1 := (hRB.below hW).cell 0
  have k2 := (hBB.below hW).cell 0
  have HWS : Hid (w.heap.size ≤ W.heap.size) := hW.size
  have HF := Lib.hid hf
  have HS := Lib.hid hs
  have HA := Lib.hid hall
  have HB0 : Hid (W.cell? ⟨RB, 0, none⟩ = some vr ∧ W.cell? ⟨BB, 0, none⟩ = some v) := ⟨k1, k2⟩
  have HC : Hid (∀ k, cumN (rs.take k) ≤ cumN rs) := cumN_take_le rs
  have H0 : Hid (J [] W) := h0
  have HN : Hid (cumN rs ≤ 60000) := by
    have key : ∀ (l' : List RunD), (∀ r ∈ l', r.count.toNat ≤ 1000) → cumN l' ≤ l'.length * 1000 := by
      intro l'
      induction l' with
      | nil => intro _; simp [cumN]
      | cons a t ih =>
        intro h
        have h1 := h a (List.mem_cons_self ..)
        have h2 := ih (fun x hx => h x (List.mem_cons_of_mem _ hx))
        have e : cumN (a :: t) = a.count.toNat + cumN t := by simp [cumN]
        rw [e, List.length_cons]; omega
    have := key rs (fun r hr => by have := (right_count (hall r hr)).2; omega)
    show _ ≤ _
    omega
  obtain ⟨ro, rcap, rfl⟩ := hr.at_
  obtain ⟨ao, cap, rfl⟩ := hp.at_
  clear hJ hY hp hr hRB hBB hW hf hs hall h0
  show Calls Try.prog 80 #[.func (.yield L) #[] #[], .pointer (some ⟨RB, 0, none⟩), .pointer (some ⟨BB, 0, none⟩)] W _
  go_enter Try.func80, Try.ntmps80
  go_wp2
  go_loopw [4, 14] (fun s4 s14 wr => ∃ k : Nat, k ≤ rs.length ∧ s14 = .int .i64 k ∧ s4 = .int .i64 (cumN (rs.take k)) ∧ Hid (∃ xs, xs.map Prod.fst = List.range (cumN (rs.take k)) ∧ J xs wr ∧ Kc W wr)) (fun _ i _ => rs.length - (intOf i).toNat)
  case atStart => exact ⟨0, Nat.zero_le _, rfl, by rw [List.take_zero]; rfl, [], by rw [List.take_zero]; rfl, H0.out, Kc.refl _⟩
  case round =>
    obtain ⟨k, hk, rfl, rfl, HX⟩ := hrel
    by_cases hk2 : k < rs.length
    · obtain ⟨r, hy⟩ : ∃ y, rs[k]? = some y := ⟨_, List.getElem?_eq_getElem hk2⟩
      obtain ⟨xs, hx1, hx2, hx3⟩ := HX.out
      obtain ⟨b, off, rfl, hbl, c0, c1, c2, c3, c4, c5, c6, c7, c8, c9⟩ := runs_get (HR.out.kc hx3) hy
      have HRT := Lib.hid (HA.out r (List.mem_of_getElem? hy))
      obtain ⟨bd, r1, r2, r3, r4, r5, r6, r7, _, _⟩ := right_parts HS.out HRT.out
      have g2 := hx3.cell _ _ HB0.out.2
      have hgz := block_lt_of_cell g2
      have hcn := HC.out k
      have hnn := HN.out
      have HSN := Lib.hid (cumN_snoc hy)
      have HLA : Hid (∀ j, j < r.count.toNat → (laidPts l rs)[cumN (rs.take k) + j]? = some (barPts l r j)) := fun j hj => laidPts_at hy hj
      generalize hq : cumN (rs.take k) = cn at *
      have HQ := Lib.hid hq
      have HTU := Lib.hid (turned_any (.slice ao l.length cap) l r bd _ ((HP.out.kc hx3).below (below_new _ (.cells #[.string r.mark, .int .i64 r.tx, .int .i64 r.ty, .int .i64 r.at_.x, .int .i64 r.at_.y, .int .i64 r.at_.z, .int .i64 r.step.x, .int .i64 r.step.y, .int .i64 r.step.z, .int .i64 r.count] 60))) hl HF.out r1 r2 r3)
      have HPO : Hid (ptsOf l r = turnedOf bd r) := by show ptsOf l r = _; unfold ptsOf; rw [r1]
      have HTB := Lib.hid (turned_bd (r := r) r2 r3)
      have HTL : Hid ((turnedOf bd r).length ≤ 7) := by show (turnedOf bd r).length ≤ 7; unfold turnedOf; rw [List.length_map]; exact path_len
      have HAT : Hid (PtIn 1048576 (pmul 1 r.at_)) := by rw [pmul_one]; exact ptIn_iff.1 r4
      have HST : Hid (1 < r.count → ∀ k : Int, 0 ≤ k → k ≤ 999 → PtIn 4294967296 (pmul k r.step)) := fun h k h0 h1 => pstep_bd (ptIn_iff.1 (r7 h)) h0 h1
      have HBP : Hid (∀ j : Nat, barPts l r j = (turnedOf bd r).map (shiftP r (j : Int))) := fun j => by show barPts l r j = _; unfold barPts; rw [HPO.out]
      have HXX : Hid (xs.map Prod.fst = List.range cn ∧ J xs wr ∧ Kc W wr) := ⟨hx1, hx2, hx3⟩
      clear hy hq hx1 hx2 hx3 HX HPO r1 r2 r3 r4 r7 HRT
      obtain ⟨wo, rfl⟩ : ∃ wo : World, wo = wr := ⟨_, rfl⟩
      go_wp2_with fail
      refine HTU.out.mono ?_
      rintro e w5 ⟨o, rfl, HOW, hb5⟩
      obtain ⟨oo, oc, rfl⟩ := HOW.out.shape
      have HK5 : Hid (Kc wo w5 ∧ wo.heap.size < w5.heap.size) := ⟨(Kc.below (below_new _ _)).trans (Kc.below hb5), by have := hb5.size; simp at this; omega⟩
      have HB5 : Hid (Below wo.heap.size wo w5) := bstep (below_new _ _) hb5
      have BX5 : Hid (BlkIs w5 wo.heap.size 60 #[.string r.mark, .int .i64 r.tx, .int .i64 r.ty, .int .i64 r.at_.x, .int .i64 r.at_.y, .int .i64 r.at_.z, .int .i64 r.step.x, .int .i64 r.step.y, .int .i64 r.step.z, .int .i64 r.count]) := (BlkIs.new wo _ _).below hb5
      have HO5 := Lib.hid (OwnN.fl pt_len HOW.out)
      have k9 := BX5.out.cell 9
      clear hb5 c0 c1 c2 c3 c4 c5 c6 c7 c8 c9 g2 hgz HOW HTU
      go_wp2_with fail
      have dk : decide ((0 : Int) < 0) = false := rfl
      go_loopw [4, 23] (fun s4 s23 wr => ∃ m : Nat, (m : Int) ≤ r.count ∧ s23 = .int .i64 m ∧ s4 = .int .i64 ((cn + m : Nat) : Int) ∧ Hid (∃ xs, xs.map Prod.fst = List.range (cn + m) ∧ J xs wr ∧ Kc w5 wr)) (fun _ i _ => (r.count - intOf i).toNat)
      case atStart => exact ⟨0, by omega, rfl, by rw [Nat.add_zero], xs, by rw [Nat.add_zero]; exact HXX.out.1, HJ.out _ _ _ HXX.out.2.1 HB5.out, Kc.refl _⟩
      case round =>
        obtain ⟨m, hm, rfl, rfl, HZ⟩ := hrel
        by_cases hm2 : (m : Int) < r.count
        · obtain ⟨ys, hy1, hy2, hy3⟩ := HZ.out
          have HYS : Hid (ys.map Prod.fst = List.range (cn + m) ∧ J ys wr ∧ Kc w5 wr) := ⟨hy1, hy2, hy3⟩
          have HOr := Lib.hid (HO5.out.kc hy3)
          have k3 := hy3.cell _ _ (BX5.out.cell 3)
          have k4 := hy3.cell _ _ (BX5.out.cell 4)
          have k5 := hy3.cell _ _ (BX5.out.cell 5)
          have k6 := hy3.cell _ _ (BX5.out.cell 6)
          have k7 := hy3.cell _ _ (BX5.out.cell 7)
          have k8 := hy3.cell _ _ (BX5.out.cell 8)
          have HKK : Hid (wr.cell? ⟨wo.heap.size, 3, none⟩ = some (.int .i64 r.at_.x) ∧ wr.cell? ⟨wo.heap.size, 4, none⟩ = some (.int .i64 r.at_.y) ∧ wr.cell? ⟨wo.heap.size, 5, none⟩ = some (.int .i64 r.at_.z) ∧ wr.cell? ⟨wo.heap.size, 6, none⟩ = some (.int .i64 r.step.x) ∧ wr.cell? ⟨wo.heap.size, 7, none⟩ = some (.int .i64 r.step.y) ∧ wr.cell? ⟨wo.heap.size, 8, none⟩ = some (.int .i64 r.step.z)) := ⟨k3, k4, k5, k6, k7, k8⟩
          have hbz := block_lt_of_cell k3
          have HBZ := Lib.hid hbz
          have htl := HTL.out
          have hmk := run_make_pts (turnedOf bd r).length (by omega)
          clear hy1 hy2 hy3 HZ k3 k4 k5 k6 k7 k8 hbz
          obtain ⟨wp, rfl⟩ : ∃ wp : World, wp = wr := ⟨_, rfl⟩
          go_wp2_with fail
          obtain ⟨w6, hw6⟩ : ∃ w6, wp.alloc (.cells (madeCells #[.int .i64 0, .int .i64 0, .int .i64 0] ((turnedOf bd r).length * 3)) 31) = w6 := ⟨_, rfl⟩
          have HI6 : Hid (Below wp.heap.size wp w6 ∧ OwnPts w6 wp.heap.size (.slice (some ⟨wp.heap.size, 0, none⟩) (turnedOf bd r).length (turnedOf bd r).length) (List.replicate (turnedOf bd r).length ⟨0, 0, 0⟩)) := by rw [← hw6]; exact ⟨below_new _ _, own_made_pts wp _ _ (by omega) (Nat.le_refl _)⟩
          rw [hw6]
          clear hw6 hmk
          go_loopw [31] (fun i wq => ∃ j : Nat, j ≤ (turnedOf bd r).length ∧ i = .int .i64 j ∧ Below wp.heap.size wp wq ∧ Hid (∃ ps, OwnPts wq wp.heap.size (.slice (some ⟨wp.heap.size, 0, none⟩) (turnedOf bd r).length (turnedOf bd r).length) ps ∧ ps.length = (turnedOf bd r).length ∧ ∀ (t : Nat) p, t < j → (turnedOf bd r)[t]? = some p → ps[t]? = some (shiftP r (m : Int) p))) (fun i _ => (turnedOf bd r).length - (intOf i).toNat)
          case atStart => exact ⟨0, Nat.zero_le _, rfl, HI6.out.1, _, HI6.out.2, by simp, fun t p ht => by omega⟩
          case round =>
            obtain ⟨j, hj, rfl, hBq, HPS⟩ := hrel
            by_cases hj2 : j < (turnedOf bd r).length
            · obtain ⟨p, hy⟩ : ∃ y, (turnedOf bd r)[j]? = some y := ⟨_, List.getElem?_eq_getElem hj2⟩
              obtain ⟨bb, boff, rfl, hbl2, c0, c1, c2⟩ := pts_get (HOr.out.below hBq) hy
              obtain ⟨ps, hp1, hp2, hp3⟩ := HPS.out
              have HPP := Lib.hid (And.intro hp1 (And.intro hp2 hp3))
              have HYP := Lib.hid hy
              have hpb := HTB.out p (List.mem_of_getElem? hy)
              have hat := HAT.out
              have HP1 := Lib.hid (fun W => lplus_any p r.at_ 1 W (hpb.mono (by omega)) (hat.mono (by omega)))
              have hq1 := padd_bd hpb hat
              have HQ1 := Lib.hid hq1
              have HBQ := Lib.hid hBq
              have hbw := HBZ.out
              have k3 := (hBq.cell (p := ⟨wo.heap.size, 3, none⟩) hbw).trans HKK.out.1
              have k4 := (hBq.cell (p := ⟨wo.heap.size, 4, none⟩) hbw).trans HKK.out.2.1
              have k5 := (hBq.cell (p := ⟨wo.heap.size, 5, none⟩) hbw).trans HKK.out.2.2.1
              have hzq : wo.heap.size < wr.heap.size := Nat.lt_of_lt_of_le hbw hBq.size
              have HHJ : Hid (∃ p0, ps[j]? = some p0) := ⟨_, List.getElem?_eq_getElem (by omega)⟩
              clear hy hBq hp1 hp2 hp3 HPS hpb hat hq1 hbw
              go_wp2_with fail
              refine (HP1.out _).mono ?_
              rintro e w7 ⟨rfl, hb7⟩
              obtain ⟨p0, hp0⟩ := HHJ.out
              have HO7 : Hid (OwnPts w7 wp.heap.size (.slice (some ⟨wp.heap.size, 0, none⟩) (turnedOf bd r).length (turnedOf bd r).length) ps) := OwnN.below (HPP.out.1.alloc _) hb7
              have HB7 : Hid (Below wp.heap.size wp w7) := bstep (HBQ.out.alloc HBQ.out.size _) hb7
              obtain ⟨g0, g1, g2, gf, glt⟩ := own_at3 HO7.out hp0
              have g0' : w7.cell? ⟨wp.heap.size, 0 + j * 3, none⟩ = some (.int .i64 p0.x) := by rw [Nat.zero_add]; exact g0
              have g1' : w7.cell? ⟨wp.heap.size, 0 + j * 3 + 1, none⟩ = some (.int .i64 p0.y) := by rw [Nat.zero_add]; exact g1
              have g2' : w7.cell? ⟨wp.heap.size, 0 + j * 3 + 2, none⟩ = some (.int .i64 p0.z) := by rw [Nat.zero_add]; exact g2
              clear hb7 hp0 k3 k4 k5 c0 c1 c2
              generalize hq1 : padd p (pmul 1 r.at_) = q1 at *
              have hjps : j < ps.length := by rw [HPP.out.2.1]; exact hj2
              have HO8 : Hid (OwnPts (((w7.setCell ⟨wp.heap.size, j * 3, none⟩ (.int .i64 q1.x)).setCell ⟨wp.heap.size, j * 3 + 1, none⟩ (.int .i64 q1.y)).setCell ⟨wp.heap.size, j * 3 + 2, none⟩ (.int .i64 q1.z)) wp.heap.size (.slice (some ⟨wp.heap.size, 0, none⟩) (turnedOf bd r).length (turnedOf bd r).length) (ps.set j q1)) := own_set3 HO7.out j q1 hjps
              have HB8 : Hid (Below wp.heap.size wp (((w7.setCell ⟨wp.heap.size, j * 3, none⟩ (.int .i64 q1.x)).setCell ⟨wp.heap.size, j * 3 + 1, none⟩ (.int .i64 q1.y)).setCell ⟨wp.heap.size, j * 3 + 2, none⟩ (.int .i64 q1.z))) := HB7.out.grown (grown_set3 _ _ _ _ _ _) HB7.out.size (fun g hg => by cases hg; exact Nat.le_refl _)
              have HQE := Lib.hid hq1
              clear hq1
              by_cases hm0 : 0 < m
              · have hm1 : (0 : Int) < (m : Int) := by omega
                go_wp2_with fail
                obtain ⟨w8, hw8⟩ : ∃ w8, (((w7.setCell ⟨wp.heap.size, j * 3, none⟩ (.int .i64 q1.x)).setCell ⟨wp.heap.size, j * 3 + 1, none⟩ (.int .i64 q1.y)).setCell ⟨wp.heap.size, j * 3 + 2, none⟩ (.int .i64 q1.z)) = w8 := ⟨_, rfl⟩
                rw [hw8] at HO8 HB8 ⊢
                clear hw8 g0 g1 g2 gf g0' g1' g2' glt
                have hgetq : (ps.set j q1)[j]? = some q1 := by rw [List.getElem?_set_self hjps]
                obtain ⟨s0, s1, s2, sf, slt⟩ := own_at3 HO8.out hgetq
                have hbw := HBZ.out
                have k6 := (HB8.out.cell (p := ⟨wo.heap.size, 6, none⟩) hbw).trans HKK.out.2.2.2.1
                have k7 := (HB8.out.cell (p := ⟨wo.heap.size, 7, none⟩) hbw).trans HKK.out.2.2.2.2.1
                have k8 := (HB8.out.cell (p := ⟨wo.heap.size, 8, none⟩) hbw).trans HKK.out.2.2.2.2.2
                have hzq8 : wo.heap.size < w8.heap.size := Nat.lt_of_lt_of_le hbw HB8.out.size
                have j0 : (0 : Int) ≤ (j : Int) := Int.natCast_nonneg _
                have j1 : (j : Int) < ((turnedOf bd r).length : Int) := by omega
                clear hgetq hbw
                have HP2 := Lib.hid (fun W => lplus_any q1 r.step (m : Int) W (HQ1.out.mono (by omega)) ((HST.out (by omega) m (by omega) (by omega)).mono (by omega)))
                have HGQ : Hid (∃ z, (ps.set j q1)[j]? = some z) := ⟨q1, by rw [List.getElem?_set_self hjps]⟩
                go_region_with ((go_at_call 55; (with_reducible refine (HP2.out _).mono ?_); rintro e w9 ⟨rfl, hb9⟩; have HO9 := Lib.hid (OwnN.below HO8.out (below_drawn hb9) : OwnPts w9 wp.heap.size _ _); have HB9 := Lib.hid (bstep HB8.out (below_drawn hb9)); clear hb9; obtain ⟨z0, hz0⟩ := HGQ.out; obtain ⟨t0, t1, t2, tf, tlt⟩ := own_at3 HO9.out hz0; clear hz0))
                all_goals
                  have HSH : Hid (shiftP r (m : Int) p = padd q1 (pmul (m : Int) r.step)) := by show shiftP r (m : Int) p = _; unfold shiftP; rw [if_pos hm1, HQE.out]
                  generalize hq2 : padd q1 (pmul (m : Int) r.step) = q2 at *
                  have HQ2 := Lib.hid hq2
                  clear hq2
                  have HO10 : Hid (OwnPts (((w9.setCell ⟨wp.heap.size, j * 3, none⟩ (.int .i64 q2.x)).setCell ⟨wp.heap.size, j * 3 + 1, none⟩ (.int .i64 q2.y)).setCell ⟨wp.heap.size, j * 3 + 2, none⟩ (.int .i64 q2.z)) wp.heap.size (.slice (some ⟨wp.heap.size, 0, none⟩) (turnedOf bd r).length (turnedOf bd r).length) ((ps.set j q1).set j q2)) := own_set3 HO9.out j q2 (by rw [List.length_set]; exact hjps)
                  have HB10 : Hid (Below wp.heap.size wp (((w9.setCell ⟨wp.heap.size, j * 3, none⟩ (.int .i64 q2.x)).setCell ⟨wp.heap.size, j * 3 + 1, none⟩ (.int .i64 q2.y)).setCell ⟨wp.heap.size, j * 3 + 2, none⟩ (.int .i64 q2.z))) := HB9.out.grown (grown_set3 _ _ _ _ _ _) HB9.out.size (fun g hg => by cases hg; exact Nat.le_refl _)
                  have HNX := Lib.hid (set_next (f := shiftP r (m : Int)) HPP.out.2.1 HPP.out.2.2 HYP.out q1 (show shiftP r (m : Int) p = q2 from HSH.out))
                  go_wp2
                  go_roundw
                  case rel =>
                    first
                      | exact ⟨j + 1, by omega, by go_num, HB10.out, _, HO10.out, HNX.out⟩
                      | ((repeat apply Exists.intro); refine ⟨?_, rfl⟩; exact ⟨j + 1, by omega, by go_num, HB10.out, _, HO10.out, HNX.out⟩)
                  case measure => simp [intOf]; omega
              · have hm1 : ¬ (0 : Int) < (m : Int) := by omega
                have HSH : Hid (shiftP r (m : Int) p = q1) := by show shiftP r (m : Int) p = _; unfold shiftP; rw [if_neg hm1, HQE.out]
                have HNX := Lib.hid (set_next1 (f := shiftP r (m : Int)) HPP.out.2.1 HPP.out.2.2 HYP.out (show shiftP r (m : Int) p = q1 from HSH.out))
                go_wp2
                go_roundw
                case rel =>
                  first
                    | exact ⟨j + 1, by omega, by go_num, HB8.out, _, HO8.out, HNX.out⟩
                    | ((repeat apply Exists.intro); refine ⟨?_, rfl⟩; exact ⟨j + 1, by omega, by go_num, HB8.out, _, HO8.out, HNX.out⟩)
                case measure => simp [intOf]; omega
            · obtain rfl : j = (turnedOf bd r).length := by omega
              have HYIN : Hid (∃ ps, OwnPts wr wp.heap.size (.slice (some ⟨wp.heap.size, 0, none⟩) (turnedOf bd r).length (turnedOf bd r).length) ps ∧ ps = barPts l r m) := by
                obtain ⟨ps, hp1, hp2, hp3⟩ := HPS.out
                refine ⟨ps, hp1, ?_⟩
                rw [HBP.out]
                exact eq_map hp2 (fun t p ht => hp3 t p ((List.getElem?_eq_some_iff.1 ht).1) ht)
              have HJW : Hid (J ys wr) := HJ.out _ _ _ HYS.out.2.1 hBq
              have HKW : Hid (Kc w5 wr) := HYS.out.2.2.trans (Kc.below hBq)
              have HTD : Hid (Told l rs w.heap.size (cn + m, .slice (some ⟨wp.heap.size, 0, none⟩) (turnedOf bd r).length (turnedOf bd r).length) wr) := by
                obtain ⟨ps, hp1, hp2⟩ := HYIN.out
                refine ⟨barPts l r m, HLA.out m (by omega), ?_⟩
                rw [← hp2]
                exact OwnN.mono hp1 (Nat.le_trans HWS.out (Nat.le_trans HXX.out.2.2.size (Nat.le_trans HK5.out.1.size HYS.out.2.2.size)))
              clear hBq HPS HYIN
              go_upto_region 16 with fail
              obtain ⟨fn, tmps, assign, body, hy, hR⟩ := HY.out ys (cn + m, .slice (some ⟨wp.heap.size, 0, none⟩) (turnedOf bd r).length (turnedOf bd r).length) wr HJW.out HTD.out
              simp only [Int.natCast_add] at hy
              refine (wpIn_wide (n := n)).1 ?_
              gi_wp2
              refine hR.mono ?_
              rintro e w9 (⟨rfl, hJ9, hk9⟩ | ⟨rfl, hJx9⟩)
              · have HN9 : Hid (∃ xs, xs.map Prod.fst = List.range (cn + (m + 1)) ∧ J xs w9 ∧ Kc w5 w9) := ⟨_, by rw [List.map_append, HYS.out.1, ← Nat.add_assoc, List.range_succ]; rfl, hJ9, HKW.out.trans hk9⟩
                clear hJ9 hk9
                gi_wp2_with fail
                go_wp2
                go_roundw
                case rel => exact ⟨m + 1, by omega, by go_num, by exact val_int (by omega), HN9.out⟩
                case measure => simp [intOf]; omega
              · gi_wp2_with fail
                go_wp2
                refine bodyPost_ret (results_none rfl _ _ _) rfl ?_
                exact ⟨⟨_, rfl⟩, .inr ⟨_, trivial, hJx9⟩⟩
        · have hme : m = r.count.toNat := by omega
          have HN9 : Hid (∃ xs, xs.map Prod.fst = List.range (cumN (rs.take (k + 1))) ∧ J xs wr ∧ Kc W wr) := by
            obtain ⟨ys, h1, h2, h3⟩ := HZ.out
            exact ⟨ys, by rw [HSN.out, ← hme]; exact h1, h2, HXX.out.2.2.trans (HK5.out.1.trans h3)⟩
          have HCN : Hid (cn + m = cumN (rs.take (k + 1))) := by show _ = _; rw [HSN.out, ← hme]
          clear HZ
          go_wp2
          go_roundw
          case rel => exact ⟨k + 1, by omega, by go_num, by exact val_int (by have := HCN.out; omega), HN9.out⟩
          case measure => simp [intOf]; omega
    · obtain rfl : k = rs.length := by omega
      rw [List.take_length] at *
      go_wp2
      go_end0
      obtain ⟨xs, h1, h2, _⟩ := HX.out
      exact ⟨⟨_, rfl⟩, .inl ⟨xs, h1, h2⟩⟩
end Go.Proofs.Ytpidjgljeooblaa
