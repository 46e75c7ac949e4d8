/-
  Couplers, reference: Loops, Edges.
-/
import Derived.Test.YtamogedpgkofjaaGreatCrc
namespace Go.Proofs.YtamogedpgkofjaaGreat
section
open Go.RowKit
set_option linter.unusedVariables false
set_option linter.unusedSimpArgs false
attribute [local go_sem ↓] Go.wp_at_zero Go.wp_at_succ

structure RlW (w : World) (B : Nat) (o gv : Value) (vals : List Value) (s : List (List Nat) × List Nat) (W : World) : Prop where
  low : Below B w W
  lo : B ≤ W.heap.size
  mat : MatVals W B o vals s.1
  own : Own W B 3 natf gv s.2
  far : ∀ (k : Nat) u, vals[k]? = some u → ∀ g, u.ownBlock = some g → gv.ownBlock ≠ some g
theorem RlW.below {w : World} {B : Nat} {o gv : Value} {vals : List Value} {s : List (List Nat) × List Nat} {W W' : World} (h : RlW w B o gv vals s W) (hb : Below W.heap.size W W') : RlW w B o gv vals s W' where
  low := h.low.trans (hb.mono h.lo)
  lo := Nat.le_trans h.lo hb.size
  mat := h.mat.below hb
  own := h.own.below hb
  far := h.far
theorem RlW.row {w : World} {B : Nat} {o gv o' lv : Value} {vals : List Value} {s : List (List Nat) × List Nat} {W W' : World} {L : List Nat} (h : RlW w B o gv vals s W) (hr : Own W B 3 natf lv L)
    (hfr : ∀ g, lv.ownBlock = some g → (∀ (k : Nat) u, vals[k]? = some u → u.ownBlock ≠ some g) ∧ gv.ownBlock ≠ some g)
    (hown : Own W' B 24 rowf o' (vals ++ [lv])) (hg : W.grownBy W' o.ownBlock) :
    RlW w B o' gv (vals ++ [lv]) (s.1 ++ [L], s.2) W' ∧ Own W' B 3 natf lv L := by
  have hG : ∀ g, o.ownBlock = some g → B ≤ g := fun g e => (h.mat.2.1.lt g e).1
  refine ⟨⟨h.low.grown hg h.lo hG, Nat.le_trans h.lo hg.size, h.mat.pushRow hr (fun g e => (hfr g e).1) hown hg, h.own.only hg (h.own.apart h.mat.2.1 (by decide)), ?_⟩, hr.only hg (hr.apart h.mat.2.1 (by decide))⟩
  intro k u hu g e
  rcases Nat.lt_or_ge k vals.length with h1 | h1
  · rw [List.getElem?_append_left h1] at hu
    exact h.far k u hu g e
  · rw [List.getElem?_append_right h1] at hu
    obtain ⟨h2, h3⟩ := List.getElem?_eq_some_iff.1 hu
    simp at h3
    subst h3
    exact (hfr g e).2
theorem RlW.bars {w : World} {B : Nat} {o gv gv' : Value} {vals : List Value} {s : List (List Nat) × List Nat} {W W' : World} {L : List Nat} (h : RlW w B o gv vals s W)
    (hown2 : Own W' B 3 natf gv' (s.2 ++ L)) (hg2 : W.grownBy W' gv.ownBlock) (hat : gv'.ownBlock = gv.ownBlock ∨ ∃ g, W.heap.size ≤ g ∧ gv'.ownBlock = some g) : RlW w B o gv' vals (s.1, s.2 ++ L) W' := by
  have hG2 : ∀ g, gv.ownBlock = some g → B ≤ g := fun g e => (h.own.lt g e).1
  refine ⟨h.low.grown hg2 h.lo hG2, Nat.le_trans h.lo hg2.size, h.mat.far hg2 (h.mat.2.1.apart h.own (by decide)) (fun k u hu g e e2 => h.far k u hu g e e2.symm), hown2, ?_⟩
  intro k u hu g e
  rcases hat with h1 | ⟨g', h1, h2⟩
  · rw [h1]; exact h.far k u hu g e
  · rw [h2]
    intro e2
    cases e2
    have := MatVals.old h.mat k u hu _ e
    omega
set_option maxRecDepth 100000 in
set_option maxHeartbeats 8000000 in
theorem rloops40_any (n : Nat) (ev : Value) (es : List (Nat × Nat)) (w : World) (he : NPairs w ev es) (hes : es.length ≤ 1000) (hn : n ≤ 60) :
    Calls Tryz.prog 25 #[.int .i64 (n : Int), ev] w fun e w' => ∃ o, e = .returned o ∧ Mat w' w.heap.size o (lpsC n es) ∧ Below w.heap.size w w' := by
  obtain ⟨eo, ec, rfl, hop⟩ := he.open_
  have HE := Lib.hid he
  clear he hop
  generalize hem : es.length = em at *
  have HEM := Lib.hid hem
  clear hem
  obtain ⟨B, hB⟩ : ∃ B, w.heap.size = B := ⟨_, rfl⟩
  have HI0 : Hid (RlW w B (.slice none 0 0) (.slice none 0 0) [] (lpsK n es 0) w) := ⟨Below.refl _ _, by omega, ⟨rfl, Own.nil _ _ _ _, (fun k v r hv _ => (by cases hv)), (fun i j vi vj g _ hi _ _ => (by cases hi))⟩, Own.nil _ _ _ _, fun k u hu => (by cases hu)⟩
  have HBB := Lib.hid hB
  rw [hB]
  clear hB
  go_enter Tryz.func25, Tryz.ntmps25
  go_wp2
  go_loopw [5, 6, 7] (fun o g i wr => ∃ (k : Nat) (vals : List Value), k ≤ n ∧ i = .int .i64 (k : Int) ∧ Hid (RlW w B o g vals (lpsK n es k) wr)) (fun _ _ i _ => n - (intOf i).toNat)
  case atStart => exact ⟨0, [], Nat.zero_le _, rfl, HI0.out⟩
  case round =>
    clear HI0
    obtain ⟨k, vals, hk, rfl, HI⟩ := hrel
    obtain ⟨s, hs⟩ : ∃ s, lpsK n es k = s := ⟨_, rfl⟩
    rw [hs] at HI
    have hsz := lps_size n es k
    rw [hs] at hsz
    have HS := Lib.hid hs
    have hmat := HI.out.mat
    obtain ⟨oo, oc, rfl⟩ := hmat.2.1.shape
    obtain ⟨go, gc, rfl⟩ := HI.out.own.shape
    have hvl := hmat.1
    have hs1 := (lps_ok n es k).len
    rw [hs] at hs1
    have HVL := Lib.hid hvl
    have hvlen : vals.length ≤ 100 := by omega
    by_cases hkn : k < n
    · have HBW := Lib.hid (show Below w.heap.size w wr by rw [HBB.out]; exact HI.out.low)
      have HOT := Lib.hid (roth40_any n (.slice go s.2.length gc) (ntI s.2) wr hn (own_ints HI.out.own) (by rw [ntI_len]; omega))
      have HGR := Lib.hid (fun nv W (hW : Below w.heap.size w W) (h : Nats W nv (othN n (ntI s.2))) => rgraph40_any (.slice eo em ec) nv es (othN n (ntI s.2)) W (HE.out.below hW) (by rw [HEM.out]; exact hes) h (by have := othN_len n (ntI s.2); omega))
      have HDG := Lib.hid (fun W B v (h : OwnPr W B v (cst (subE es (othN n (ntI s.2))))) => dg_sub h (by have := othN_len n (ntI s.2); omega) (by rw [HEM.out]; exact hes))
      clear hmat hs hs1 hvl
      generalize hgl : s.2.length = gl at *
      have HGL := Lib.hid hgl
      clear hgl
      generalize hvl : vals.length = vl at *
      have HVN := Lib.hid hvl
      clear hvl
      go_wp2_with fail
      refine HOT.out.mono ?_
      rintro e w2 ⟨nv, rfl, ho, hb2⟩
      have HI2 := Lib.hid (HI.out.below hb2)
      have HN2 := Lib.hid ho.out
      have HB2 := Lib.hid (bstep HBW.out hb2)
      have HG2 := Lib.hid (HGR.out nv w2 HB2.out ho.out.sl)
      obtain ⟨no, nc, rfl⟩ := ho.out.shape
      have hwr : wr.heap.size ≤ w2.heap.size := hb2.size
      clear HI hb2 ho HOT HGR HBW
      have HOL := Lib.hid (othN_len n (ntI s.2))
      have HLO := Lib.hid (fun w3 sv (h : OwnPr w3 w2.heap.size sv (cst (subE es (othN n (ntI s.2))))) => rloop_any _ sv _ w3 (HDG.out _ _ _ h))
      have HNM := Lib.hid (fun W u P (h1 : Own W wr.heap.size 3 natf (.slice no (othN n (ntI s.2)).length nc) (othN n (ntI s.2))) (hu : Nats W u P) (hP : P.length ≤ 1000) (hi : ∀ i ∈ P, i < (othN n (ntI s.2)).length) => rnamed40_any _ u (othN n (ntI s.2)) P W h1.sl hu hP hi)
      unfold RLoopPost at HLO
      obtain ⟨D, hD⟩ : ∃ D, (loopOf (othN n (ntI s.2)).length (subE es (othN n (ntI s.2)))).getD [] = D := ⟨_, rfl⟩
      have hDi : (∀ i ∈ D, i < (othN n (ntI s.2)).length) ∧ D.length ≤ 60 := by
        cases hq : loopOf (othN n (ntI s.2)).length (subE es (othN n (ntI s.2))) with
        | none => rw [hq] at hD; subst hD; exact ⟨fun i hi => (by cases hi), Nat.zero_le _⟩
        | some D' =>
          rw [hq] at hD
          subst hD
          have h1 := (loop_some (subE_ends es (othN n (ntI s.2))) (all_far _ _) _ (Nat.le_refl _) D' hq)
          refine ⟨h1.lt, ?_⟩
          have h2 := sub_len D' (List.range (othN n (ntI s.2)).length) h1.nodup (fun x hx => List.mem_range.2 (h1.lt x hx))
          have h3 := HOL.out
          rw [List.length_range] at h2
          show D'.length ≤ 60
          omega
      have HDI := Lib.hid hDi
      have HD := Lib.hid hD
      rw [hD] at HLO
      clear hDi hD
      generalize hol : (othN n (ntI s.2)).length = ol at *
      have HOO := Lib.hid hol
      clear hol
      go_wp2_with fail
      refine HG2.out.mono ?_
      rintro e w3 ⟨sv, rfl, hsv, hb3⟩
      have HI3 := Lib.hid (HI2.out.below hb3)
      have HN3 := Lib.hid (HN2.out.below hb3)
      have HB3 := Lib.hid (bstep HB2.out hb3)
      have HL3 := Lib.hid (HLO.out w3 sv hsv.out)
      obtain ⟨so, sc, rfl⟩ := OwnN.shape hsv.out
      have hw2 : w2.heap.size ≤ w3.heap.size := hb3.size
      clear hb3 hsv HG2 HLO HDG HI2 HN2
      generalize (cst (subE es (othN n (ntI s.2)))).length = sl at *
      go_wp2_with fail
      refine HL3.out.mono ?_
      rintro e w4 ⟨u, rfl, hu, hb4⟩
      have HI4 := Lib.hid (HI3.out.below hb4)
      have HN4 := Lib.hid (HN3.out.below hb4)
      have HB4 := Lib.hid (bstep HB3.out hb4)
      have HM4 := Lib.hid (HNM.out w4 u D HN4.out hu.sl (by have := HDI.out.2; omega) HDI.out.1)
      obtain ⟨uo, uc, rfl⟩ := hu.shape
      have hw3 : w3.heap.size ≤ w4.heap.size := hb4.size
      clear hb4 hu HL3 HNM HI3 HN3
      generalize hdl : D.length = dl at *
      have HDL := Lib.hid hdl
      clear hdl
      go_wp2_with fail
      refine HM4.out.mono ?_
      rintro e w5 ⟨lv, rfl, hL, hb5⟩
      have HI5 := Lib.hid (HI4.out.below hb5)
      have HB5 := Lib.hid (bstep HB4.out hb5)
      have HLR := Lib.hid hL.out
      obtain ⟨lo, lc, rfl⟩ := hL.out.shape
      obtain ⟨L, hLe⟩ : ∃ L, namN (othN n (ntI s.2)) D = L := ⟨_, rfl⟩
      have hLD : L.length = dl := by rw [← hLe, namN_len]; exact HDL.out
      have HLE := Lib.hid hLe
      rw [hLe] at HLR
      rw [hLe, hLD]
      rw [hLD] at HLR
      clear hb5 hL HM4 HN4 hLe
      by_cases h0 : dl = 0
      · have hlop : lopC n es (ntI s.2) = none := by
          refine lop_none ?_
          cases hq : loopOf (othN n (ntI s.2)).length (subE es (othN n (ntI s.2))) with
          | none => rfl
          | some D' =>
            have h1 := (loop_some (subE_ends es (othN n (ntI s.2))) (all_far _ _) _ (Nat.le_refl _) D' hq).pos
            have h2 := HD.out
            rw [HOO.out] at hq
            rw [hq] at h2
            have h3 := HDL.out
            rw [← h2] at h3
            simp at h3
            omega
        have HLC := Lib.hid (lps_done hk (by rw [HS.out]; exact hlop))
        rw [HS.out] at HLC
        clear hlop
        subst h0
        go_wp2
        go_ret
        exact ⟨_, rfl, ⟨vals, by rw [HLC.out]; exact HI5.out.mat⟩, by rw [← HBB.out]; exact HB5.out⟩
      · have hlop : lopC n es (ntI s.2) = some L := by
          cases hq : loopOf (othN n (ntI s.2)).length (subE es (othN n (ntI s.2))) with
          | none =>
            have h2 := HD.out
            rw [HOO.out] at hq
            rw [hq] at h2
            have h3 := HDL.out
            rw [← h2] at h3
            simp at h3
            omega
          | some D' =>
            have h1 := lop_some hq
            have h2 := HD.out
            rw [HOO.out] at hq
            rw [hq] at h2
            simp at h2
            rw [h1, h2, HLE.out]
        have HK1 : Hid (lpsK n es (k + 1) = (s.1 ++ [L], s.2 ++ L)) := by
          have := lpsK_some (n := n) (es := es) (k := k) (L := L) (by rw [HS.out]; exact hlop)
          rw [HS.out] at this
          exact this
        have HLL := Lib.hid hLD
        have hL1 : gl + dl ≤ n := by
          have := lps_size n es (k + 1)
          rw [HK1.out, List.length_append, HGL.out] at this
          rw [← HLL.out]; exact this
        have HFR := Lib.hid (fun g (e : (Value.slice lo dl lc).ownBlock = some g) => (show (∀ (k : Nat) u, vals[k]? = some u → u.ownBlock ≠ some g) ∧ (Value.slice go gl gc).ownBlock ≠ some g from
          ⟨fun k u hu e2 => by have h1 := (HLR.out.lt g e).1; have h2 := MatVals.old HI4.out.mat k u hu g e2; omega, fun e2 => by have h1 := (HLR.out.lt g e).1; have h2 := (HI4.out.own.lt g e2).2; omega⟩))
        have hG5 := HI5.out.lo
        have HLV := Lib.hid (HLR.out.mono HI4.out.lo)
        have HO5 := Lib.hid HI5.out.mat.2.1
        have b1 : (dl == 0) = false := by simp [h0]
        have b2 : ((dl : Int) == 0) = false := beq_no (by omega)
        clear hlop HS HI4 HLR hLD
        go_wp2_with (first
          | (at_builtin; refine wpList_pushO w5 w5.heap.size rfl rfl _ _ 36 rfl 24 24 elemRow B rowf _ vals (.slice lo dl lc) rfl HO5.out rfl rfl (by have := HVN.out; omega) (by omega) hG5 ?_; intro o6 w6 ho6 hg6 _; have HI6 := Lib.hid (HI5.out.row HLV.out HFR.out ho6 hg6).1; have HL6 := Lib.hid (HI5.out.row HLV.out HFR.out ho6 hg6).2; have HGV6 := Lib.hid HI6.out.own; have hG6 := HI6.out.lo; obtain ⟨po, pc, hpo⟩ := ho6.shape; obtain ⟨q5, hq5⟩ : ∃ q, (vals ++ [Value.slice lo dl lc]).length = q := ⟨_, rfl⟩; rw [hq5] at hpo; subst hpo; clear ho6 hg6 hq5)
          | (at_builtin; refine wpList_app w6 rfl _ _ 24 rfl 3 8 elemInt B B natf _ _ s.2 L (fun _ => rfl) HGV6.out HL6.out rfl rfl (by have h1 := HLL.out; have h2 := HGL.out; omega) (by omega) hG6 ?_; intro g7 w7 ho7 hg7 hat7; have HI7 := Lib.hid (HI6.out.bars ho7 hg7 hat7); obtain ⟨ro, rc, hro⟩ := ho7.shape; obtain ⟨q6, hq6⟩ : ∃ q, (s.2 ++ L).length = q := ⟨_, rfl⟩; rw [hq6] at hro; subst hro; clear ho7 hg7 hat7 hq6))
        rw [← HK1.out] at HI7
        go_roundw
        case rel => exact ⟨k + 1, _, by omega, by go_num, HI7.out⟩
        case measure => simp [intOf]; omega
    · obtain rfl : n = k := by omega
      have HLC : Hid (lpsC n es = s.1) := by show (lpsK n es n).1 = s.1; rw [hs]
      clear hmat hs hs1 hvl
      generalize s.2.length = gl at *
      generalize hvl : vals.length = vl at *
      clear hvl
      go_wp2
      go_ret
      exact ⟨_, rfl, ⟨vals, by rw [HLC.out]; exact HI.out.mat⟩, HI.out.low⟩
theorem redges40_bad (v vr xv : Value) (X : List Int) (l : List BarD) (rs : List RunD) (w : World) (hC : Cg w v vr xv X l rs) (hlx : X.length ≤ 1000000) (h0 : sqC l rs X ≠ 0) :
    Calls Tryz.prog 21 #[v, vr, xv] w fun e w' => e = .returned (.tuple #[.int .i64 0, .slice none 0 0, .int .i64 (sqC l rs X)]) ∧ Below w.heap.size w w' := by
  have HL := Lib.hid (rallx_any v vr xv X l rs w hC.hA.hp hC.hA.hr hC.hx hC.hA.hl hC.hA.hlr hlx hC.hA.hf)
  rw [show allE (laidOk l rs) (lgsOf l rs).length X = sqC l rs X from rfl] at HL
  generalize sqC l rs X = c at *
  have hb : (c != 0) = true := bne_yes h0
  clear hC hlx
  go_enter Tryz.func21, Tryz.ntmps21
  go_wp2_with fail
  refine HL.out.mono ?_
  rintro e w1 ⟨rfl, hb1⟩
  have HB1 := Lib.hid hb1
  clear hb1 HL h0
  go_wp2
  refine bodyPost_ret (v := .tuple #[.int .i64 0, .slice none 0 0, .int .i64 c]) (by simp [results, Tryz.results21, go_sem]) rfl ⟨rfl, HB1.out⟩
theorem redges40_good (v vr xv : Value) (X : List Int) (l : List BarD) (rs : List RunD) (w : World) (hC : Cg w v vr xv X l rs) (hlx : X.length ≤ 1000000) (h0 : sqC l rs X = 0) :
    Calls Tryz.prog 21 #[v, vr, xv] w fun e w' => ∃ o, e = .returned (.tuple #[.int .i64 ((lgsOf l rs).length : Int), o, .int .i64 0]) ∧ Dg w' (lgsOf l rs).length o (sqEs l rs X) ∧ Below w.heap.size w w' := by
  have HL := Lib.hid (rallx_any v vr xv X l rs w hC.hA.hp hC.hA.hr hC.hx hC.hA.hl hC.hA.hlr hlx hC.hA.hf)
  rw [show allE (laidOk l rs) (lgsOf l rs).length X = sqC l rs X from rfl, h0] at HL
  have HE := Lib.hid (fun W (hW : Below w.heap.size w W) => redg39 (hC.hA.below hW) (Sl.below hC.hx hW) h0)
  have HCN := Lib.hid (fun W (hW : Below w.heap.size w W) => rcnt39 (hC.hA.below hW) (sqC_zero h0).1)
  have h14 := hC.hA.h14 (sqC_zero h0).1
  have hEl : (edgL (lgsOf l rs) (szsOf l rs) X (lgsOf l rs).length (lgsOf l rs).length).length ≤ 196 := Nat.le_trans (edgL_len _ _ _ _ _) (Nat.mul_le_mul h14 h14)
  generalize (edgL (lgsOf l rs) (szsOf l rs) X (lgsOf l rs).length (lgsOf l rs).length).length = m at *
  generalize sqEs l rs X = es at *
  generalize (lgsOf l rs).length = n at *
  have k1 : decide ((1000 : Int) < (m : Int)) = false := dec_no (by omega)
  have k2 : decide (1000 < m) = false := dec_no (by omega)
  clear hC hlx h0
  go_enter Tryz.func21, Tryz.ntmps21
  go_wp2_with fail
  refine HL.out.mono ?_
  rintro e w1 ⟨rfl, hb1⟩
  have HB1 := Lib.hid hb1
  clear hb1 HL
  go_wp2_with fail
  refine (HE.out _ HB1.out).mono ?_
  rintro e w2 ⟨ao, cap, rfl, hd, hb2⟩
  have HB2 := Lib.hid (bstep HB1.out hb2)
  have HD2 := Lib.hid hd
  clear hb2 hd HE
  go_wp2_with fail
  refine (HCN.out _ HB2.out).mono ?_
  rintro e w3 ⟨rfl, rfl⟩
  clear HCN
  go_wp2
  refine bodyPost_ret (v := .tuple #[.int .i64 (n : Int), .slice ao m cap, .int .i64 0]) (by simp [results, Tryz.results21, go_sem]) rfl ⟨_, rfl, HD2.out, HB2.out⟩
end
end Go.Proofs.YtamogedpgkofjaaGreat
