/-
  Couplers: Loops, Bound.
-/
import Derived.Test.YtamogedpgkofjaaGreatCqd
import Derived.Test.YtamogedpgkofjaaGreatCqc
namespace Go.Proofs.YtamogedpgkofjaaGreat
section
open Go.RowKit
set_option linter.unusedVariables false
set_option linter.unusedSimpArgs false
attribute [local go_sem ↓] Go.wp_at_zero Go.wp_at_succ

theorem MatVals.far {w w1 : World} {base : Nat} {V : Value} {vals : List Value} {rows : List (List Nat)} {r : Option Nat} (h : MatVals w base V vals rows) (hg : w.grownBy w1 r) (hV : ∀ g, V.ownBlock = some g → some g ≠ r) (hr : ∀ (k : Nat) u, vals[k]? = some u → ∀ g, u.ownBlock = some g → some g ≠ r) : MatVals w1 base V vals rows :=
  ⟨h.1, h.2.1.only hg hV, fun k v x hv hx => (h.2.2.1 k v x hv hx).only hg (hr k v hv), h.2.2.2⟩
theorem Mat.nil (w : World) (base : Nat) : Mat w base (.slice none 0 0) [] := ⟨[], rfl, Own.nil _ _ _ _, (fun k v r hv _ => (by cases hv)), (fun i j vi vj g _ hi _ _ => (by cases hi))⟩
theorem MatVals.mono {w : World} {base base' : Nat} {V : Value} {vals : List Value} {rows : List (List Nat)} (h : MatVals w base V vals rows) (hb : base' ≤ base) : MatVals w base' V vals rows :=
  ⟨h.1, h.2.1.mono hb, fun k v x hv hx => (h.2.2.1 k v x hv hx).mono hb, h.2.2.2⟩
structure LpW (w1 : World) (G n : Nat) (es : List (Nat × Nat)) (ev o gv : Value) (vals : List Value) (s : List (List Nat) × List Nat) (W : World) : Prop where
  g1 : w1.heap.size = G
  dg : Dg w1 n ev es
  low : Below G w1 W
  gb : BlkIs W G 75 #[.int .i64 (n : Int), ev]
  mat : MatVals W (G + 1) o vals s.1
  own : Own W (G + 1) 3 natf gv s.2
  far : ∀ (k : Nat) u, vals[k]? = some u → ∀ g, u.ownBlock = some g → gv.ownBlock ≠ some g
  sz : G + 1 ≤ W.heap.size
theorem LpW.below {w1 : World} {G n : Nat} {es : List (Nat × Nat)} {ev o gv : Value} {vals : List Value} {s : List (List Nat) × List Nat} {W W' : World} (h : LpW w1 G n es ev o gv vals s W) (hb : Below W.heap.size W W') : LpW w1 G n es ev o gv vals s W' where
  g1 := h.g1
  dg := h.dg
  low := h.low.trans (hb.mono (by have := h.sz; omega))
  gb := h.gb.below hb
  mat := h.mat.below hb
  own := h.own.below hb
  far := h.far
  sz := Nat.le_trans h.sz hb.size
theorem LpW.edges {w1 : World} {G n : Nat} {es : List (Nat × Nat)} {ev o gv : Value} {vals : List Value} {s : List (List Nat) × List Nat} {W : World} (h : LpW w1 G n es ev o gv vals s W) : NPairs W ev es := h.dg.pairs.below (by rw [h.g1]; exact h.low)
/-- A row more, and its bars gone. -/
theorem LpW.push {w1 : World} {G n : Nat} {es : List (Nat × Nat)} {ev o gv o' gv' lv : Value} {vals : List Value} {s : List (List Nat) × List Nat} {W W' W'' : World} {L : List Nat} (h : LpW w1 G n es ev o gv vals s W) (hr : Own W (G + 1) 3 natf lv L)
    (hfr : ∀ g, lv.ownBlock = some g → (∀ (k : Nat) u, vals[k]? = some u → u.ownBlock ≠ some g) ∧ gv.ownBlock ≠ some g)
    (hown : Own W' (G + 1) 24 rowf o' (vals ++ [lv])) (hg : W.grownBy W' o.ownBlock)
    (hown2 : Own W'' (G + 1) 3 natf gv' (s.2 ++ L)) (hg2 : W'.grownBy W'' gv.ownBlock) (hat : gv'.ownBlock = gv.ownBlock ∨ ∃ g, W'.heap.size ≤ g ∧ gv'.ownBlock = some g) :
    LpW w1 G n es ev o' gv' (vals ++ [lv]) (s.1 ++ [L], s.2 ++ L) W'' := by
  have hm := h.mat.pushRow hr (fun g e => (hfr g e).1) hown hg
  have hG : ∀ g, o.ownBlock = some g → G + 1 ≤ g := fun g e => (h.mat.2.1.lt g e).1
  have hG2 : ∀ g, gv.ownBlock = some g → G + 1 ≤ g := fun g e => (h.own.lt g e).1
  have hgv : Own W' (G + 1) 3 natf gv s.2 := h.own.only hg (h.own.apart h.mat.2.1 (by decide))
  have hfar : ∀ (k : Nat) u, (vals ++ [lv])[k]? = some u → ∀ g, u.ownBlock = some g → gv.ownBlock ≠ some g := by
    intro k u hu g e
    rcases Nat.lt_or_ge k vals.length with h1 | h1
    · rw [List.getElem?_append_left h1] at hu
      exact h.far k u hu g e
    · rw [List.getElem?_append_right h1] at hu
      obtain ⟨h2, h3⟩ := List.getElem?_eq_some_iff.1 hu
      simp at h3
      subst h3
      exact (hfr g e).2
  refine ⟨h.g1, h.dg, ?_, ?_, ?_, hown2, ?_, ?_⟩
  · exact (h.low.grown hg (by have := h.sz; omega) (fun g e => by have := hG g e; omega)).grown hg2 (by have := h.sz; have := hg.size; omega) (fun g e => by have := hG2 g e; omega)
  · exact (h.gb.else_ hg (fun e => by have := hG _ e.symm; omega)).else_ hg2 (fun e => by have := hG2 _ e.symm; omega)
  · refine hm.far hg2 ?_ (fun k u hu g e e2 => hfar k u hu g e e2.symm)
    intro g e e2
    exact hown.apart hgv (by decide) g e e2
  · intro k u hu g e
    rcases hat with h1 | ⟨g', h1, h2⟩
    · rw [h1]; exact hfar k u hu g e
    · rw [h2]
      intro e2
      cases e2
      have := MatVals.old hm k u hu _ e
      omega
  · have := h.sz; have := hg.size; have := hg2.size; omega
def lenV : Value → Nat
  | .slice _ n _ => n
  | _ => 0
def LpsPost (w : World) (R : Int × List (List Nat)) (e : Ending) (w' : World) : Prop := ∃ o, e = .returned (.tuple #[o, .int .i64 R.1]) ∧ Mat w' w.heap.size o R.2 ∧ Below w.heap.size w w'
noncomputable def lpsF (c : Int) (n : Nat) (es : List (Nat × Nat)) : Int × List (List Nat) := if c = 0 then (0, lpsC n es) else (c, [])
theorem lop_none {n : Nat} {es : List (Nat × Nat)} {l : List Int} (h : loopOf (othN n l).length (subE es (othN n l)) = none) : lopC n es l = none := by unfold lopC; rw [h]; rfl
theorem lop_some {n : Nat} {es : List (Nat × Nat)} {l : List Int} {D : List Nat} (h : loopOf (othN n l).length (subE es (othN n l)) = some D) : lopC n es l = some (namN (othN n l) D) := by unfold lopC; rw [h]; rfl
set_option maxRecDepth 100000 in
set_option maxHeartbeats 8000000 in
theorem cloops_any (v vr xv : Value) (X : List Int) (l : List BarD) (rs : List RunD) (w : World) (hC : Cg w v vr xv X l rs) :
    Calls Tryz.prog 15 #[v, vr, xv] w (LpsPost w (lpsF (sqC l rs X) (lgsOf l rs).length (sqEs l rs X))) := by
  by_cases hc : sqC l rs X = 0
  · have HB := Lib.hid (cbegin_good v vr xv X l rs w hC.hA hC.hx hC.hlx hc)
    have HR : Hid (lpsF (sqC l rs X) (lgsOf l rs).length (sqEs l rs X) = (0, lpsC (lgsOf l rs).length (sqEs l rs X))) := if_pos hc
    have hn14 : (lgsOf l rs).length ≤ 14 := hC.hA.h14 (sqC_zero hc).1
    rw [HR.out]
    clear HR
    generalize sqEs l rs X = es at *
    generalize (lgsOf l rs).length = n at *
    clear hC hc
    go_enter Tryz.func15, Tryz.ntmps15
    go_wp2_with fail
    refine HB.out.mono ?_
    rintro e w1 ⟨o, rfl, hd, hb1⟩
    have HB1 := Lib.hid hb1
    obtain ⟨eo, ec, rfl, hop⟩ := hd.pairs.open_
    have HD1 := Lib.hid hd
    clear hb1 hd HB hop
    generalize hem : es.length = em at *
    have HEM := Lib.hid hem
    clear hem
    obtain ⟨W2, hW2⟩ : ∃ W2, w1.alloc (.cells #[.int .i64 (n : Int), .slice eo em ec] 75) = W2 := ⟨_, rfl⟩
    obtain ⟨G, hG⟩ : ∃ G, w1.heap.size = G := ⟨_, rfl⟩
    have hwG : w.heap.size ≤ G := by have := HB1.out.size; omega
    have HL2 : Hid (LpW w1 G n es (.slice eo em ec) (.slice none 0 0) (.slice none 0 0) [] (lpsK n es 0) W2) := by
      rw [← hW2, ← hG]
      exact ⟨rfl, HD1.out, below_new _ _, BlkIs.new _ _ _, ⟨rfl, Own.nil _ _ _ _, fun k v r hv _ => (by cases hv), fun i j vi vj g _ hi _ _ => (by cases hi)⟩, Own.nil _ _ _ _, fun k u hu => (by cases hu), by simp⟩
    go_wp2_with fail
    (try rw [hW2])
    (try rw [hG])
    clear hW2
    go_loopw [10, 11] (fun o g wr => ∃ (k : Nat) (vals : List Value), k ≤ n ∧ Hid (LpW w1 G n es (.slice eo em ec) o g vals (lpsK n es k) wr)) (fun _ g _ => n - lenV g)
    case atStart => exact ⟨0, [], Nat.zero_le _, HL2.out⟩
    case round =>
      clear HL2
      obtain ⟨k, vals, hk, HI⟩ := hrel
      obtain ⟨s, hs⟩ : ∃ s, lpsK n es k = s := ⟨_, rfl⟩
      rw [hs] at HI
      have hsz := lps_size n es k
      rw [hs] at hsz
      have HS := Lib.hid hs
      have hmat := HI.out.mat
      obtain ⟨oo, oc, rfl⟩ := hmat.2.1.shape
      obtain ⟨go, gc, rfl⟩ := HI.out.own.shape
      have HOT := Lib.hid (cothers_any n (.slice eo em ec) (.slice go s.2.length gc) es (ntI s.2) wr HI.out.edges HD1.out.m_le (by omega) (own_ints HI.out.own) (by rw [ntI_len]; omega))
      have HDG := Lib.hid (fun W B v (h : OwnPr W B v (cst (subE es (othN n (ntI s.2))))) => dg_sub h (by have := othN_len n (ntI s.2); omega) HD1.out.m_le)
      have hvl := hmat.1
      have hs1 := (lps_ok n es k).len
      rw [hs] at hs1
      have HVL := Lib.hid hvl
      have c0 := HI.out.gb.cell 0
      have c1 := HI.out.gb.cell 1
      have l0 := HI.out.gb.lt
      have hvlen : vals.length ≤ 100 := by omega
      clear hmat hs hs1 hvl
      generalize hgl : s.2.length = gl at *
      have HGL := Lib.hid hgl
      clear hgl
      generalize hvl : vals.length = vl at *
      have HVN := Lib.hid hvl
      clear hvl
      go_wp2_with fail
      refine HOT.out.mono ?_
      rintro e w2 ⟨nv, sv, rfl, ho, hb2⟩
      have HI2 := Lib.hid (HI.out.below hb2)
      have HN2 := Lib.hid ho.out.1
      have HLO := Lib.hid (loop_any _ sv _ w2 (HDG.out _ _ _ ho.out.2))
      obtain ⟨no, nc, rfl⟩ := ho.out.1.shape
      obtain ⟨so, sc, rfl⟩ := OwnN.shape ho.out.2
      have hwr : wr.heap.size ≤ w2.heap.size := hb2.size
      clear HI hb2 ho HOT HDG c0 c1 l0
      unfold LoopPost at HLO
      generalize (cst (subE es (othN n (ntI s.2)))).length = sl at *
      cases hq : loopOf (othN n (ntI s.2)).length (subE es (othN n (ntI s.2))) with
      | none =>
        rw [hq] at HLO
        have HLC := Lib.hid (lps_done hk (by rw [HS.out]; exact lop_none hq))
        rw [HS.out] at HLC
        clear hq
        generalize (othN n (ntI s.2)).length = ol at *
        go_wp2_with fail
        refine HLO.out.mono ?_
        rintro e w3 ⟨rfl, hb3⟩
        have HI3 := Lib.hid (HI2.out.below hb3)
        clear hb3 HLO
        go_wp2
        go_ret2
        have HF : LpsPost w (0, lpsC n es) (.returned (.tuple #[.slice oo vl oc, .int .i64 0])) w3 := by
          rw [HLC.out]
          exact ⟨_, rfl, ⟨vals, HI3.out.mat.mono (by omega)⟩, bstep HB1.out (by rw [hG]; exact HI3.out.low)⟩
        exact HF
      | some D =>
        rw [hq] at HLO
        have hlc := lop_some hq
        have hD := (loop_some (subE_ends es (othN n (ntI s.2))) (all_far _ _) _ (Nat.le_refl _) D hq)
        have hDl : D.length ≤ 60 := by
          have h1 := (loop_some (subE_ends es (othN n (ntI s.2))) (all_far _ _) _ (Nat.le_refl _) D hq)
          have h2 := sub_len D (List.range (othN n (ntI s.2)).length) h1.nodup (fun x hx => List.mem_range.2 (h1.lt x hx))
          have h3 := othN_len n (ntI s.2)
          rw [List.length_range] at h2
          omega
        have HDL := Lib.hid hD.lt
        have HLC := Lib.hid hlc
        clear hq hD hlc
        have HNM := Lib.hid (fun W u (h1 : Own W wr.heap.size 3 natf (.slice no (othN n (ntI s.2)).length nc) (othN n (ntI s.2))) (hu : Nats W u D) => cnamed_any _ u _ D W h1.sl hu (by omega) HDL.out)
        generalize hol : (othN n (ntI s.2)).length = ol at *
        clear hol
        go_wp2_with fail
        refine HLO.out.mono ?_
        rintro e w3 ⟨⟨u, rfl, hu⟩, hb3⟩
        have HI3 := Lib.hid (HI2.out.below hb3)
        have HN3 := Lib.hid (HN2.out.below hb3)
        have HNM3 := Lib.hid (HNM.out w3 u HN3.out hu.sl)
        obtain ⟨uo, uc, rfl⟩ := hu.shape
        have hw3 : w2.heap.size ≤ w3.heap.size := hb3.size
        clear hb3 hu HLO HNM HI2 HN2 HDL
        generalize D.length = dl at *
        go_wp2_with fail
        refine HNM3.out.mono ?_
        rintro e w4 ⟨lv, rfl, hL, hb4⟩
        have HI4 := Lib.hid (HI3.out.below hb4)
        have hw4 : w3.heap.size ≤ w4.heap.size := hb4.size
        have HLR := Lib.hid hL.out
        obtain ⟨lo, lc, rfl⟩ := hL.out.shape
        obtain ⟨L, hLe⟩ : ∃ L, namN (othN n (ntI s.2)) D = L := ⟨_, rfl⟩
        rw [hLe] at HLR HLC
        have HK1 : Hid (lpsK n es (k + 1) = (s.1 ++ [L], s.2 ++ L)) := by
          have := lpsK_some (n := n) (es := es) (k := k) (L := L) (by rw [HS.out]; exact HLC.out)
          rw [HS.out] at this
          exact this
        have hL1 : gl + L.length ≤ n := by
          have := lps_size n es (k + 1)
          rw [HK1.out, List.length_append, HGL.out] at this
          exact this
        have hLpos := (lop_is HLC.out).pos
        have hkn : k < n := lps_lt hk (by rw [HS.out, HLC.out]; simp)
        have HFR := Lib.hid (fun g (e : (Value.slice lo L.length lc).ownBlock = some g) => (show (∀ (k : Nat) u, vals[k]? = some u → u.ownBlock ≠ some g) ∧ (Value.slice go gl gc).ownBlock ≠ some g from
          ⟨fun k u hu e2 => by have h1 := (HLR.out.lt g e).1; have h2 := MatVals.old HI3.out.mat k u hu g e2; omega, fun e2 => by have h1 := (HLR.out.lt g e).1; have h2 := (HI3.out.own.lt g e2).2; omega⟩))
        rw [hLe]
        clear hb4 hL HNM3 HN3 hLe HS
        have hG4 := HI4.out.sz
        have hG3 := HI3.out.sz
        have HLV := Lib.hid (HLR.out.mono hG3)
        have HO4 := Lib.hid HI4.out.mat.2.1
        have hvl1 : vals.length + 1 ≤ 1099511627776 := by have := HVN.out; omega
        clear HI3
        generalize hll : L.length = ll at *
        have HLL := Lib.hid hll
        clear hll
        go_wp2_with (first
          | (at_builtin; refine wpList_pushO w4 w4.heap.size rfl rfl _ _ 36 rfl 24 24 elemRow (G + 1) rowf _ vals (.slice lo ll lc) rfl HO4.out rfl rfl hvl1 (by omega) hG4 ?_; intro o5 w5 ho5 hg5 _; have HO5 := Lib.hid ho5; have HG5 := Lib.hid hg5; have HGV5 := Lib.hid (HI4.out.own.only hg5 (HI4.out.own.apart HO4.out (by decide))); have HLV5 := Lib.hid (HLV.out.only hg5 (HLV.out.apart HO4.out (by decide))); have hG5 : G + 1 ≤ w5.heap.size := Nat.le_trans hG4 hg5.size; obtain ⟨po, pc, hpo⟩ := ho5.shape; obtain ⟨q5, hq5⟩ : ∃ q, (vals ++ [Value.slice lo ll lc]).length = q := ⟨_, rfl⟩; rw [hq5] at hpo; subst hpo; clear ho5 hg5 hq5)
          | (at_builtin; refine wpList_app w5 rfl _ _ 24 rfl 3 8 elemInt (G + 1) (G + 1) natf _ _ s.2 L (fun _ => rfl) HGV5.out HLV5.out rfl rfl (by have h1 := HLL.out; have h2 := HGL.out; omega) (by omega) hG5 ?_; intro g6 w6 ho6 hg6 hat6; have HO6 := Lib.hid ho6; have HG6 := Lib.hid hg6; have HAT := Lib.hid hat6; obtain ⟨ro, rc, hro⟩ := ho6.shape; obtain ⟨q6, hq6⟩ : ∃ q, (s.2 ++ L).length = q := ⟨_, rfl⟩; rw [hq6] at hro; subst hro; have HQ6 := Lib.hid hq6; clear ho6 hg6 hat6 hq6))
        have HF := Lib.hid (HI4.out.push HLV.out HFR.out HO5.out HG5.out HO6.out HG6.out HAT.out)
        rw [← HK1.out] at HF
        have hq6l : q6 = gl + ll := by have h1 := HQ6.out; have h2 := HGL.out; have h3 := HLL.out; rw [List.length_append] at h1; omega
        go_roundw
        case rel => exact ⟨k + 1, _, by omega, HF.out⟩
        case measure => simp [lenV]; omega
  · have HB := Lib.hid (cbegin_bad v vr xv X l rs w hC.hA hC.hx hC.hlx _ rfl hc)
    have HR : Hid (lpsF (sqC l rs X) (lgsOf l rs).length (sqEs l rs X) = (sqC l rs X, [])) := if_neg hc
    generalize sqC l rs X = c at *
    have hb : (c != 0) = true := bne_yes hc
    clear hC hc
    go_enter Tryz.func15, Tryz.ntmps15
    go_wp2_with fail
    refine HB.out.mono ?_
    rintro e w1 ⟨rfl, hb1⟩
    have HB1 := Lib.hid hb1
    clear hb1 HB
    go_wp2
    go_ret2
    rw [HR.out]
    exact ⟨_, rfl, Mat.nil _ _, bstep HB1.out (below_new _ _)⟩
set_option maxHeartbeats 2000000 in
theorem cbound_any (v vr xv : Value) (X : List Int) (l : List BarD) (rs : List RunD) (w : World) (hC : Cg w v vr xv X l rs) (R : Int × List (List Nat)) (hR : lpsF (sqC l rs X) (lgsOf l rs).length (sqEs l rs X) = R) :
    Calls Tryz.prog 16 #[v, vr, xv] w fun e w' => e = .returned (.tuple #[.int .i64 (R.2.length : Int), .int .i64 R.1]) ∧ Below w.heap.size w w' := by
  have HO := Lib.hid (cloops_any v vr xv X l rs w hC)
  rw [hR] at HO
  clear hC hR
  go_enter Tryz.func16, Tryz.ntmps16
  go_wp2_with fail
  refine HO.out.mono ?_
  rintro e w1 ⟨o, rfl, ⟨vals, hm⟩, hb1⟩
  have hl := hm.1
  obtain ⟨oo, oc, rfl⟩ := hm.2.1.shape
  have HB1 := Lib.hid hb1
  have HRL := Lib.hid hl
  clear hm hb1 HO hl
  obtain ⟨vl, hvl⟩ : ∃ vl, R.2.length = vl := ⟨_, rfl⟩
  rw [hvl] at HRL
  obtain rfl := HRL.out
  have HVL := Lib.hid hvl
  clear hvl HRL
  generalize vals.length = vl at *
  go_wp2
  go_ret2
  exact ⟨by rw [HVL.out]; rfl, HB1.out⟩
end
end Go.Proofs.YtamogedpgkofjaaGreat
