/-
  Couplers: Order, Check.
-/
import Derived.Test.YtamogedpgkofjaaGreatCpx
namespace Go.Proofs.YtamogedpgkofjaaGreat
section
open Go.RowKit
set_option linter.unusedVariables false
set_option linter.unusedSimpArgs false
attribute [local go_sem ↓] Go.wp_at_zero Go.wp_at_succ

/-- The error and the order with couplers. -/
def ordF (c : Int) (n : Nat) (es : List (Nat × Nat)) (q : List Int) : Int × List Nat := if c = 0 then (if gvnC n q = 0 then ordR n es q else (gvnC n q, [])) else (c, [])
theorem gvn_codes (n : Nat) (q : List Int) : gvnC n q = 0 ∨ gvnC n q = 2 ∨ gvnC n q = 10 := by
  unfold gvnC
  split
  · exact .inr (.inl rfl)
  · split
    · exact .inl rfl
    · exact .inr (.inr rfl)
/-- The edges of a good cage. -/
structure Cg (w : World) (v vr xv : Value) (X : List Int) (l : List BarD) (rs : List RunD) : Prop where
  hA : SqA w v vr l rs
  hx : Ints w xv X
  hlx : X.length ≤ 140737488355328
theorem Cg.below {w W : World} {v vr xv : Value} {X : List Int} {l : List BarD} {rs : List RunD} (h : Cg w v vr xv X l rs) (hb : Below w.heap.size w W) : Cg W v vr xv X l rs := ⟨h.hA.below hb, Sl.below h.hx hb, h.hlx⟩
set_option maxRecDepth 100000 in
set_option maxHeartbeats 4000000 in
theorem corderF_any (v vr xv qv : Value) (X q : List Int) (l : List BarD) (rs : List RunD) (w : World) (hC : Cg w v vr xv X l rs) (hq : Ints w qv q) (hlq : q.length ≤ 1000) :
    Calls Tryz.prog 20 #[v, vr, xv, qv] w (LPost w (ordF (sqC l rs X) (lgsOf l rs).length (sqEs l rs X) q)) := by
  by_cases hc : sqC l rs X = 0
  · have HB := Lib.hid (cbegin_good v vr xv X l rs w hC.hA hC.hx hC.hlx hc)
    rw [hc]
    generalize sqEs l rs X = es at *
    generalize (lgsOf l rs).length = n at *
    have HQ := Lib.hid hq
    obtain ⟨qo, qc, rfl⟩ := Sl.at_ hq
    clear hC hc hq
    generalize hql : q.length = ql at *
    go_enter Tryz.func20, Tryz.ntmps20
    go_wp2_with fail
    refine HB.out.mono ?_
    rintro e w1 ⟨o, rfl, hd, hb1⟩
    have HB1 := Lib.hid hb1
    obtain ⟨eo, ec, rfl, hop⟩ := hd.pairs.open_
    have HD1 := Lib.hid hd
    clear hb1 hd HB hop
    generalize hem : es.length = em at *
    have HEM := Lib.hid hem
    clear hem
    obtain ⟨W2, hW2⟩ : ∃ W2, w1.alloc (.cells #[.int .i64 (n : Int), .slice eo em ec] 75) = W2 := ⟨_, rfl⟩
    have HW2 : Hid (Below w1.heap.size w1 W2 ∧ BlkIs W2 w1.heap.size 75 #[.int .i64 (n : Int), .slice eo em ec]) := by
      rw [← hW2]
      exact ⟨below_new _ _, BlkIs.new _ _ _⟩
    have HQ2 := Lib.hid (fun W (hW : Below w1.heap.size w1 W) => Sl.below HQ.out (bstep HB1.out hW))
    have HG := Lib.hid (cgiven_any n (.slice eo em ec) (.slice qo ql qc) q W2 (HQ2.out W2 HW2.out.1) (by omega))
    have c0 := HW2.out.2.cell 0
    have c1 := HW2.out.2.cell 1
    have l0 := HW2.out.2.lt
    go_wp2_with fail
    (try rw [hW2])
    clear hW2 c0 c1 l0
    refine HG.out.mono ?_
    rintro e w3 ⟨rfl, hb3⟩
    have HB3 := Lib.hid (bstep HW2.out.1 hb3)
    have BG := Lib.hid (HW2.out.2.below hb3)
    clear hb3 HG HW2
    by_cases hg : gvnC n q = 0
    · have HR : Hid (ordF 0 n es q = ordR n es q) := by unfold Hid ordF; rw [if_pos rfl, if_pos hg]
      rw [hg]
      have HO := Lib.hid (corder_any n (.slice eo em ec) (.slice qo ql qc) es q w3 (HD1.out.pairs.below HB3.out) HD1.out.m_le HD1.out.n_le (HQ2.out w3 HB3.out) (by omega))
      have c0 := BG.out.cell 0
      have c1 := BG.out.cell 1
      have l0 := BG.out.lt
      generalize ordR n es q = R at *
      clear hg
      go_wp2_with fail
      refine HO.out.mono ?_
      rintro e w4 ⟨o, rfl, ho, hb4⟩
      have HO4 := Lib.hid ho
      have HB4 := Lib.hid (bstep HB1.out (bstep HB3.out hb4))
      have hsz := (bstep HB1.out HB3.out).size
      obtain ⟨oo, oc, rfl⟩ := ho.shape
      clear ho hb4 HO
      go_wp2
      go_ret2
      have HF : LPost w (ordF 0 n es q) (.returned (.tuple #[.slice oo R.2.length oc, .int .i64 R.1])) w4 := by
        rw [HR.out]
        exact ⟨_, rfl, HO4.out.mono hsz, HB4.out⟩
      exact HF
    · have HR : Hid (ordF 0 n es q = (gvnC n q, [])) := by unfold Hid ordF; rw [if_pos rfl, if_neg hg]
      generalize gvnC n q = c at *
      have hb : (c != 0) = true := bne_yes hg
      clear hg
      go_wp2
      go_ret2
      exact lpost_nil HR.out (bstep HB1.out HB3.out)
  · have HB := Lib.hid (cbegin_bad v vr xv X l rs w hC.hA hC.hx hC.hlx _ rfl hc)
    have HR : Hid (ordF (sqC l rs X) (lgsOf l rs).length (sqEs l rs X) q = (sqC l rs X, [])) := if_neg hc
    generalize sqC l rs X = c at *
    have hb : (c != 0) = true := bne_yes hc
    clear hC hq hc
    go_enter Tryz.func20, Tryz.ntmps20
    go_wp2_with fail
    refine HB.out.mono ?_
    rintro e w1 ⟨rfl, hb1⟩
    have HB1 := Lib.hid hb1
    clear hb1 HB
    go_wp2
    go_ret2
    exact lpost_nil HR.out (bstep HB1.out (below_new _ _))
theorem ordF_ok {n : Nat} {es : List (Nat × Nat)} {q : List Int} {R : Int × List Nat} (h : ordF 0 n es q = R) (h0 : R.1 = 0) : gvnC n q = 0 ∧ ordC n es q = some R.2 := by
  subst h
  unfold ordF at h0 ⊢
  rw [if_pos rfl] at h0 ⊢
  by_cases hg : gvnC n q = 0
  · rw [if_pos hg] at h0 ⊢
    unfold ordR at h0 ⊢
    cases ho : ordC n es q with
    | none => rw [ho] at h0; simp at h0
    | some D => exact ⟨hg, rfl⟩
  · rw [if_neg hg] at h0
    exact absurd h0 hg
/-- What Check says of an error. -/
def chkF (c : Int) : Bool × Int := (decide (c = 0), if c = 23 then 0 else c)
set_option maxHeartbeats 4000000 in
theorem ccheck_any (v vr xv qv : Value) (X q : List Int) (l : List BarD) (rs : List RunD) (w : World) (hC : Cg w v vr xv X l rs) (hq : Ints w qv q) (hlq : q.length ≤ 1000) (R : Int × List Nat) (hR : ordF (sqC l rs X) (lgsOf l rs).length (sqEs l rs X) q = R) (z : Bool × Int) (hz : chkF R.1 = z) :
    Calls Tryz.prog 19 #[v, vr, xv, qv] w fun e w' => e = .returned (.tuple #[.bool z.1, .int .i64 z.2]) ∧ Below w.heap.size w w' := by
  have HO := Lib.hid (corderF_any v vr xv qv X q l rs w hC hq hlq)
  rw [hR] at HO
  clear hC hq hlq hR
  obtain ⟨c, D⟩ := R
  obtain ⟨z1, z2⟩ := z
  unfold chkF at hz
  simp only [Prod.mk.injEq] at hz
  obtain ⟨hz1, hz2⟩ := hz
  by_cases h23 : c = 23
  · subst h23
    have e1 : z1 = false := by rw [← hz1]; rfl
    have e2 : z2 = 0 := by rw [← hz2]; rfl
    subst e1
    subst e2
    clear hz1 hz2
    go_enter Tryz.func19, Tryz.ntmps19
    go_wp2_with fail
    refine HO.out.mono ?_
    rintro e w1 ⟨o, rfl, ho, hb1⟩
    obtain ⟨oo, oc, rfl⟩ := ho.shape
    have HB1 := Lib.hid hb1
    clear ho hb1 HO
    generalize D.length = dl at *
    go_wp2
    go_ret2
    exact ⟨rfl, HB1.out⟩
  · have d1 : (c == 23) = false := beq_no h23
    have d4 : decide (c = 23) = false := dec_no h23
    rw [if_neg h23] at hz2
    subst hz2
    go_enter Tryz.func19, Tryz.ntmps19
    go_wp2_with fail
    refine HO.out.mono ?_
    rintro e w1 ⟨o, rfl, ho, hb1⟩
    obtain ⟨oo, oc, rfl⟩ := ho.shape
    have HB1 := Lib.hid hb1
    clear ho hb1 HO
    generalize D.length = dl at *
    by_cases h0 : c = 0
    · subst h0
      have e1 : z1 = true := by rw [← hz1]; rfl
      subst e1
      clear hz1
      go_wp2
      go_ret2
      exact ⟨rfl, HB1.out⟩
    · have d2 : (c == 0) = false := beq_no h0
      have d5 : decide (c = 0) = false := dec_no h0
      have e1 : z1 = false := by rw [← hz1]; exact d5
      subst e1
      clear h0 h23 hz1
      go_wp2
      go_ret2
      exact ⟨rfl, HB1.out⟩
end
end Go.Proofs.YtamogedpgkofjaaGreat
