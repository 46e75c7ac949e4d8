/-
  The hull of a laid bar; how many; the mark of one.
-/
import Derived.Test.YtpidjgljeooblaaLgs
namespace Go.Proofs.Ytpidjgljeooblaa
open Go.RowKit
set_option linter.unusedVariables false
set_option linter.unusedSimpArgs false

def HullPost (w : World) (l : List BarD) (rs : List RunD) (i : Int) (e : Ending) (w' : World) : Prop :=
  (∃ (q : List Pt), 0 ≤ i ∧ (laidPts l rs)[i.toNat]? = some q ∧ e = .returned (.tuple #[bxv (hullP q), .int .i64 0]) ∧ Below w.heap.size w w') ∨
  ((i < 0 ∨ (cumN rs : Int) ≤ i) ∧ e = .returned (.tuple #[.agg #[.int .i64 0, .int .i64 0, .int .i64 0, .int .i64 0, .int .i64 0, .int .i64 0], .int .i64 2]) ∧ Below w.heap.size w w')
theorem hull_bad (v vr : Value) (i : Int) (l : List BarD) (rs : List RunD) (w : World) (hp : Bars w v l) (hr : Runs w vr rs) (hl : l.length ≤ 140737488355328) (hlr : rs.length ≤ 140737488355328) (hf : FitB l) (h : laidOk l rs = false) :
    Calls Try.prog 13 #[v, vr, .int .i64 i] w fun e w' => e = .returned (.tuple #[.agg #[.int .i64 0, .int .i64 0, .int .i64 0, .int .i64 0, .int .i64 0, .int .i64 0], .int .i64 1]) ∧ Below w.heap.size w w' := by
  have hb0 := below_new w (.cells #[.int .i64 0, .int .i64 0, .int .i64 0, .int .i64 0, .int .i64 0, .int .i64 0] 33)
  have HB := Lib.hid (path_bad v vr i l rs _ (hp.below hb0) (hr.below hb0) hl hlr hf h)
  clear hp hr h
  go_enter Try.func13, Try.ntmps13
  go_wp2_with fail
  refine HB.out.mono ?_
  rintro e w1 ⟨rfl, hb1⟩
  have HB1 := Lib.hid (bstep hb0 hb1)
  have hx := (BlkIs.new w #[.int .i64 0, .int .i64 0, .int .i64 0, .int .i64 0, .int .i64 0, .int .i64 0] 33).below hb1
  have e0 := hx.cell 0
  have e1 := hx.cell 1
  have e2 := hx.cell 2
  have e3 := hx.cell 3
  have e4 := hx.cell 4
  have e5 := hx.cell 5
  have ef := hx.free
  clear hb1 hx hb0
  go_wp2
  refine bodyPost_ret (v := .tuple #[.agg #[.int .i64 0, .int .i64 0, .int .i64 0, .int .i64 0, .int .i64 0, .int .i64 0], .int .i64 1]) (by simp [results, Try.results13, go_sem, e0, e1, e2, e3, e4, e5, ef]) rfl ⟨rfl, ?_⟩
  exact HB1.out.grown (grown_set6 _ _ _ _ _ _ _ _) HB1.out.size (fun g e => by cases e; exact Nat.le_refl _)

set_option maxRecDepth 100000 in
set_option maxHeartbeats 2000000 in
theorem hull_good (v vr : Value) (i : Int) (l : List BarD) (rs : List RunD) (w : World) (hp : Bars w v l) (hr : Runs w vr rs) (hl : l.length ≤ 140737488355328) (hlr : rs.length ≤ 140737488355328) (hf : FitB l) (h : laidOk l rs = true) :
    Calls Try.prog 13 #[v, vr, .int .i64 i] w (HullPost w l rs i) := by
  have hb0 := below_new w (.cells #[.int .i64 0, .int .i64 0, .int .i64 0, .int .i64 0, .int .i64 0, .int .i64 0] 33)
  have HG := Lib.hid (path_good v vr i l rs _ (hp.below hb0) (hr.below hb0) hl hlr hf h)
  have HN := Lib.hid (fun k q (hq : (laidPts l rs)[k]? = some q) => laid_near h hq)
  clear hp hr h
  go_enter Try.func13, Try.ntmps13
  go_wp2_with fail
  refine HG.out.mono ?_
  rintro e w1 (⟨q, o, hi0, hq, rfl, ho, hb1⟩ | ⟨hi, rfl, hb1⟩)
  · obtain ⟨n1, n2, n3⟩ := HN.out _ _ hq
    obtain ⟨oo, oc, rfl⟩ := OwnN.shape ho
    have HPO := Lib.hid (points_any _ q w1 (OwnN.fl pt_len ho) (by omega))
    have HQ := Lib.hid (And.intro hi0 hq)
    have HB1 := Lib.hid (bstep hb0 hb1)
    have HX1 := Lib.hid ((BlkIs.new w #[.int .i64 0, .int .i64 0, .int .i64 0, .int .i64 0, .int .i64 0, .int .i64 0] 33).below hb1)
    have HNE := Lib.hid (And.intro n1 n3)
    clear hb1 hi0 hq n1 n3 ho hb0
    go_wp2_with fail
    refine HPO.out.mono ?_
    rintro e w5 ⟨o5, rfl, HO5, hb5⟩
    have HBH := Lib.hid (bhull_any o5 (q.map pb) (pb (q.getD 0 ⟨0, 0, 0⟩)) w5 (OwnN.fl bx_len HO5.out) (by simp; omega) (by
      rw [List.getElem?_map, List.getD_eq_getElem?_getD, List.getElem?_eq_getElem HNE.out.2]; rfl) (by
      rw [List.all_map, List.all_eq_true]
      intro p hp
      exact pb_ok (List.all_eq_true.1 HNE.out.1 p hp)))
    have HB5 := Lib.hid (bstep HB1.out hb5)
    have HX5 := Lib.hid (HX1.out.below hb5)
    clear hb5
    go_wp2_with fail
    refine HBH.out.mono ?_
    rintro e w6 ⟨rfl, hb6⟩
    have HLB : Hid (hullN (pb (q.getD 0 ⟨0, 0, 0⟩)) (q.map pb) (q.map pb).length = hullP q) := rfl
    rw [HLB.out]
    have HB6 := Lib.hid (bstep HB5.out hb6)
    have hx := HX5.out.below hb6
    have e0 := hx.cell 0
    have e1 := hx.cell 1
    have e2 := hx.cell 2
    have e3 := hx.cell 3
    have e4 := hx.cell 4
    have e5 := hx.cell 5
    have ef := hx.free
    have HF : Hid (∀ (w' : World), Below w.heap.size w w' → HullPost w l rs i (.returned (.tuple #[bxv (hullP q), .int .i64 0])) w') := fun w' hb => .inl ⟨q, HQ.out.1, HQ.out.2, rfl, hb⟩
    generalize hullP q = hq at *
    clear hb6 hx
    go_wp2
    refine bodyPost_ret (v := .tuple #[bxv hq, .int .i64 0]) (by simp [results, Try.results13, go_sem, e0, e1, e2, e3, e4, e5, ef]) rfl ?_
    exact HF.out _ (HB6.out.grown (grown_set6 _ _ _ _ _ _ _ _) HB6.out.size (fun g e => by cases e; exact Nat.le_refl _))
  · have HI := Lib.hid hi
    have HB1 := Lib.hid (bstep hb0 hb1)
    have hx := (BlkIs.new w #[.int .i64 0, .int .i64 0, .int .i64 0, .int .i64 0, .int .i64 0, .int .i64 0] 33).below hb1
    have e0 := hx.cell 0
    have e1 := hx.cell 1
    have e2 := hx.cell 2
    have e3 := hx.cell 3
    have e4 := hx.cell 4
    have e5 := hx.cell 5
    have ef := hx.free
    clear hb1 hi hx hb0
    go_wp2
    refine bodyPost_ret (v := .tuple #[.agg #[.int .i64 0, .int .i64 0, .int .i64 0, .int .i64 0, .int .i64 0, .int .i64 0], .int .i64 2]) (by simp [results, Try.results13, go_sem, e0, e1, e2, e3, e4, e5, ef]) rfl ?_
    exact .inr ⟨HI.out, rfl, HB1.out.grown (grown_set6 _ _ _ _ _ _ _ _) HB1.out.size (fun g e => by cases e; exact Nat.le_refl _)⟩
end Go.Proofs.Ytpidjgljeooblaa
