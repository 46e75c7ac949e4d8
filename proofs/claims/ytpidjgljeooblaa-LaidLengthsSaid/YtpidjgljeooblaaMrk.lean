/-
  The hull of a laid bar; how many; the mark of one. How many laid bars; the mark of one.
-/
import Derived.Test.YtpidjgljeooblaaLgs
namespace Go.Proofs.Ytpidjgljeooblaa
section
open Go.RowKit
set_option linter.unusedVariables false
set_option linter.unusedSimpArgs false

def HullPost (w : World) (l : List BarD) (rs : List RunD) (i : Int) (e : Ending) (w' : World) : Prop :=
  (∃ (q : List Pt), 0 ≤ i ∧ (laidPts l rs)[i.toNat]? = some q ∧ e = .returned (.tuple #[bxv (hullP q), .int .i64 0]) ∧ Below w.heap.size w w') ∨
  ((i < 0 ∨ (cumN rs : Int) ≤ i) ∧ e = .returned (.tuple #[.agg #[.int .i64 0, .int .i64 0, .int .i64 0, .int .i64 0, .int .i64 0, .int .i64 0], .int .i64 2]) ∧ Below w.heap.size w w')
theorem hull_bad (v vr : Value) (i : Int) (l : List BarD) (rs : List RunD) (w : World) (hp : Bars w v l) (hr : Runs w vr rs) (hl : l.length ≤ 140737488355328) (hlr : rs.length ≤ 140737488355328) (hf : FitB l) (h : laidOk l rs = false) :
    Calls Try.prog 13 #[v, vr, .int .i64 i] w fun e w' => e = .returned (.tuple #[.agg #[.int .i64 0, .int .i64 0, .int .i64 0, .int .i64 0, .int .i64 0, .int .i64 0], .int .i64 1]) ∧ Below w.heap.size w w' := by
  have hb0 := below_new w (.cells #[.int .i64 0, .int .i64 0, .int .i64 0, .int .i64 0, .int .i64 0, .int .i64 0] 33)
  have HB := Lib.hid (path_bad v vr i l rs _ (hp.below hb0) (hr.below hb0) hl hlr hf h)
  clear hp hr h
  go_enter Try.func13, Try.ntmps13
  go_wp2_with fail
  refine HB.out.mono ?_
  rintro e w1 ⟨rfl, hb1⟩
  have HB1 := Lib.hid (bstep hb0 hb1)
  have hx := (BlkIs.new w #[.int .i64 0, .int .i64 0, .int .i64 0, .int .i64 0, .int .i64 0, .int .i64 0] 33).below hb1
  have e0 := hx.cell 0
  have e1 := hx.cell 1
  have e2 := hx.cell 2
  have e3 := hx.cell 3
  have e4 := hx.cell 4
  have e5 := hx.cell 5
  have ef := hx.free
  clear hb1 hx hb0
  go_wp2
  refine bodyPost_ret (v := .tuple #[.agg #[.int .i64 0, .int .i64 0, .int .i64 0, .int .i64 0, .int .i64 0, .int .i64 0], .int .i64 1]) (by simp [results, Try.results13, go_sem, e0, e1, e2, e3, e4, e5, ef]) rfl ⟨rfl, ?_⟩
  exact HB1.out.grown (grown_set6 _ _ _ _ _ _ _ _) HB1.out.size (fun g e => by cases e; exact Nat.le_refl _)

set_option maxRecDepth 100000 in
set_option maxHeartbeats 2000000 in
theorem hull_good (v vr : Value) (i : Int) (l : List BarD) (rs : List RunD) (w : World) (hp : Bars w v l) (hr : Runs w vr rs) (hl : l.length ≤ 140737488355328) (hlr : rs.length ≤ 140737488355328) (hf : FitB l) (h : laidOk l rs = true) :
    Calls Try.prog 13 #[v, vr, .int .i64 i] w (HullPost w l rs i) := by
  have hb0 := below_new w (.cells #[.int .i64 0, .int .i64 0, .int .i64 0, .int .i64 0, .int .i64 0, .int .i64 0] 33)
  have HG := Lib.hid (path_good v vr i l rs _ (hp.below hb0) (hr.below hb0) hl hlr hf h)
  have HN := Lib.hid (fun k q (hq : (laidPts l rs)[k]? = some q) => laid_near h hq)
  clear hp hr h
  go_enter Try.func13, Try.ntmps13
  go_wp2_with fail
  refine HG.out.mono ?_
  rintro e w1 (⟨q, o, hi0, hq, rfl, ho, hb1⟩ | ⟨hi, rfl, hb1⟩)
  · obtain ⟨n1, n2, n3⟩ := HN.out _ _ hq
    obtain ⟨oo, oc, rfl⟩ := OwnN.shape ho
    have HPO := Lib.hid (points_any _ q w1 (OwnN.fl pt_len ho) (by omega))
    have HQ := Lib.hid (And.intro hi0 hq)
    have HB1 := Lib.hid (bstep hb0 hb1)
    have HX1 := Lib.hid ((BlkIs.new w #[.int .i64 0, .int .i64 0, .int .i64 0, .int .i64 0, .int .i64 0, .int .i64 0] 33).below hb1)
    have HNE := Lib.hid (And.intro n1 n3)
    clear hb1 hi0 hq n1 n3 ho hb0
    go_wp2_with fail
    refine HPO.out.mono ?_
    rintro e w5 ⟨o5, rfl, HO5, hb5⟩
    have HBH := Lib.hid (bhull_any o5 (q.map pb) (pb (q.getD 0 ⟨0, 0, 0⟩)) w5 (OwnN.fl bx_len HO5.out) (by simp; omega) (by
      rw [List.getElem?_map, List.getD_eq_getElem?_getD, List.getElem?_eq_getElem HNE.out.2]; rfl) (by
      rw [List.all_map, List.all_eq_true]
      intro p hp
      exact pb_ok (List.all_eq_true.1 HNE.out.1 p hp)))
    have HB5 := Lib.hid (bstep HB1.out hb5)
    have HX5 := Lib.hid (HX1.out.below hb5)
    clear hb5
    go_wp2_with fail
    refine HBH.out.mono ?_
    rintro e w6 ⟨rfl, hb6⟩
    have HLB : Hid (hullN (pb (q.getD 0 ⟨0, 0, 0⟩)) (q.map pb) (q.map pb).length = hullP q) := rfl
    rw [HLB.out]
    have HB6 := Lib.hid (bstep HB5.out hb6)
    have hx := HX5.out.below hb6
    have e0 := hx.cell 0
    have e1 := hx.cell 1
    have e2 := hx.cell 2
    have e3 := hx.cell 3
    have e4 := hx.cell 4
    have e5 := hx.cell 5
    have ef := hx.free
    have HF : Hid (∀ (w' : World), Below w.heap.size w w' → HullPost w l rs i (.returned (.tuple #[bxv (hullP q), .int .i64 0])) w') := fun w' hb => .inl ⟨q, HQ.out.1, HQ.out.2, rfl, hb⟩
    generalize hullP q = hq at *
    clear hb6 hx
    go_wp2
    refine bodyPost_ret (v := .tuple #[bxv hq, .int .i64 0]) (by simp [results, Try.results13, go_sem, e0, e1, e2, e3, e4, e5, ef]) rfl ?_
    exact HF.out _ (HB6.out.grown (grown_set6 _ _ _ _ _ _ _ _) HB6.out.size (fun g e => by cases e; exact Nat.le_refl _))
  · have HI := Lib.hid hi
    have HB1 := Lib.hid (bstep hb0 hb1)
    have hx := (BlkIs.new w #[.int .i64 0, .int .i64 0, .int .i64 0, .int .i64 0, .int .i64 0, .int .i64 0] 33).below hb1
    have e0 := hx.cell 0
    have e1 := hx.cell 1
    have e2 := hx.cell 2
    have e3 := hx.cell 3
    have e4 := hx.cell 4
    have e5 := hx.cell 5
    have ef := hx.free
    clear hb1 hi hx hb0
    go_wp2
    refine bodyPost_ret (v := .tuple #[.agg #[.int .i64 0, .int .i64 0, .int .i64 0, .int .i64 0, .int .i64 0, .int .i64 0], .int .i64 2]) (by simp [results, Try.results13, go_sem, e0, e1, e2, e3, e4, e5, ef]) rfl ?_
    exact .inr ⟨HI.out, rfl, HB1.out.grown (grown_set6 _ _ _ _ _ _ _ _) HB1.out.size (fun g e => by cases e; exact Nat.le_refl _)⟩
end

section
open Go.RowKit
set_option linter.unusedVariables false
set_option linter.unusedSimpArgs false

def laidMarks (rs : List RunD) : List ByteArray := rs.flatMap fun r => List.replicate r.count.toNat r.mark
theorem laidMarks_len (rs : List RunD) : (laidMarks rs).length = cumN rs := by
  induction rs with
  | nil => rfl
  | cons r rs ih =>
    have e : laidMarks (r :: rs) = List.replicate r.count.toNat r.mark ++ laidMarks rs := rfl
    have e2 : cumN (r :: rs) = r.count.toNat + cumN rs := by simp [cumN]
    rw [e, List.length_append, ih, e2]; simp
theorem laidMarks_at {rs : List RunD} {i k : Nat} {r : RunD} (hr : rs[i]? = some r) (hk : k < r.count.toNat) : (laidMarks rs)[cumN (rs.take i) + k]? = some r.mark := by
  have hi := (List.getElem?_eq_some_iff.1 hr).1
  have e : laidMarks rs = laidMarks (rs.take i) ++ laidMarks (rs.drop i) := by
    unfold laidMarks
    rw [← List.flatMap_append, List.take_append_drop]
  have e2 : rs.drop i = r :: rs.drop (i + 1) := by rw [List.drop_eq_getElem_cons hi, (List.getElem?_eq_some_iff.1 hr).2]
  have e3 : laidMarks (rs.drop i) = List.replicate r.count.toNat r.mark ++ laidMarks (rs.drop (i + 1)) := by rw [e2]; rfl
  rw [e, List.getElem?_append_right (by rw [laidMarks_len]; omega), laidMarks_len, e3, List.getElem?_append_left (by simp; omega)]
  simp [hk]

theorem count_bad (v vr : Value) (l : List BarD) (rs : List RunD) (w : World) (hp : Bars w v l) (hr : Runs w vr rs) (hl : l.length ≤ 140737488355328) (hlr : rs.length ≤ 140737488355328) (hf : FitB l) (h : laidOk l rs = false) :
    Calls Try.prog 19 #[v, vr] w fun e w' => e = .returned (.tuple #[.int .i64 0, .int .i64 1]) ∧ Below w.heap.size w w' := by
  have HV := Lib.hid (lvalid_any v vr l rs w hp hr hl hlr hf)
  rw [h] at HV
  clear hp hr h
  go_enter Try.func19, Try.ntmps19
  go_wp2_with fail
  refine HV.out.mono ?_
  rintro e w1 ⟨rfl, hb1⟩
  have HB1 := Lib.hid hb1
  clear hb1
  go_wp2
  go_ret2
  exact ⟨rfl, HB1.out⟩
set_option maxHeartbeats 1000000 in
theorem count_good (v vr : Value) (l : List BarD) (rs : List RunD) (w : World) (hp : Bars w v l) (hr : Runs w vr rs) (hl : l.length ≤ 140737488355328) (hlr : rs.length ≤ 140737488355328) (hf : FitB l) (h : laidOk l rs = true) :
    Calls Try.prog 19 #[v, vr] w fun e w' => e = .returned (.tuple #[.int .i64 (cumN rs), .int .i64 0]) ∧ Below w.heap.size w w' := by
  obtain ⟨q1, q2, q3, q4⟩ := laidOk_parts h
  have HV := Lib.hid (lvalid_any v vr l rs w hp hr hl hlr hf)
  rw [h] at HV
  have HR := Lib.hid hr
  have HC := Lib.hid (fun r hr => right_count (q3 r hr))
  have HS := Lib.hid (cumN_sum (fun r hr => (right_count (q3 r hr)).1))
  have HLE := Lib.hid (fun k => sumC_le (l := l) (rs := rs) (fun r hr => (right_count (q3 r hr)).1) k)
  have HG : Hid (sumC rs ≤ 2000) := q4
  obtain ⟨ro, rcap, rfl⟩ := hr.at_
  clear hp hr h q1 q2 q3 q4
  go_enter Try.func19, Try.ntmps19
  go_wp2_with fail
  refine HV.out.mono ?_
  rintro e w1 ⟨rfl, hb1⟩
  have HB1 := Lib.hid hb1
  clear hb1
  go_wp2_with fail
  go_loopw [6, 15] (fun n i wr => ∃ k : Nat, k ≤ rs.length ∧ i = .int .i64 k ∧ n = .int .i64 (sumC (rs.take k)) ∧ Below w.heap.size w wr ∧ Hid (0 ≤ sumC (rs.take k))) (fun _ i _ => rs.length - (intOf i).toNat)
  case atStart => exact ⟨0, Nat.zero_le _, rfl, rfl, HB1.out, by rw [List.take_zero]; show (0 : Int) ≤ sumC []; decide⟩
  case round =>
    obtain ⟨k, hk, rfl, rfl, hBr, hR⟩ := hrel
    by_cases hk2 : k < rs.length
    · obtain ⟨r, hy⟩ : ∃ y, rs[k]? = some y := ⟨_, List.getElem?_eq_getElem hk2⟩
      obtain ⟨b, off, rfl, hbl, c0, c1, c2, c3, c4, c5, c6, c7, c8, c9⟩ := runs_get (HR.out.below hBr) hy
      have HSN := Lib.hid (sumC_snoc hy)
      obtain ⟨n1, n2⟩ := HC.out r (List.mem_of_getElem? hy)
      have s1 := hR.out
      have s2 := HLE.out k
      have s3 := HG.out
      generalize sumC (rs.take k) = q at *
      have HB := Lib.hid (hBr.alloc hBr.size (.cells #[.string r.mark, .int .i64 r.tx, .int .i64 r.ty, .int .i64 r.at_.x, .int .i64 r.at_.y, .int .i64 r.at_.z, .int .i64 r.step.x, .int .i64 r.step.y, .int .i64 r.step.z, .int .i64 r.count] 60))
      clear hy hBr
      have s4 : q ≤ 2000 := by omega
      clear s2 s3
      go_wp2
      go_roundw
      case rel => exact ⟨k + 1, by omega, by go_num, by rw [HSN.out], HB.out, by rw [HSN.out]; show (0 : Int) ≤ _; omega⟩
      case measure => simp [intOf]; omega
    · obtain rfl : k = rs.length := by omega
      rw [List.take_length]
      have HB := Lib.hid hBr
      clear hBr
      go_wp2
      go_ret2
      exact ⟨ret2_any (val_int HS.out.symm) rfl, HB.out⟩

theorem mark_bad (v vr : Value) (i : Int) (l : List BarD) (rs : List RunD) (w : World) (hp : Bars w v l) (hr : Runs w vr rs) (hl : l.length ≤ 140737488355328) (hlr : rs.length ≤ 140737488355328) (hf : FitB l) (h : laidOk l rs = false) :
    Calls Try.prog 20 #[v, vr, .int .i64 i] w fun e w' => e = .returned (.tuple #[.string ⟨#[]⟩, .int .i64 1]) ∧ Below w.heap.size w w' := by
  have HV := Lib.hid (lvalid_any v vr l rs w hp hr hl hlr hf)
  rw [h] at HV
  clear hp hr h
  go_enter Try.func20, Try.ntmps20
  go_wp2_with fail
  refine HV.out.mono ?_
  rintro e w1 ⟨rfl, hb1⟩
  have HB1 := Lib.hid hb1
  clear hb1
  go_wp2
  go_ret2
  exact ⟨rfl, HB1.out⟩
def MarkPost (w : World) (rs : List RunD) (i : Int) (e : Ending) (w' : World) : Prop :=
  (∃ m, 0 ≤ i ∧ (laidMarks rs)[i.toNat]? = some m ∧ e = .returned (.tuple #[.string m, .int .i64 0]) ∧ Below w.heap.size w w') ∨
  ((i < 0 ∨ (cumN rs : Int) ≤ i) ∧ e = .returned (.tuple #[.string ⟨#[]⟩, .int .i64 2]) ∧ Below w.heap.size w w')
set_option maxHeartbeats 1000000 in
theorem mark_good (v vr : Value) (i : Int) (l : List BarD) (rs : List RunD) (w : World) (hp : Bars w v l) (hr : Runs w vr rs) (hl : l.length ≤ 140737488355328) (hlr : rs.length ≤ 140737488355328) (hf : FitB l) (h : laidOk l rs = true) (h64 : i ≤ 9223372036854775807) :
    Calls Try.prog 20 #[v, vr, .int .i64 i] w (MarkPost w rs i) := by
  obtain ⟨q1, q2, q3, q4⟩ := laidOk_parts h
  have HV := Lib.hid (lvalid_any v vr l rs w hp hr hl hlr hf)
  rw [h] at HV
  have HR := Lib.hid hr
  have HC := Lib.hid (fun r hr => right_count (q3 r hr))
  obtain ⟨ro, rcap, rfl⟩ := hr.at_
  clear hp hr h q1 q2 q3 q4
  by_cases hi : i < 0
  · have HF : Hid (∀ (w' : World), Below w.heap.size w w' → MarkPost w rs i (.returned (.tuple #[.string ⟨#[]⟩, .int .i64 2])) w') := fun w' hb => .inr ⟨.inl hi, rfl, hb⟩
    go_enter Try.func20, Try.ntmps20
    go_wp2_with fail
    refine HV.out.mono ?_
    rintro e w1 ⟨rfl, hb1⟩
    have HB1 := Lib.hid hb1
    clear hb1
    go_wp2
    go_ret2
    exact HF.out _ HB1.out
  · skip
    go_enter Try.func20, Try.ntmps20
    go_wp2_with fail
    refine HV.out.mono ?_
    rintro e w1 ⟨rfl, hb1⟩
    have HB1 := Lib.hid hb1
    clear hb1
    go_wp2_with fail
    go_loopw [2, 18] (fun n s wr => ∃ (k t : Nat), k ≤ rs.length ∧ s = .int .i64 k ∧ n = .int .i64 t ∧ Below w.heap.size w wr ∧ Hid (i = (cumN (rs.take k) : Int) + t)) (fun _ s _ => rs.length - (intOf s).toNat)
    case atStart => exact ⟨0, i.toNat, Nat.zero_le _, rfl, val_int (by omega), HB1.out, by rw [List.take_zero]; show i = ((0 : Nat) : Int) + _; omega⟩
    case round =>
      obtain ⟨k, t, hk, rfl, rfl, hBr, hR⟩ := hrel
      by_cases hk2 : k < rs.length
      · obtain ⟨r, hy⟩ : ∃ y, rs[k]? = some y := ⟨_, List.getElem?_eq_getElem hk2⟩
        obtain ⟨b, off, rfl, hbl, c0, c1, c2, c3, c4, c5, c6, c7, c8, c9⟩ := runs_get (HR.out.below hBr) hy
        have HSN := Lib.hid (cumN_snoc hy)
        obtain ⟨n1, n2⟩ := HC.out r (List.mem_of_getElem? hy)
        have HLM := Lib.hid (fun j (hj : j < r.count.toNat) => laidMarks_at hy hj)
        have HB := Lib.hid (hBr.alloc hBr.size (.cells #[.string r.mark, .int .i64 r.tx, .int .i64 r.ty, .int .i64 r.at_.x, .int .i64 r.at_.y, .int .i64 r.at_.z, .int .i64 r.step.x, .int .i64 r.step.y, .int .i64 r.step.z, .int .i64 r.count] 60))
        have hti : (t : Int) ≤ 9223372036854775807 := by have := hR.out; omega
        clear hy hBr
        by_cases hc : (t : Int) < r.count
        · have HF : Hid (∀ (w' : World), Below w.heap.size w w' → MarkPost w rs i (.returned (.tuple #[.string r.mark, .int .i64 0])) w') := fun w' hb =>
            .inl ⟨r.mark, by omega, by rw [show i.toNat = cumN (rs.take k) + t by have := hR.out; omega]; exact HLM.out t (by omega), rfl, hb⟩
          go_wp2
          go_ret2
          exact HF.out _ HB.out
        · have HF : Hid (i = (cumN (rs.take (k + 1)) : Int) + (t - r.count.toNat : Nat)) := by rw [HSN.out]; have := hR.out; show i = _; omega
          go_wp2
          go_roundw
          case rel => exact ⟨k + 1, t - r.count.toNat, by omega, by go_num, by exact val_int (by omega), HB.out, HF.out⟩
          case measure => simp [intOf]; omega
      · obtain rfl : k = rs.length := by omega
        have HF : Hid (∀ (w' : World), Below w.heap.size w w' → MarkPost w rs i (.returned (.tuple #[.string ⟨#[]⟩, .int .i64 2])) w') := fun w' hb => .inr ⟨.inr (by have := hR.out; rw [List.take_length] at this; omega), rfl, hb⟩
        have HB := Lib.hid hBr
        clear hBr
        go_wp2
        go_ret2
        exact HF.out _ HB.out
end
end Go.Proofs.Ytpidjgljeooblaa
