/-
  The path of a valid bar is near; the path of a run, turned.
-/
import Derived.Test.YtpidjgljeooblaaScB
namespace Go.Proofs.Ytpidjgljeooblaa
open Go.RowKit
set_option linter.unusedVariables false
set_option linter.unusedSimpArgs false

theorem path_near {x : BarD} (h : barOk x = true) : (pathOf x).all (ptIn 1048576) = true := by
  obtain ⟨h1, h2, h3, h4⟩ := barOk_parts h
  obtain ⟨m, s, c, co, ds⟩ := x
  simp only at h1 h2 h3 h4
  clear h
  rcases code_cases co with h | ⟨_, h, _⟩
  · rcases h with rfl | rfl | rfl | rfl | rfl | rfl | rfl | rfl
    · match ds, h1 with
      | [a], _ =>
        have ha := h2 a (by simp)
        simp [sumI] at h3
        simp [pathOf, pathN, posP, legsOf, stepP, List.range_succ, ptIn]
        omega
    · match ds, h1 with
      | [a, b], _ =>
        have ha := h2 a (by simp)
        have hb := h2 b (by simp)
        simp [sumI] at h3
        simp [pathOf, pathN, posP, legsOf, stepP, List.range_succ, ptIn]
        omega
    · match ds, h1 with
      | [a, b, c], _ =>
        have ha := h2 a (by simp)
        have hb := h2 b (by simp)
        have hc := h2 c (by simp)
        simp [sumI] at h3
        simp [pathOf, pathN, posP, legsOf, stepP, List.range_succ, ptIn]
        omega
    · match ds, h1 with
      | [a, b, c], _ =>
        have ha := h2 a (by simp)
        have hb := h2 b (by simp)
        have hc := h2 c (by simp)
        simp [sumI] at h3
        simp [pathOf, pathN, posP, legsOf, stepP, List.range_succ, ptIn]
        omega
    · match ds, h1 with
      | [a, b, c], _ =>
        have ha := h2 a (by simp)
        have hb := h2 b (by simp)
        have hc := h2 c (by simp)
        simp [sumI] at h3
        simp [pathOf, pathN, posP, legsOf, stepP, List.range_succ, ptIn]
        omega
    · match ds, h1 with
      | [a, b, c, d, e], _ =>
        have ha := h2 a (by simp)
        have hb := h2 b (by simp)
        have hc := h2 c (by simp)
        have hd := h2 d (by simp)
        have he := h2 e (by simp)
        simp [sumI] at h3
        simp [pathOf, pathN, posP, legsOf, stepP, List.range_succ, ptIn]
        omega
    · match ds, h1 with
      | [a, b, c], _ =>
        have ha := h2 a (by simp)
        have hb := h2 b (by simp)
        have hc := h2 c (by simp)
        simp [sumI] at h3
        simp [pathOf, pathN, posP, legsOf, stepP, List.range_succ, ptIn]
        omega
    · match ds, h1 with
      | [a, b, c], _ =>
        have ha := h2 a (by simp)
        have hb := h2 b (by simp)
        have hc := h2 c (by simp)
        simp [sumI] at h3
        simp [pathOf, pathN, posP, legsOf, stepP, List.range_succ, ptIn]
        omega
  · omega

theorem path_len {x : BarD} : (pathOf x).length ≤ 7 := by
  unfold pathOf
  rw [pathN_len]
  have := legs_len6 x.code
  omega

def turnedOf (b : BarD) (r : RunD) : List Pt := (pathOf b).map fun p => padd ⟨0, 0, 0⟩ (img r.tx r.ty p)
abbrev runv (r : RunD) : Value := .agg #[.string r.mark, .int .i64 r.tx, .int .i64 r.ty, .int .i64 r.at_.x, .int .i64 r.at_.y, .int .i64 r.at_.z, .int .i64 r.step.x, .int .i64 r.step.y, .int .i64 r.step.z, .int .i64 r.count]
/-- The line of a run's mark. -/
def lineOf (l : List BarD) (m : ByteArray) : Option BarD := if 0 ≤ findZ l m then l[(findZ l m).toNat]? else none
theorem lineOf_some {l : List BarD} {m : ByteArray} {b : BarD} (h : lineOf l m = some b) : ∃ i : Nat, findZ l m = i ∧ l[i]? = some b ∧ b.mark = m := by
  unfold lineOf at h
  split at h
  · rename_i h0
    rcases idxZ_cases l (isMark m) with ⟨k, x, h1, h2, h3, _⟩ | ⟨h1, _⟩
    · have e : findZ l m = k := h1
      rw [e] at h
      simp only [Int.toNat_natCast] at h
      rw [h2] at h
      cases h
      exact ⟨k, e, h2, by simpa [isMark] using h3⟩
    · have e : findZ l m = -1 := h1
      omega
  · cases h
theorem lineOf_none {l : List BarD} {m : ByteArray} (h : lineOf l m = none) : findZ l m = -1 := by
  unfold lineOf at h
  rcases idxZ_cases l (isMark m) with ⟨k, x, h1, h2, h3, _⟩ | ⟨h1, _⟩
  · exfalso
    have e : findZ l m = k := h1
    rw [if_pos (by omega), e] at h
    simp only [Int.toNat_natCast] at h
    rw [h2] at h
    cases h
  · exact h1

set_option maxRecDepth 100000 in
set_option maxHeartbeats 2000000 in
theorem turned_any (v : Value) (l : List BarD) (r : RunD) (b : BarD) (w : World) (hp : Bars w v l) (hl : l.length ≤ 140737488355328) (hf : FitB l) (hb : lineOf l r.mark = some b) (hok : barOk b = true) (ht : turnB r.tx r.ty = true) :
    Calls Try.prog 72 #[v, runv r] w fun e w' => ∃ o, e = .returned o ∧ Hid (OwnPts w' w.heap.size o (turnedOf b r)) ∧ Below w.heap.size w w' := by
  obtain ⟨i, hi1, hi2, hi3⟩ := lineOf_some hb
  obtain ⟨hm1, hm2⟩ := hf b (List.mem_of_getElem? hi2)
  obtain ⟨ao, cap, rfl⟩ := hp.at_
  have HP := Lib.hid hp
  have HIX := Lib.hid (fun W (hW : Below w.heap.size w W) => lfind_any (.slice ao l.length cap) l r.mark W (HP.out.below hW) hl)
  rw [hi1] at HIX
  have HT : Hid (turnedOf b r = (pathOf b).map fun p => padd ⟨0, 0, 0⟩ (img r.tx r.ty p)) := rfl
  have HSP := Lib.hid (fun u W (hu : Ints W u b.dims) => spath_any b u W hu hm1 hok)
  have HFP := Lib.hid (fun o W (ho : Pts W o (pathOf b)) => fpath_any r.tx r.ty ⟨0, 0, 0⟩ o (pathOf b) W ho (by have := path_len (x := b); omega) ht (by unfold PtIn; simp) (path_near hok))
  have hil : i < l.length := (List.getElem?_eq_some_iff.1 hi2).1
  have i0 : (0 : Int) ≤ (i : Int) := by omega
  have i1 : (i : Int) < (l.length : Int) := by omega
  have HI2 := Lib.hid hi2
  generalize turnedOf b r = T at *
  clear hp hf hb hok ht hi1 hi2 hi3 hm1 hm2
  obtain ⟨m, tx, ty, ⟨ax, ay, az⟩, ⟨sx, sy, sz⟩, c⟩ := r
  simp only at *
  go_enter Try.func72, Try.ntmps72
  go_wp2_with fail
  refine (HIX.out _ (by go_grown)).mono ?_
  rintro e w1 ⟨rfl, hb1⟩
  have HB1 := Lib.hid (bstep (by go_grown) hb1 : Below w.heap.size w w1)
  have BX1 := Lib.hid (((BlkIs.new w #[.string m, .int .i64 tx, .int .i64 ty, .int .i64 ax, .int .i64 ay, .int .i64 az, .int .i64 sx, .int .i64 sy, .int .i64 sz, .int .i64 c] 60)).below hb1)
  clear hb1
  obtain ⟨bb, off, rfl, hbl, c0, c1, c2, c3, uo, uc, c4, hdim⟩ := bars_get (HP.out.below HB1.out) HI2.out
  have HD := Lib.hid hdim
  clear hdim
  go_wp2_with fail
  refine (HSP.out _ _ HD.out).mono ?_
  rintro e w2 ⟨o, rfl, HO, hb2⟩
  have HB2 := Lib.hid (bstep HB1.out hb2)
  have BX2 := Lib.hid (BX1.out.below hb2)
  clear hb2 c0 c1 c2 c3 c4
  have d1 := BX2.out.cell 1
  have d2 := BX2.out.cell 2
  go_wp2_with fail
  refine (HFP.out _ _ (OwnN.fl pt_len HO.out)).mono ?_
  rintro e w3 ⟨o3, rfl, HO3, hb3⟩
  have HB3 := Lib.hid (bstep HB2.out hb3)
  have hz := HB2.out.size
  clear hb3
  go_wp2
  go_ret
  exact ⟨_, rfl, by rw [HT.out]; exact HO3.out.mono hz, HB3.out⟩
end Go.Proofs.Ytpidjgljeooblaa
