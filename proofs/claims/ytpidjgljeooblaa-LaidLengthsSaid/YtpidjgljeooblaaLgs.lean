/-
  Points as boxes; the legs and the hull of a laid bar.
-/
import Derived.Test.YtpidjgljeooblaaBxB
import Derived.Test.YtpidjgljeooblaaAlC
namespace Go.Proofs.Ytpidjgljeooblaa
open Go.RowKit
set_option linter.unusedVariables false
set_option linter.unusedSimpArgs false

def pb (p : Pt) : Bx := ⟨p, p⟩
def OwnBxs (w : World) (base : Nat) (v : Value) (l : List Bx) : Prop := OwnN w base 33 6 bxCells v l

set_option maxRecDepth 100000 in
set_option maxHeartbeats 2000000 in
theorem points_any (v : Value) (l : List Pt) (w : World) (hp : Pts w v l) (hl : l.length ≤ 1000000) :
    Calls Try.prog 42 #[v] w fun e w' => ∃ o, e = .returned o ∧ Hid (OwnBxs w' w.heap.size o (l.map pb)) ∧ Below w.heap.size w w' := by
  obtain ⟨ao, cap, rfl⟩ := hp.at_
  have HP := Lib.hid hp
  clear hp
  go_enter Try.func42, Try.ntmps42
  go_wp2
  go_loopw [3, 8] (fun o i wr => ∃ k : Nat, k ≤ l.length ∧ i = .int .i64 k ∧ Below w.heap.size w wr ∧ OwnBxs wr w.heap.size o ((l.take k).map pb)) (fun _ i _ => l.length - (intOf i).toNat)
  case atStart => exact ⟨0, Nat.zero_le _, rfl, Below.refl _ _, OwnN.nil _ _ _ _ _⟩
  case round =>
    obtain ⟨k, hk, rfl, hBr, hown⟩ := hrel
    by_cases hk2 : k < l.length
    · obtain ⟨p, hy⟩ : ∃ y, l[k]? = some y := ⟨_, List.getElem?_eq_getElem hk2⟩
      obtain ⟨b, off, rfl, hbl, c0, c1, c2⟩ := pts_get (HP.out.below hBr) hy
      have HM := Lib.hid (snoc_map pb hy)
      have HB := Lib.hid (hBr.alloc hBr.size (.cells #[.int .i64 p.x, .int .i64 p.y, .int .i64 p.z] 31))
      have HO := Lib.hid (OwnN.alloc hown (.cells #[.int .i64 p.x, .int .i64 p.y, .int .i64 p.z] 31))
      have hl2 : ((l.take k).map pb).length + 1 ≤ 1099511627776 := by simp; omega
      have hbase : w.heap.size ≤ wr.heap.size + 1 := by have := hBr.size; omega
      clear hy hBr hown
      go_wp2_with (at_builtin; refine wpList_pushAt _ (wr.heap.size + 1) (by simp) rfl _ _ 26 rfl 33 6 48 elemBx w.heap.size bxCells _ _ (pb p) _ rfl rfl (bx_one _) HO.out rfl rfl hl2 (by omega) hbase ?_; intro v' w' hown' hg' hat'; have HO9 := Lib.hid hown'; have HB9 := Lib.hid (HB.out.grown hg' HB.out.size (fun j hj => (HO.out.lt j hj).1)); clear hown' hg' hat')
      go_roundw
      case rel => exact ⟨k + 1, by omega, by go_num, HB9.out, by rw [HM.out]; exact HO9.out⟩
      case measure => simp [intOf]; omega
    · obtain rfl : k = l.length := by omega
      rw [List.take_length] at hown
      have HO := Lib.hid hown
      have HB := Lib.hid hBr
      clear hown hBr
      go_wp2
      go_ret
      exact ⟨_, rfl, HO.out, HB.out⟩

/-! ### the legs of a path -/
def legB (a b : Pt) : Bx := hullN (pb a) [pb a, pb b] 2
def legsN (q : List Pt) (k : Nat) : List Bx := (List.range k).map fun j => legB (q.getD j ⟨0, 0, 0⟩) (q.getD (j + 1) ⟨0, 0, 0⟩)
def hullP (q : List Pt) : Bx := hullN (pb (q.getD 0 ⟨0, 0, 0⟩)) (q.map pb) (q.map pb).length
theorem legsN_succ (q : List Pt) (k : Nat) : legsN q (k + 1) = legsN q k ++ [legB (q.getD k ⟨0, 0, 0⟩) (q.getD (k + 1) ⟨0, 0, 0⟩)] := by unfold legsN; rw [List.range_succ, List.map_append]; rfl
theorem legsN_len (q : List Pt) (k : Nat) : (legsN q k).length = k := by simp [legsN]
theorem pb_ok {p : Pt} (h : ptIn 1048576 p = true) : bxOk (pb p) = true := by
  rw [ptIn_iff] at h
  obtain ⟨h1, h2, h3, h4, h5, h6⟩ := h
  exact dec_yes ⟨⟨Int.le_refl _, h1, h2⟩, ⟨Int.le_refl _, h3, h4⟩, ⟨Int.le_refl _, h5, h6⟩⟩

/-- All points of a laid bar lie within the space. -/
theorem lin_bd {x k c s : Int} (h0 : 0 ≤ k) (h1 : k ≤ c) (a1 : -1048576 ≤ x) (a2 : x ≤ 1048576) (b1 : -1048576 ≤ x + c * s) (b2 : x + c * s ≤ 1048576) : -1048576 ≤ x + k * s ∧ x + k * s ≤ 1048576 := by
  rcases Int.le_total 0 s with hs | hs
  · have e1 : k * s ≤ c * s := Int.mul_le_mul_of_nonneg_right h1 hs
    have e2 : 0 ≤ k * s := Int.mul_nonneg h0 hs
    omega
  · have e1 : k * (-s) ≤ c * (-s) := Int.mul_le_mul_of_nonneg_right h1 (by omega)
    have e2 : 0 ≤ k * (-s) := Int.mul_nonneg h0 (by omega)
    rw [Int.mul_neg, Int.mul_neg] at e1
    rw [Int.mul_neg] at e2
    omega
theorem shift_near {r : RunD} {p : Pt} {k : Nat} (hk : (k : Int) < r.count) (h0 : ptIn 1048576 (shiftP r (kOf r.count 0) p) = true) (h1 : ptIn 1048576 (shiftP r (kOf r.count 1) p) = true) : ptIn 1048576 (shiftP r (k : Int) p) = true := by
  have e0 : kOf r.count 0 = 0 := rfl
  have e1 : kOf r.count 1 = r.count - 1 := rfl
  rw [e0] at h0
  rw [e1] at h1
  rw [ptIn_iff] at h0 h1 ⊢
  by_cases hk0 : 0 < k
  · unfold shiftP at h0 h1 ⊢
    rw [if_neg (by omega)] at h0
    rw [if_pos (by omega)] at h1
    rw [if_pos (by omega)]
    obtain ⟨a1, a2, a3, a4, a5, a6⟩ := h0
    obtain ⟨b1, b2, b3, b4, b5, b6⟩ := h1
    have c1 := lin_bd (k := (k : Int)) (by omega) (by omega : (k : Int) ≤ r.count - 1) a1 a2 b1 b2
    have c2 := lin_bd (k := (k : Int)) (by omega) (by omega : (k : Int) ≤ r.count - 1) a3 a4 b3 b4
    have c3 := lin_bd (k := (k : Int)) (by omega) (by omega : (k : Int) ≤ r.count - 1) a5 a6 b5 b6
    exact ⟨c1.1, c1.2, c2.1, c2.2, c3.1, c3.2⟩
  · obtain rfl : k = 0 := by omega
    exact h0
theorem laid_near {l : List BarD} {rs : List RunD} (h : laidOk l rs = true) {i : Nat} {q : List Pt} (hq : (laidPts l rs)[i]? = some q) : q.all (ptIn 1048576) = true ∧ q.length ≤ 7 ∧ 0 < q.length := by
  obtain ⟨q1, q2, q3, q4⟩ := laidOk_parts h
  have hm := List.mem_of_getElem? hq
  unfold laidPts at hm
  obtain ⟨r, hr, hm2⟩ := List.mem_flatMap.1 hm
  obtain ⟨k, hk, rfl⟩ := List.mem_map.1 hm2
  rw [List.mem_range] at hk
  obtain ⟨b, r1, r2, r3, r4, r5, r6, r7, r8, r9⟩ := right_parts q1 (q3 r hr)
  have e : barPts l r k = (turnedOf b r).map (shiftP r (k : Int)) := by unfold barPts ptsOf; rw [r1]
  have el : (turnedOf b r).length = (pathOf b).length := by unfold turnedOf; rw [List.length_map]
  rw [e]
  refine ⟨?_, ?_, ?_⟩
  · rw [List.all_eq_true]
    intro p hp
    obtain ⟨t, ht, rfl⟩ := List.mem_map.1 hp
    exact shift_near (by omega) (List.all_eq_true.1 r8 t ht) (List.all_eq_true.1 r9 t ht)
  · rw [List.length_map, el]; exact path_len
  · rw [List.length_map, el]; unfold pathOf; rw [pathN_len]; omega

theorem take2 {q : List Pt} {t : Nat} {a b : Pt} (ha : q[t]? = some a) (hb : q[t + 1]? = some b) : (q.drop t).take 2 = [a, b] := by
  have h1 := (List.getElem?_eq_some_iff.1 ha).1
  have h2 := (List.getElem?_eq_some_iff.1 hb).1
  rw [List.drop_eq_getElem_cons h1, List.drop_eq_getElem_cons h2, (List.getElem?_eq_some_iff.1 ha).2, (List.getElem?_eq_some_iff.1 hb).2]
  rfl
def LegsPost (w : World) (l : List BarD) (rs : List RunD) (i : Int) (e : Ending) (w' : World) : Prop :=
  (∃ (q : List Pt) (v : Value), 0 ≤ i ∧ (laidPts l rs)[i.toNat]? = some q ∧ e = .returned (.tuple #[v, .int .i64 0]) ∧ OwnBxs w' w.heap.size v (legsN q (q.length - 1)) ∧ Below w.heap.size w w') ∨
  ((i < 0 ∨ (cumN rs : Int) ≤ i) ∧ e = .returned (.tuple #[.slice none 0 0, .int .i64 2]) ∧ Below w.heap.size w w')

theorem legs_bad (v vr : Value) (i : Int) (l : List BarD) (rs : List RunD) (w : World) (hp : Bars w v l) (hr : Runs w vr rs) (hl : l.length ≤ 140737488355328) (hlr : rs.length ≤ 140737488355328) (hf : FitB l) (h : laidOk l rs = false) :
    Calls Try.prog 12 #[v, vr, .int .i64 i] w fun e w' => e = .returned (.tuple #[.slice none 0 0, .int .i64 1]) ∧ Below w.heap.size w w' := by
  have HB := Lib.hid (path_bad v vr i l rs w hp hr hl hlr hf h)
  clear hp hr h
  go_enter Try.func12, Try.ntmps12
  go_wp2_with fail
  refine HB.out.mono ?_
  rintro e w1 ⟨rfl, hb1⟩
  have HB1 := Lib.hid hb1
  clear hb1
  go_wp2
  go_ret2
  exact ⟨rfl, HB1.out⟩

set_option maxRecDepth 100000 in
set_option maxHeartbeats 4000000 in
theorem legs_good (v vr : Value) (i : Int) (l : List BarD) (rs : List RunD) (w : World) (hp : Bars w v l) (hr : Runs w vr rs) (hl : l.length ≤ 140737488355328) (hlr : rs.length ≤ 140737488355328) (hf : FitB l) (h : laidOk l rs = true) :
    Calls Try.prog 12 #[v, vr, .int .i64 i] w (LegsPost w l rs i) := by
  have HG := Lib.hid (path_good v vr i l rs w hp hr hl hlr hf h)
  have HN := Lib.hid (fun k q (hq : (laidPts l rs)[k]? = some q) => laid_near h hq)
  clear hp hr h
  go_enter Try.func12, Try.ntmps12
  go_wp2_with fail
  refine HG.out.mono ?_
  rintro e w1 (⟨q, o, hi0, hq, rfl, ho, hb1⟩ | ⟨hi, rfl, hb1⟩)
  · obtain ⟨n1, n2, n3⟩ := HN.out _ _ hq
    obtain ⟨oo, oc, rfl⟩ := OwnN.shape ho
    have HO := Lib.hid ho
    have HNR := Lib.hid (List.all_eq_true.1 n1)
    have HQ := Lib.hid (And.intro hi0 hq)
    have HB1 := Lib.hid hb1
    clear hb1 hi0 hq n1 ho
    go_wp2_with fail
    go_loopw [10, 11] (fun o i wr => ∃ t : Nat, t + 1 ≤ q.length ∧ i = .int .i64 ((t : Int) + 1) ∧ Below w1.heap.size w1 wr ∧ OwnBxs wr w1.heap.size o (legsN q t)) (fun _ i _ => q.length - (intOf i).toNat)
    case atStart => exact ⟨0, by omega, rfl, Below.refl _ _, OwnN.nil _ _ _ _ _⟩
    case round =>
      obtain ⟨t, ht, rfl, hBr, hown⟩ := hrel
      by_cases hlt : t + 1 < q.length
      · obtain ⟨g, gcap, hv, hlt2, hbg⟩ : ∃ g cap, (Value.slice oo q.length oc) = .slice (some ⟨g, 0, none⟩) q.length cap ∧ q.length ≤ cap ∧ g < w1.heap.size := by
          rcases HO.out.2 with ⟨h', h0⟩ | ⟨g, cap', cur, h', hb, hg, hcap, _⟩
          · omega
          · exact ⟨g, cap', h', hcap, (Array.getElem?_eq_some_iff.1 hg).1⟩
        cases hv
        have t0 : (0 : Int) ≤ (t : Int) := Int.natCast_nonneg _
        have t1 : (t : Int) + 1 < (q.length : Int) := by omega
        have t2 : (t : Int) + 1 + 1 ≤ (oc : Int) := by omega
        have tt1 : decide ((t : Int) + 1 < (q.length : Int)) = true := dec_yes t1
        have HBr := Lib.hid hBr
        have HOr := Lib.hid hown
        obtain ⟨a, ha⟩ : ∃ y, q[t]? = some y := ⟨_, List.getElem?_eq_getElem (by omega)⟩
        obtain ⟨b, hb⟩ : ∃ y, q[t + 1]? = some y := ⟨_, List.getElem?_eq_getElem hlt⟩
        have PS : Hid (Pts wr (.slice (some ⟨g, t * 3, none⟩) (t + 1 + 1 - t) (oc - t)) [a, b]) := by
          have h1 := Fl.drop_ ((OwnN.fl pt_len HO.out).below hBr) t (oc - t) (by omega)
          have h2 := h1.take_ 2 (oc - t) (by omega)
          rw [show (q.drop t).take 2 = [a, b] from take2 ha hb, Nat.zero_add] at h2
          rw [show t + 1 + 1 - t = 2 by omega]
          exact h2
        have HAB : Hid (bxOk (pb a) = true ∧ bxOk (pb b) = true) := ⟨pb_ok (HNR.out a (List.mem_of_getElem? ha)), pb_ok (HNR.out b (List.mem_of_getElem? hb))⟩
        have HST : Hid (legsN q (t + 1) = legsN q t ++ [legB a b]) := by
          show legsN q (t + 1) = _
          rw [legsN_succ, List.getD_eq_getElem?_getD, List.getD_eq_getElem?_getD, ha, hb]; rfl
        have HPO := Lib.hid (points_any _ [a, b] wr PS.out (by simp))
        clear hBr hown ha hb
        go_wp2_with fail
        refine HPO.out.mono ?_
        rintro e w5 ⟨o5, rfl, HO5, hb5⟩
        have HBH := Lib.hid (bhull_any o5 [pb a, pb b] (pb a) w5 (OwnN.fl bx_len HO5.out) (by simp) rfl (by simp [HAB.out.1, HAB.out.2]))
        have HB5 := Lib.hid (bstep HBr.out hb5)
        have HOR5 := Lib.hid (OwnN.below HOr.out hb5)
        clear hb5
        go_wp2_with fail
        refine HBH.out.mono ?_
        rintro e w6 ⟨rfl, hb6⟩
        have HLB : Hid (hullN (pb a) [pb a, pb b] [pb a, pb b].length = legB a b) := rfl
        rw [HLB.out]
        generalize legB a b = lg at *
        have HB6 := Lib.hid ((bstep HB5.out hb6).alloc (bstep HB5.out hb6).size (.cells (bxCellsA lg) 33))
        have HOR6 := Lib.hid (OwnN.alloc (OwnN.below HOR5.out hb6) (.cells (bxCellsA lg) 33))
        have hl2 : (legsN q t).length + 1 ≤ 1099511627776 := by rw [legsN_len]; omega
        have hbase : w1.heap.size ≤ w6.heap.size + 1 := by have := HB6.out.size; simp at this; omega
        clear hb6
        go_wp2_with (at_builtin; refine wpList_pushAt _ (w6.heap.size + 1) (by simp) rfl _ _ 26 rfl 33 6 48 elemBx w1.heap.size bxCells _ _ lg _ rfl rfl (bx_one _) HOR6.out rfl rfl hl2 (by omega) hbase ?_; intro v' w' hown' hg' hat'; have HO9 := Lib.hid hown'; have HB9 := Lib.hid (HB6.out.grown hg' HB6.out.size (fun j hj => (HOR6.out.lt j hj).1)); clear hown' hg' hat')
        go_roundw
        case rel => exact ⟨t + 1, by omega, by go_num, HB9.out, by rw [HST.out]; exact HO9.out⟩
        case measure => simp [intOf]; omega
      · have e : t = q.length - 1 := by omega
        have hi1 : ¬ (t : Int) + 1 < (q.length : Int) := by omega
        subst e
        have HOr := Lib.hid hown
        have HBZ := Lib.hid (bstep HB1.out hBr)
        have hz := HB1.out.size
        clear hown hBr
        go_wp2
        go_ret2
        exact .inl ⟨q, _, HQ.out.1, HQ.out.2, rfl, OwnN.mono HOr.out hz, HBZ.out⟩
  · have HI := Lib.hid hi
    have HB1 := Lib.hid hb1
    clear hb1 hi
    go_wp2
    go_ret2
    exact .inr ⟨HI.out, rfl, HB1.out⟩
end Go.Proofs.Ytpidjgljeooblaa
