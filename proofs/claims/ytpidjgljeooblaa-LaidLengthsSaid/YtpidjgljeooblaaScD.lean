/-
  Runs that are right for a schedule.
-/
import Derived.Test.YtpidjgljeooblaaScC
import Derived.Test.YtpidjgljeooblaaStE2
namespace Go.Proofs.Ytpidjgljeooblaa
open Go.RowKit
set_option linter.unusedVariables false
set_option linter.unusedSimpArgs false

def shiftP (r : RunD) (k : Int) (p : Pt) : Pt := if 0 < k then padd (padd p (pmul 1 r.at_)) (pmul k r.step) else padd p (pmul 1 r.at_)
def kOf (c : Int) (m : Nat) : Int := if m = 0 then 0 else c - 1
def chkB (T : List Pt) (r : RunD) (m : Nat) : Bool := T.all fun p => ptIn 1048576 (shiftP r (kOf r.count m) p)
def stepB (r : RunD) : Bool := decide (r.count ≤ 1) || (!decide (r.step = ⟨0, 0, 0⟩) && ptIn 2097152 r.step)
def rightB (l : List BarD) (r : RunD) : Bool :=
  match lineOf l r.mark with
  | none => false
  | some b => turnB r.tx r.ty && decide (1 ≤ r.count) && decide (r.count ≤ 1000) && ptIn 1048576 r.at_ && stepB r && (chkB (turnedOf b r) r 0 && chkB (turnedOf b r) r 1)
theorem rightB_none {l : List BarD} {r : RunD} (h : lineOf l r.mark = none) : rightB l r = false := by unfold rightB; rw [h]
theorem rightB_some {l : List BarD} {r : RunD} {b : BarD} (h : lineOf l r.mark = some b) : rightB l r = (turnB r.tx r.ty && decide (1 ≤ r.count) && decide (r.count ≤ 1000) && ptIn 1048576 r.at_ && stepB r && (chkB (turnedOf b r) r 0 && chkB (turnedOf b r) r 1)) := by unfold rightB; rw [h]
theorem pmul_one (p : Pt) : pmul 1 p = p := by unfold pmul; simp
theorem turned_bd {b : BarD} {r : RunD} (hok : barOk b = true) (ht : turnB r.tx r.ty = true) : ∀ p ∈ turnedOf b r, PtIn 8388608 p := by
  intro p hp
  unfold turnedOf at hp
  obtain ⟨q, hq, rfl⟩ := List.mem_map.1 hp
  obtain ⟨h1, h2⟩ := turn_axes ht
  have h3 := img_bd r.tx r.ty q h1 h2 (ptIn_iff.1 (List.all_eq_true.1 (path_near hok) q hq))
  have h4 : PtIn 0 (⟨0, 0, 0⟩ : Pt) := by unfold PtIn; simp
  exact (padd_bd h4 h3).mono (by omega)
theorem pstep_bd {s : Pt} {k : Int} (hs : PtIn 2097152 s) (h0 : 0 ≤ k) (h1 : k ≤ 999) : PtIn 4294967296 (pmul k s) := by
  obtain ⟨a1, a2, a3, a4, a5, a6⟩ := hs
  have key : ∀ x : Int, -2097152 ≤ x → x ≤ 2097152 → -4294967296 ≤ k * x ∧ k * x ≤ 4294967296 := by
    intro x hx1 hx2
    have e1 : k * x ≤ k * 2097152 := Int.mul_le_mul_of_nonneg_left hx2 h0
    have e2 : k * (-2097152) ≤ k * x := Int.mul_le_mul_of_nonneg_left hx1 h0
    omega
  obtain ⟨c1, c2⟩ := key s.x a1 a2
  obtain ⟨c3, c4⟩ := key s.y a3 a4
  obtain ⟨c5, c6⟩ := key s.z a5 a6
  exact ⟨c1, c2, c3, c4, c5, c6⟩
theorem chk_no {T : List Pt} {r : RunD} {m i : Nat} {p : Pt} (h : T[i]? = some p) (hp : ptIn 1048576 (shiftP r (kOf r.count m) p) = false) : chkB T r m = false := allN_no h hp
theorem chk_yes {T : List Pt} {r : RunD} {m : Nat} (h : ∀ (j : Nat) p, j < T.length → T[j]? = some p → ptIn 1048576 (shiftP r (kOf r.count m) p) = true) : chkB T r m = true := by
  unfold chkB
  rw [List.all_eq_true]
  intro p hp
  obtain ⟨j, hj, rfl⟩ := List.getElem_of_mem hp
  exact h j _ hj (List.getElem?_eq_getElem hj)

theorem and_no {cf : Nat → Bool} {m : Nat} (hm : m = 0 ∨ m = 1) (h : cf m = false) : (cf 0 && cf 1) = false := by
  rcases hm with rfl | rfl
  · rw [h]; rfl
  · rw [h, Bool.and_false]
theorem two_next {cf : Nat → Bool} {m : Nat} (h2 : m < 2) (h : (1 ≤ m → cf 0 = true) ∧ (2 ≤ m → cf 1 = true)) (hc : cf m = true) : (1 ≤ m + 1 → cf 0 = true) ∧ (2 ≤ m + 1 → cf 1 = true) := by
  obtain rfl | rfl : m = 0 ∨ m = 1 := by omega
  · exact ⟨fun _ => hc, fun h => by omega⟩
  · exact ⟨fun _ => h.1 (by omega), fun _ => hc⟩
set_option maxRecDepth 100000 in
set_option maxHeartbeats 8000000 in
theorem right_any (v : Value) (l : List BarD) (r : RunD) (w : World) (hp : Bars w v l) (hl : l.length ≤ 140737488355328) (hf : FitB l) (hs : schedOk l = true) :
    Calls Try.prog 48 #[v, runv r] w fun e w' => e = .returned (.bool (rightB l r)) ∧ Below w.heap.size w w' := by
  obtain ⟨ao, cap, rfl⟩ := hp.at_
  have HP := Lib.hid hp
  have HIX := Lib.hid (fun W (hW : Below w.heap.size w W) => lfind_any (.slice ao l.length cap) l r.mark W (HP.out.below hW) hl)
  cases hln : lineOf l r.mark with
  | none =>
    rw [lineOf_none hln] at HIX
    have HF := Lib.hid (rightB_none hln)
    generalize rightB l r = ok at *
    obtain ⟨m, tx, ty, ⟨ax, ay, az⟩, ⟨sx, sy, sz⟩, c⟩ := r
    simp only at *
    clear hp hf hs hln
    go_enter Try.func48, Try.ntmps48
    go_wp2_with fail
    refine (HIX.out _ (by go_grown)).mono ?_
    rintro e w1 ⟨rfl, hb1⟩
    have HB1 := Lib.hid (bstep (by go_grown) hb1 : Below w.heap.size w w1)
    clear hb1
    go_wp2
    go_ret
    exact ⟨ret_bool HF.out.symm, HB1.out⟩
  | some b =>
    obtain ⟨i, hi1, hi2, hi3⟩ := lineOf_some hln
    rw [hi1] at HIX
    have hok := (sched_line hs hi2).1
    have HO := Lib.hid (rightB_some hln)
    have HT := Lib.hid (fun W => turn_any r.tx r.ty W)
    have HQ := Lib.hid (fun W => isPlace_any r.at_ 1048576 W (by omega) (by omega))
    have HQ2 := Lib.hid (fun W => isPlace_any r.step 2097152 W (by omega) (by omega))
    have HTU := Lib.hid (fun (ht : turnB r.tx r.ty = true) W (hW : Below w.heap.size w W) => turned_any (.slice ao l.length cap) l r b W (HP.out.below hW) hl hf hln hok ht)
    have HTB := Lib.hid (fun (ht : turnB r.tx r.ty = true) => turned_bd (r := r) hok ht)
    have HTL : Hid ((turnedOf b r).length ≤ 7) := by unfold Hid turnedOf; rw [List.length_map]; exact path_len
    have HAT : Hid (ptIn 1048576 r.at_ = true → PtIn 1048576 (pmul 1 r.at_)) := fun h => by rw [pmul_one]; exact ptIn_iff.1 h
    have HSTB : Hid (ptIn 2097152 r.step = true → ∀ k : Int, 0 ≤ k → k ≤ 999 → PtIn 4294967296 (pmul k r.step)) := fun h k h0 h1 => pstep_bd (ptIn_iff.1 h) h0 h1
    have HSE := Lib.hid (fun W => run_eq_pt r.step ⟨0, 0, 0⟩ W)
    have HSB : Hid (stepB r = (decide (r.count ≤ 1) || (!decide (r.step = ⟨0, 0, 0⟩) && ptIn 2097152 r.step))) := rfl
    have HCN := Lib.hid (fun m j p => chk_no (T := turnedOf b r) (r := r) (m := m) (i := j) (p := p))
    have HCY := Lib.hid (fun m => chk_yes (T := turnedOf b r) (r := r) (m := m))
    have HSH : Hid (∀ k p, shiftP r k p = if 0 < k then padd (padd p (pmul 1 r.at_)) (pmul k r.step) else padd p (pmul 1 r.at_)) := fun _ _ => rfl
    have i0 : ¬ (i : Int) < 0 := by omega
    clear hp hf hs hln hi1 hi2 hi3 hok
    cases htb : turnB r.tx r.ty with
    | false =>
      have HF := Lib.hid (show rightB l r = false by rw [HO.out, htb]; rfl)
      go_enter Try.func48, Try.ntmps48
      go_wp2_with fail
      refine (HIX.out _ (by go_grown)).mono ?_
      rintro e w1 ⟨rfl, hb1⟩
      have HB1 := Lib.hid (bstep (by go_grown) hb1 : Below w.heap.size w w1)
      have BX1 : Hid (BlkIs w1 w.heap.size 60 #[.string r.mark, .int .i64 r.tx, .int .i64 r.ty, .int .i64 r.at_.x, .int .i64 r.at_.y, .int .i64 r.at_.z, .int .i64 r.step.x, .int .i64 r.step.y, .int .i64 r.step.z, .int .i64 r.count]) := (BlkIs.new w _ _).below hb1
      clear hb1
      have k1 := BX1.out.cell 1
      have k2 := BX1.out.cell 2
      go_wp2_with fail
      refine (HT.out _).mono ?_
      rintro e w2 ⟨rfl, hb2⟩
      have HB2 := Lib.hid (bstep HB1.out hb2)
      have BX2 := Lib.hid (BX1.out.below hb2)
      clear hb2 k1 k2
      rw [htb]
      have k3 := BX2.out.cell 3
      have k4 := BX2.out.cell 4
      have k5 := BX2.out.cell 5
      have k9 := BX2.out.cell 9
      go_wp2
      go_ret
      exact ⟨ret_bool HF.out.symm, HB2.out⟩
    | true =>
      by_cases hc1 : r.count < 1
      · have HF := Lib.hid (show rightB l r = false by rw [HO.out, dec_no (p := 1 ≤ r.count) (by omega)]; simp)
        go_enter Try.func48, Try.ntmps48
        go_wp2_with fail
        refine (HIX.out _ (by go_grown)).mono ?_
        rintro e w1 ⟨rfl, hb1⟩
        have HB1 := Lib.hid (bstep (by go_grown) hb1 : Below w.heap.size w w1)
        have BX1 : Hid (BlkIs w1 w.heap.size 60 #[.string r.mark, .int .i64 r.tx, .int .i64 r.ty, .int .i64 r.at_.x, .int .i64 r.at_.y, .int .i64 r.at_.z, .int .i64 r.step.x, .int .i64 r.step.y, .int .i64 r.step.z, .int .i64 r.count]) := (BlkIs.new w _ _).below hb1
        clear hb1
        have k1 := BX1.out.cell 1
        have k2 := BX1.out.cell 2
        go_wp2_with fail
        refine (HT.out _).mono ?_
        rintro e w2 ⟨rfl, hb2⟩
        have HB2 := Lib.hid (bstep HB1.out hb2)
        have BX2 := Lib.hid (BX1.out.below hb2)
        clear hb2 k1 k2
        rw [htb]
        have k3 := BX2.out.cell 3
        have k4 := BX2.out.cell 4
        have k5 := BX2.out.cell 5
        have k9 := BX2.out.cell 9
        go_wp2
        go_ret
        exact ⟨ret_bool HF.out.symm, HB2.out⟩
      · by_cases hc2 : 1000 < r.count
        · have HF := Lib.hid (show rightB l r = false by rw [HO.out, dec_no (p := r.count ≤ 1000) (by omega)]; simp)
          go_enter Try.func48, Try.ntmps48
          go_wp2_with fail
          refine (HIX.out _ (by go_grown)).mono ?_
          rintro e w1 ⟨rfl, hb1⟩
          have HB1 := Lib.hid (bstep (by go_grown) hb1 : Below w.heap.size w w1)
          have BX1 : Hid (BlkIs w1 w.heap.size 60 #[.string r.mark, .int .i64 r.tx, .int .i64 r.ty, .int .i64 r.at_.x, .int .i64 r.at_.y, .int .i64 r.at_.z, .int .i64 r.step.x, .int .i64 r.step.y, .int .i64 r.step.z, .int .i64 r.count]) := (BlkIs.new w _ _).below hb1
          clear hb1
          have k1 := BX1.out.cell 1
          have k2 := BX1.out.cell 2
          go_wp2_with fail
          refine (HT.out _).mono ?_
          rintro e w2 ⟨rfl, hb2⟩
          have HB2 := Lib.hid (bstep HB1.out hb2)
          have BX2 := Lib.hid (BX1.out.below hb2)
          clear hb2 k1 k2
          rw [htb]
          have k3 := BX2.out.cell 3
          have k4 := BX2.out.cell 4
          have k5 := BX2.out.cell 5
          have k9 := BX2.out.cell 9
          go_wp2
          go_ret
          exact ⟨ret_bool HF.out.symm, HB2.out⟩
        · cases hpa : ptIn 1048576 r.at_ with
          | false =>
            have HF := Lib.hid (show rightB l r = false by rw [HO.out, hpa]; simp)
            go_enter Try.func48, Try.ntmps48
            go_wp2_with fail
            refine (HIX.out _ (by go_grown)).mono ?_
            rintro e w1 ⟨rfl, hb1⟩
            have HB1 := Lib.hid (bstep (by go_grown) hb1 : Below w.heap.size w w1)
            have BX1 : Hid (BlkIs w1 w.heap.size 60 #[.string r.mark, .int .i64 r.tx, .int .i64 r.ty, .int .i64 r.at_.x, .int .i64 r.at_.y, .int .i64 r.at_.z, .int .i64 r.step.x, .int .i64 r.step.y, .int .i64 r.step.z, .int .i64 r.count]) := (BlkIs.new w _ _).below hb1
            clear hb1
            have k1 := BX1.out.cell 1
            have k2 := BX1.out.cell 2
            go_wp2_with fail
            refine (HT.out _).mono ?_
            rintro e w2 ⟨rfl, hb2⟩
            have HB2 := Lib.hid (bstep HB1.out hb2)
            have BX2 := Lib.hid (BX1.out.below hb2)
            clear hb2 k1 k2
            rw [htb]
            have k3 := BX2.out.cell 3
            have k4 := BX2.out.cell 4
            have k5 := BX2.out.cell 5
            have k9 := BX2.out.cell 9
            go_wp2_with fail
            refine (HQ.out _).mono ?_
            rintro e w3 ⟨rfl, hb3⟩
            have HB3 := Lib.hid (bstep HB2.out hb3)
            have BX3 := Lib.hid (BX2.out.below hb3)
            clear hb3 k3 k4 k5 k9
            rw [hpa]
            have k6 := BX3.out.cell 6
            have k7 := BX3.out.cell 7
            have k8 := BX3.out.cell 8
            have k9 := BX3.out.cell 9
            go_wp2
            go_ret
            exact ⟨ret_bool HF.out.symm, HB3.out⟩
          | true =>
            have HE : Hid (rightB l r = (stepB r && (chkB (turnedOf b r) r 0 && chkB (turnedOf b r) r 1))) := by
              unfold Hid
              rw [HO.out, htb, hpa, dec_yes (p := 1 ≤ r.count) (by omega), dec_yes (p := r.count ≤ 1000) (by omega)]; simp
            have hat := HAT.out hpa
            have HTU2 := Lib.hid (HTU.out htb)
            have HTB2 := Lib.hid (HTB.out htb)
            clear HTU HTB HAT HO
            by_cases hc3 : 1 < r.count
            · by_cases hse : r.step = ⟨0, 0, 0⟩
              · have HF := Lib.hid (show rightB l r = false by rw [HE.out, HSB.out, dec_no (p := r.count ≤ 1) (by omega), dec_yes hse]; rfl)
                have hq : ∀ W, (Op.equalIn 10000 31 (.agg #[.int .i64 r.step.x, .int .i64 r.step.y, .int .i64 r.step.z]) (.agg #[.int .i64 0, .int .i64 0, .int .i64 0])).run Try.prog W = .ok true W := fun W => by rw [← dec_yes hse]; exact HSE.out W
                clear hse
                go_enter Try.func48, Try.ntmps48
                go_wp2_with fail
                refine (HIX.out _ (by go_grown)).mono ?_
                rintro e w1 ⟨rfl, hb1⟩
                have HB1 := Lib.hid (bstep (by go_grown) hb1 : Below w.heap.size w w1)
                have BX1 : Hid (BlkIs w1 w.heap.size 60 #[.string r.mark, .int .i64 r.tx, .int .i64 r.ty, .int .i64 r.at_.x, .int .i64 r.at_.y, .int .i64 r.at_.z, .int .i64 r.step.x, .int .i64 r.step.y, .int .i64 r.step.z, .int .i64 r.count]) := (BlkIs.new w _ _).below hb1
                clear hb1
                have k1 := BX1.out.cell 1
                have k2 := BX1.out.cell 2
                go_wp2_with fail
                refine (HT.out _).mono ?_
                rintro e w2 ⟨rfl, hb2⟩
                have HB2 := Lib.hid (bstep HB1.out hb2)
                have BX2 := Lib.hid (BX1.out.below hb2)
                clear hb2 k1 k2
                rw [htb]
                have k3 := BX2.out.cell 3
                have k4 := BX2.out.cell 4
                have k5 := BX2.out.cell 5
                have k9 := BX2.out.cell 9
                go_wp2_with fail
                refine (HQ.out _).mono ?_
                rintro e w3 ⟨rfl, hb3⟩
                have HB3 := Lib.hid (bstep HB2.out hb3)
                have BX3 := Lib.hid (BX2.out.below hb3)
                clear hb3 k3 k4 k5 k9
                rw [hpa]
                have k6 := BX3.out.cell 6
                have k7 := BX3.out.cell 7
                have k8 := BX3.out.cell 8
                have k9 := BX3.out.cell 9
                go_wp2
                go_ret
                exact ⟨ret_bool HF.out.symm, HB3.out⟩
              · have hq : ∀ W, (Op.equalIn 10000 31 (.agg #[.int .i64 r.step.x, .int .i64 r.step.y, .int .i64 r.step.z]) (.agg #[.int .i64 0, .int .i64 0, .int .i64 0])).run Try.prog W = .ok false W := fun W => by rw [← dec_no hse]; exact HSE.out W
                cases hps : ptIn 2097152 r.step with
                | false =>
                  have HF := Lib.hid (show rightB l r = false by rw [HE.out, HSB.out, dec_no (p := r.count ≤ 1) (by omega), hps]; simp)
                  clear hse
                  go_enter Try.func48, Try.ntmps48
                  go_wp2_with fail
                  refine (HIX.out _ (by go_grown)).mono ?_
                  rintro e w1 ⟨rfl, hb1⟩
                  have HB1 := Lib.hid (bstep (by go_grown) hb1 : Below w.heap.size w w1)
                  have BX1 : Hid (BlkIs w1 w.heap.size 60 #[.string r.mark, .int .i64 r.tx, .int .i64 r.ty, .int .i64 r.at_.x, .int .i64 r.at_.y, .int .i64 r.at_.z, .int .i64 r.step.x, .int .i64 r.step.y, .int .i64 r.step.z, .int .i64 r.count]) := (BlkIs.new w _ _).below hb1
                  clear hb1
                  have k1 := BX1.out.cell 1
                  have k2 := BX1.out.cell 2
                  go_wp2_with fail
                  refine (HT.out _).mono ?_
                  rintro e w2 ⟨rfl, hb2⟩
                  have HB2 := Lib.hid (bstep HB1.out hb2)
                  have BX2 := Lib.hid (BX1.out.below hb2)
                  clear hb2 k1 k2
                  rw [htb]
                  have k3 := BX2.out.cell 3
                  have k4 := BX2.out.cell 4
                  have k5 := BX2.out.cell 5
                  have k9 := BX2.out.cell 9
                  go_wp2_with fail
                  refine (HQ.out _).mono ?_
                  rintro e w3 ⟨rfl, hb3⟩
                  have HB3 := Lib.hid (bstep HB2.out hb3)
                  have BX3 := Lib.hid (BX2.out.below hb3)
                  clear hb3 k3 k4 k5 k9
                  rw [hpa]
                  have k6 := BX3.out.cell 6
                  have k7 := BX3.out.cell 7
                  have k8 := BX3.out.cell 8
                  have k9 := BX3.out.cell 9
                  go_wp2_with fail
                  refine (HQ2.out _).mono ?_
                  rintro e w4 ⟨rfl, hb4⟩
                  have HB4 := Lib.hid (bstep HB3.out hb4)
                  have BX4 := Lib.hid (BX3.out.below hb4)
                  clear hb4 k6 k7 k8 k9
                  rw [hps]
                  go_wp2
                  go_ret
                  exact ⟨ret_bool HF.out.symm, HB4.out⟩
                | true =>
                  have HG := Lib.hid (show rightB l r = (chkB (turnedOf b r) r 0 && chkB (turnedOf b r) r 1) by rw [HE.out, HSB.out, dec_no (p := r.count ≤ 1) (by omega), hps, dec_no hse]; rfl)
                  have hst := HSTB.out hps
                  have dd0 : decide ((i : Int) < 0) = false := dec_no i0
                  have dd1 : decide (r.count < 1) = false := dec_no hc1
                  have dd2 : decide (1000 < r.count) = false := dec_no hc2
                  have dd3 : decide (1 < r.count) = true := dec_yes hc3
                  clear hse
                  go_enter Try.func48, Try.ntmps48
                  go_wp2_with fail
                  refine (HIX.out _ (by go_grown)).mono ?_
                  rintro e w1 ⟨rfl, hb1⟩
                  have HB1 := Lib.hid (bstep (by go_grown) hb1 : Below w.heap.size w w1)
                  have BX1 : Hid (BlkIs w1 w.heap.size 60 #[.string r.mark, .int .i64 r.tx, .int .i64 r.ty, .int .i64 r.at_.x, .int .i64 r.at_.y, .int .i64 r.at_.z, .int .i64 r.step.x, .int .i64 r.step.y, .int .i64 r.step.z, .int .i64 r.count]) := (BlkIs.new w _ _).below hb1
                  clear hb1
                  have k1 := BX1.out.cell 1
                  have k2 := BX1.out.cell 2
                  go_wp2_with fail
                  refine (HT.out _).mono ?_
                  rintro e w2 ⟨rfl, hb2⟩
                  have HB2 := Lib.hid (bstep HB1.out hb2)
                  have BX2 := Lib.hid (BX1.out.below hb2)
                  clear hb2 k1 k2
                  rw [htb]
                  have k3 := BX2.out.cell 3
                  have k4 := BX2.out.cell 4
                  have k5 := BX2.out.cell 5
                  have k9 := BX2.out.cell 9
                  go_wp2_with fail
                  refine (HQ.out _).mono ?_
                  rintro e w3 ⟨rfl, hb3⟩
                  have HB3 := Lib.hid (bstep HB2.out hb3)
                  have BX3 := Lib.hid (BX2.out.below hb3)
                  clear hb3 k3 k4 k5 k9
                  rw [hpa]
                  have k6 := BX3.out.cell 6
                  have k7 := BX3.out.cell 7
                  have k8 := BX3.out.cell 8
                  have k9 := BX3.out.cell 9
                  go_wp2_with fail
                  refine (HQ2.out _).mono ?_
                  rintro e w4 ⟨rfl, hb4⟩
                  have HB4 := Lib.hid (bstep HB3.out hb4)
                  have BX4 := Lib.hid (BX3.out.below hb4)
                  clear hb4 k6 k7 k8 k9
                  rw [hps]
                  have k0 := BX4.out.cell 0
                  have k1 := BX4.out.cell 1
                  have k2 := BX4.out.cell 2
                  have k3 := BX4.out.cell 3
                  have k4 := BX4.out.cell 4
                  have k5 := BX4.out.cell 5
                  have k6 := BX4.out.cell 6
                  have k7 := BX4.out.cell 7
                  have k8 := BX4.out.cell 8
                  have k9 := BX4.out.cell 9
                  have HKB : Hid (1 < r.count → ∀ k : Int, 0 ≤ k → k ≤ 999 → PtIn 4294967296 (pmul k r.step)) := fun _ => hst
                  go_wp2_with fail
                  refine (HTU2.out _ HB4.out).mono ?_
                  rintro e w5 ⟨o, rfl, HOW, hb5⟩
                  have HB5 := Lib.hid (bstep HB4.out hb5)
                  have BX5 := Lib.hid (BX4.out.below hb5)
                  obtain ⟨oo, oc, rfl⟩ := HOW.out.shape
                  have HOP := Lib.hid (OwnN.fl pt_len HOW.out)
                  have k9 := BX5.out.cell 9
                  have htl := HTL.out
                  clear hb5 k0 k1 k2 k3 k4 k5 k6 k7 k8
                  go_wp2_with fail
                  obtain ⟨w6, hw6⟩ : ∃ w6, w5.alloc (.cells #[.int .i64 0, .int .i64 (r.count - 1)] 3) = w6 := ⟨_, rfl⟩
                  have BL6 : Hid (BlkIs w6 w5.heap.size 3 #[.int .i64 0, .int .i64 (r.count - 1)]) := by rw [← hw6]; exact BlkIs.new _ _ _
                  have BX6 : Hid (BlkIs w6 w.heap.size 60 #[.string r.mark, .int .i64 r.tx, .int .i64 r.ty, .int .i64 r.at_.x, .int .i64 r.at_.y, .int .i64 r.at_.z, .int .i64 r.step.x, .int .i64 r.step.y, .int .i64 r.step.z, .int .i64 r.count]) := by rw [← hw6]; exact BX5.out.alloc _
                  have HO6 : Hid (Pts w6 (.slice oo (turnedOf b r).length oc) (turnedOf b r)) := by rw [← hw6]; exact HOP.out.below (below_new _ _)
                  have HB6 : Hid (Below w.heap.size w w6) := by rw [← hw6]; exact HB5.out.alloc HB5.out.size _
                  rw [hw6]
                  clear hw6 k9
                  go_loopw [61] (fun i wr => ∃ m : Nat, m ≤ 2 ∧ i = .int .i64 m ∧ Below w6.heap.size w6 wr ∧ Hid ((1 ≤ m → chkB (turnedOf b r) r 0 = true) ∧ (2 ≤ m → chkB (turnedOf b r) r 1 = true))) (fun i _ => 2 - (intOf i).toNat)
                  case atStart => exact ⟨0, by omega, rfl, Below.refl _ _, ⟨fun h => by omega, fun h => by omega⟩⟩
                  case round =>
                    obtain ⟨m, hm, rfl, hBr, hR⟩ := hrel
                    by_cases h2 : m < 2
                    · obtain ⟨kk, hkk⟩ : ∃ kk, kOf r.count m = kk := ⟨_, rfl⟩
                      have hk0 : 0 ≤ kk := by rw [← hkk]; unfold kOf; split <;> omega
                      have hk1 : kk ≤ 999 := by rw [← hkk]; unfold kOf; split <;> omega
                      have hk2 : 0 < kk → 1 < r.count := by rw [← hkk]; unfold kOf; split <;> omega
                      have hcell : wr.cell? ⟨w5.heap.size, 0 + m, none⟩ = some (.int .i64 kk) := by
                        rw [Nat.zero_add, (BL6.out.below hBr).cell m, ← hkk]
                        obtain rfl | rfl : m = 0 ∨ m = 1 := by omega
                        · rfl
                        · rfl
                      have hcell0 : wr.cell? ⟨w5.heap.size, m, none⟩ = some (.int .i64 kk) := by rw [Nat.zero_add] at hcell; exact hcell
                      have dm : decide ((m : Int) < 2) = true := dec_yes (by omega)
                      have HK := Lib.hid hkk
                      have HK2 := Lib.hid hk2
                      have HBW := Lib.hid hBr
                      have HOr := Lib.hid (HO6.out.below hBr)
                      have BXr := Lib.hid (BX6.out.below hBr)
                      clear hkk hk2 hBr
                      obtain ⟨wo, rfl⟩ : ∃ wo : World, wo = wr := ⟨_, rfl⟩
                      go_wp2_with fail
                      go_loopw [67] (fun i wq => ∃ j : Nat, j ≤ (turnedOf b r).length ∧ i = .int .i64 j ∧ Below wo.heap.size wo wq ∧ Hid (∀ (t : Nat) p, t < j → (turnedOf b r)[t]? = some p → ptIn 1048576 (shiftP r (kOf r.count m) p) = true)) (fun i _ => (turnedOf b r).length - (intOf i).toNat)
                      case atStart => exact ⟨0, Nat.zero_le _, rfl, Below.refl _ _, fun t p ht => by omega⟩
                      case round =>
                        obtain ⟨j, hj, rfl, hBq, hN⟩ := hrel
                        by_cases hj2 : j < (turnedOf b r).length
                        · obtain ⟨p, hy⟩ : ∃ y, (turnedOf b r)[j]? = some y := ⟨_, List.getElem?_eq_getElem hj2⟩
                          obtain ⟨bb, off, rfl, hbl, c0, c1, c2⟩ := pts_get (HOr.out.below hBq) hy
                          have HY := Lib.hid hy
                          have hpb := HTB2.out p (List.mem_of_getElem? hy)
                          have HP1 := Lib.hid (fun W => lplus_any p r.at_ 1 W (hpb.mono (by omega)) (hat.mono (by omega)))
                          have hq1 := padd_bd hpb hat
                          have HBq := Lib.hid (bstep (bstep HB6.out HBW.out) hBq)
                          have HBq0 := Lib.hid hBq
                          have BXq := Lib.hid (BXr.out.below hBq)
                          have k3 := BXq.out.cell 3
                          have k4 := BXq.out.cell 4
                          have k5 := BXq.out.cell 5
                          have hzq := BXq.out.lt
                          clear hy hBq hpb
                          go_wp2_with fail
                          refine (HP1.out _).mono ?_
                          rintro e w7 ⟨rfl, hb7⟩
                          have HSH1 := Lib.hid (HSH.out kk p)
                          have HQ1 : Hid (padd p (pmul 1 r.at_) = padd p (pmul 1 r.at_)) := rfl
                          generalize hq : padd p (pmul 1 r.at_) = q1 at *
                          clear hq HQ1
                          have HB7 := Lib.hid (bstep (HBq.out.alloc HBq.out.size _) hb7)
                          have HB70 := Lib.hid (bstep (HBq0.out.alloc HBq0.out.size _) hb7)
                          have BX7 := Lib.hid ((BXq.out.alloc _).below hb7)
                          clear hb7 k3 k4 k5 c0 c1 c2
                          by_cases hkp : 0 < kk
                          · have HP2 := Lib.hid (fun W => lplus_any q1 r.step kk W (hq1.mono (by omega)) ((HKB.out (HK2.out hkp) kk hk0 hk1).mono (by omega)))
                            have k6 := BX7.out.cell 6
                            have k7 := BX7.out.cell 7
                            have k8 := BX7.out.cell 8
                            have hz7 := BX7.out.lt
                            go_wp2_with fail
                            refine (HP2.out _).mono ?_
                            rintro e w8 ⟨rfl, hb8⟩
                            have HSH2 := Lib.hid (show shiftP r kk p = padd q1 (pmul kk r.step) by rw [HSH1.out, if_pos hkp])
                            generalize hq : padd q1 (pmul kk r.step) = q2 at *
                            clear hq
                            have HIP := Lib.hid (fun W => isPlace_any q2 1048576 W (by omega) (by omega))
                            have HB8 := Lib.hid (bstep (HB7.out.alloc HB7.out.size _) hb8)
                            have HB80 := Lib.hid (bstep (HB70.out.alloc HB70.out.size _) hb8)
                            have BT8 := (BlkIs.new w7 #[.int .i64 q1.x, .int .i64 q1.y, .int .i64 q1.z] 31).below hb8
                            have t0 := BT8.cell 0
                            have t1 := BT8.cell 1
                            have t2 := BT8.cell 2
                            have tf := BT8.free
                            have hw7 := HB7.out.size
                            have hw70 := HB70.out.size
                            clear hb8 k6 k7 k8 BT8
                            cases hpx : ptIn 1048576 q2 with
                            | false =>
                              have HF := Lib.hid (show rightB l r = false by rw [HG.out]; exact and_no (m := m) (by omega) (HCN.out m j p HY.out (by rw [HK.out, HSH2.out]; exact hpx)))
                              go_wp2_with fail
                              refine (HIP.out _).mono ?_
                              rintro e w9 ⟨rfl, hb9⟩
                              have HB9 := Lib.hid (bstep (((HB8.out.setCell (by simp; omega) _).setCell (by simp; omega) _).setCell (by simp; omega) _) hb9)
                              clear hb9
                              rw [hpx]
                              go_wp2
                              go_ret
                              exact ⟨ret_bool HF.out.symm, HB9.out⟩
                            | true =>
                              go_wp2_with fail
                              refine (HIP.out _).mono ?_
                              rintro e w9 ⟨rfl, hb9⟩
                              have HB9 := Lib.hid (bstep (((HB80.out.setCell (by simp; omega) _).setCell (by simp; omega) _).setCell (by simp; omega) _) hb9)
                              clear hb9
                              rw [hpx]
                              go_wp2
                              go_roundw
                              case rel =>
                                have HNX : Hid (∀ (t : Nat) z, t < j + 1 → (turnedOf b r)[t]? = some z → ptIn 1048576 (shiftP r (kOf r.count m) z) = true) := fun t z ht hz => by
                                  by_cases e : t = j
                                  · subst e; rw [HY.out] at hz; cases hz; rw [HK.out, HSH2.out]; exact hpx
                                  · exact hN.out t z (by omega) hz
                                first
                                  | exact ⟨j + 1, by omega, by go_num, HB9.out, HNX.out⟩
                                  | ((repeat apply Exists.intro); refine ⟨?_, rfl⟩; exact ⟨j + 1, by omega, by go_num, HB9.out, HNX.out⟩)
                              case measure => simp [intOf]; omega
                          · have HSH2 := Lib.hid (show shiftP r kk p = q1 by rw [HSH1.out, if_neg hkp])
                            have HIP := Lib.hid (fun W => isPlace_any q1 1048576 W (by omega) (by omega))
                            cases hpx : ptIn 1048576 q1 with
                            | false =>
                              have HF := Lib.hid (show rightB l r = false by rw [HG.out]; exact and_no (m := m) (by omega) (HCN.out m j p HY.out (by rw [HK.out, HSH2.out]; exact hpx)))
                              go_wp2_with fail
                              refine (HIP.out _).mono ?_
                              rintro e w9 ⟨rfl, hb9⟩
                              have HB9 := Lib.hid (bstep (HB7.out.alloc HB7.out.size _) hb9)
                              clear hb9
                              rw [hpx]
                              go_wp2
                              go_ret
                              exact ⟨ret_bool HF.out.symm, HB9.out⟩
                            | true =>
                              go_wp2_with fail
                              refine (HIP.out _).mono ?_
                              rintro e w9 ⟨rfl, hb9⟩
                              have HB9 := Lib.hid (bstep (HB70.out.alloc HB70.out.size _) hb9)
                              clear hb9
                              rw [hpx]
                              go_wp2
                              go_roundw
                              case rel =>
                                have HNX : Hid (∀ (t : Nat) z, t < j + 1 → (turnedOf b r)[t]? = some z → ptIn 1048576 (shiftP r (kOf r.count m) z) = true) := fun t z ht hz => by
                                  by_cases e : t = j
                                  · subst e; rw [HY.out] at hz; cases hz; rw [HK.out, HSH2.out]; exact hpx
                                  · exact hN.out t z (by omega) hz
                                first
                                  | exact ⟨j + 1, by omega, by go_num, HB9.out, HNX.out⟩
                                  | ((repeat apply Exists.intro); refine ⟨?_, rfl⟩; exact ⟨j + 1, by omega, by go_num, HB9.out, HNX.out⟩)
                              case measure => simp [intOf]; omega
                        · have HC := Lib.hid (HCY.out m (fun t z ht hz => hN.out t z (by omega) hz))
                          have HBZ := Lib.hid (bstep HBW.out hBq)
                          clear hBq
                          go_wp2
                          go_roundw
                          case rel => exact ⟨m + 1, by omega, by go_num, HBZ.out, two_next h2 hR.out HC.out⟩
                          case measure => simp [intOf]; omega
                    · have HT1 := Lib.hid (show rightB l r = true by rw [HG.out, hR.out.1 (by omega), hR.out.2 (by omega)]; rfl)
                      have HBZ := Lib.hid (bstep HB6.out hBr)
                      clear hBr
                      go_wp2
                      go_ret
                      exact ⟨ret_bool HT1.out.symm, HBZ.out⟩
            · have HG := Lib.hid (show rightB l r = (chkB (turnedOf b r) r 0 && chkB (turnedOf b r) r 1) by rw [HE.out, HSB.out, dec_yes (p := r.count ≤ 1) (by omega)]; rfl)
              have dd0 : decide ((i : Int) < 0) = false := dec_no i0
              have dd1 : decide (r.count < 1) = false := dec_no hc1
              have dd2 : decide (1000 < r.count) = false := dec_no hc2
              have dd3 : decide (1 < r.count) = false := dec_no hc3
              go_enter Try.func48, Try.ntmps48
              go_wp2_with fail
              refine (HIX.out _ (by go_grown)).mono ?_
              rintro e w1 ⟨rfl, hb1⟩
              have HB1 := Lib.hid (bstep (by go_grown) hb1 : Below w.heap.size w w1)
              have BX1 : Hid (BlkIs w1 w.heap.size 60 #[.string r.mark, .int .i64 r.tx, .int .i64 r.ty, .int .i64 r.at_.x, .int .i64 r.at_.y, .int .i64 r.at_.z, .int .i64 r.step.x, .int .i64 r.step.y, .int .i64 r.step.z, .int .i64 r.count]) := (BlkIs.new w _ _).below hb1
              clear hb1
              have k1 := BX1.out.cell 1
              have k2 := BX1.out.cell 2
              go_wp2_with fail
              refine (HT.out _).mono ?_
              rintro e w2 ⟨rfl, hb2⟩
              have HB2 := Lib.hid (bstep HB1.out hb2)
              have BX2 := Lib.hid (BX1.out.below hb2)
              clear hb2 k1 k2
              rw [htb]
              have k3 := BX2.out.cell 3
              have k4 := BX2.out.cell 4
              have k5 := BX2.out.cell 5
              have k9 := BX2.out.cell 9
              go_wp2_with fail
              refine (HQ.out _).mono ?_
              rintro e w3 ⟨rfl, hb3⟩
              have HB3 := Lib.hid (bstep HB2.out hb3)
              have BX3 := Lib.hid (BX2.out.below hb3)
              clear hb3 k3 k4 k5 k9
              rw [hpa]
              have k6 := BX3.out.cell 6
              have k7 := BX3.out.cell 7
              have k8 := BX3.out.cell 8
              have k9 := BX3.out.cell 9
              have k0 := BX3.out.cell 0
              have k1 := BX3.out.cell 1
              have k2 := BX3.out.cell 2
              have k3 := BX3.out.cell 3
              have k4 := BX3.out.cell 4
              have k5 := BX3.out.cell 5
              have HKB : Hid (1 < r.count → ∀ k : Int, 0 ≤ k → k ≤ 999 → PtIn 4294967296 (pmul k r.step)) := fun h => by omega
              go_wp2_with fail
              refine (HTU2.out _ HB3.out).mono ?_
              rintro e w5 ⟨o, rfl, HOW, hb5⟩
              have HB5 := Lib.hid (bstep HB3.out hb5)
              have BX5 := Lib.hid (BX3.out.below hb5)
              obtain ⟨oo, oc, rfl⟩ := HOW.out.shape
              have HOP := Lib.hid (OwnN.fl pt_len HOW.out)
              have k9 := BX5.out.cell 9
              have htl := HTL.out
              clear hb5 k0 k1 k2 k3 k4 k5 k6 k7 k8
              go_wp2_with fail
              obtain ⟨w6, hw6⟩ : ∃ w6, w5.alloc (.cells #[.int .i64 0, .int .i64 (r.count - 1)] 3) = w6 := ⟨_, rfl⟩
              have BL6 : Hid (BlkIs w6 w5.heap.size 3 #[.int .i64 0, .int .i64 (r.count - 1)]) := by rw [← hw6]; exact BlkIs.new _ _ _
              have BX6 : Hid (BlkIs w6 w.heap.size 60 #[.string r.mark, .int .i64 r.tx, .int .i64 r.ty, .int .i64 r.at_.x, .int .i64 r.at_.y, .int .i64 r.at_.z, .int .i64 r.step.x, .int .i64 r.step.y, .int .i64 r.step.z, .int .i64 r.count]) := by rw [← hw6]; exact BX5.out.alloc _
              have HO6 : Hid (Pts w6 (.slice oo (turnedOf b r).length oc) (turnedOf b r)) := by rw [← hw6]; exact HOP.out.below (below_new _ _)
              have HB6 : Hid (Below w.heap.size w w6) := by rw [← hw6]; exact HB5.out.alloc HB5.out.size _
              rw [hw6]
              clear hw6 k9
              go_loopw [61] (fun i wr => ∃ m : Nat, m ≤ 2 ∧ i = .int .i64 m ∧ Below w6.heap.size w6 wr ∧ Hid ((1 ≤ m → chkB (turnedOf b r) r 0 = true) ∧ (2 ≤ m → chkB (turnedOf b r) r 1 = true))) (fun i _ => 2 - (intOf i).toNat)
              case atStart => exact ⟨0, by omega, rfl, Below.refl _ _, ⟨fun h => by omega, fun h => by omega⟩⟩
              case round =>
                obtain ⟨m, hm, rfl, hBr, hR⟩ := hrel
                by_cases h2 : m < 2
                · obtain ⟨kk, hkk⟩ : ∃ kk, kOf r.count m = kk := ⟨_, rfl⟩
                  have hk0 : 0 ≤ kk := by rw [← hkk]; unfold kOf; split <;> omega
                  have hk1 : kk ≤ 999 := by rw [← hkk]; unfold kOf; split <;> omega
                  have hk2 : 0 < kk → 1 < r.count := by rw [← hkk]; unfold kOf; split <;> omega
                  have hcell : wr.cell? ⟨w5.heap.size, 0 + m, none⟩ = some (.int .i64 kk) := by
                    rw [Nat.zero_add, (BL6.out.below hBr).cell m, ← hkk]
                    obtain rfl | rfl : m = 0 ∨ m = 1 := by omega
                    · rfl
                    · rfl
                  have hcell0 : wr.cell? ⟨w5.heap.size, m, none⟩ = some (.int .i64 kk) := by rw [Nat.zero_add] at hcell; exact hcell
                  have dm : decide ((m : Int) < 2) = true := dec_yes (by omega)
                  have HK := Lib.hid hkk
                  have HK2 := Lib.hid hk2
                  have HBW := Lib.hid hBr
                  have HOr := Lib.hid (HO6.out.below hBr)
                  have BXr := Lib.hid (BX6.out.below hBr)
                  clear hkk hk2 hBr
                  obtain ⟨wo, rfl⟩ : ∃ wo : World, wo = wr := ⟨_, rfl⟩
                  go_wp2_with fail
                  go_loopw [67] (fun i wq => ∃ j : Nat, j ≤ (turnedOf b r).length ∧ i = .int .i64 j ∧ Below wo.heap.size wo wq ∧ Hid (∀ (t : Nat) p, t < j → (turnedOf b r)[t]? = some p → ptIn 1048576 (shiftP r (kOf r.count m) p) = true)) (fun i _ => (turnedOf b r).length - (intOf i).toNat)
                  case atStart => exact ⟨0, Nat.zero_le _, rfl, Below.refl _ _, fun t p ht => by omega⟩
                  case round =>
                    obtain ⟨j, hj, rfl, hBq, hN⟩ := hrel
                    by_cases hj2 : j < (turnedOf b r).length
                    · obtain ⟨p, hy⟩ : ∃ y, (turnedOf b r)[j]? = some y := ⟨_, List.getElem?_eq_getElem hj2⟩
                      obtain ⟨bb, off, rfl, hbl, c0, c1, c2⟩ := pts_get (HOr.out.below hBq) hy
                      have HY := Lib.hid hy
                      have hpb := HTB2.out p (List.mem_of_getElem? hy)
                      have HP1 := Lib.hid (fun W => lplus_any p r.at_ 1 W (hpb.mono (by omega)) (hat.mono (by omega)))
                      have hq1 := padd_bd hpb hat
                      have HBq := Lib.hid (bstep (bstep HB6.out HBW.out) hBq)
                      have HBq0 := Lib.hid hBq
                      have BXq := Lib.hid (BXr.out.below hBq)
                      have k3 := BXq.out.cell 3
                      have k4 := BXq.out.cell 4
                      have k5 := BXq.out.cell 5
                      have hzq := BXq.out.lt
                      clear hy hBq hpb
                      go_wp2_with fail
                      refine (HP1.out _).mono ?_
                      rintro e w7 ⟨rfl, hb7⟩
                      have HSH1 := Lib.hid (HSH.out kk p)
                      have HQ1 : Hid (padd p (pmul 1 r.at_) = padd p (pmul 1 r.at_)) := rfl
                      generalize hq : padd p (pmul 1 r.at_) = q1 at *
                      clear hq HQ1
                      have HB7 := Lib.hid (bstep (HBq.out.alloc HBq.out.size _) hb7)
                      have HB70 := Lib.hid (bstep (HBq0.out.alloc HBq0.out.size _) hb7)
                      have BX7 := Lib.hid ((BXq.out.alloc _).below hb7)
                      clear hb7 k3 k4 k5 c0 c1 c2
                      by_cases hkp : 0 < kk
                      · have HP2 := Lib.hid (fun W => lplus_any q1 r.step kk W (hq1.mono (by omega)) ((HKB.out (HK2.out hkp) kk hk0 hk1).mono (by omega)))
                        have k6 := BX7.out.cell 6
                        have k7 := BX7.out.cell 7
                        have k8 := BX7.out.cell 8
                        have hz7 := BX7.out.lt
                        go_wp2_with fail
                        refine (HP2.out _).mono ?_
                        rintro e w8 ⟨rfl, hb8⟩
                        have HSH2 := Lib.hid (show shiftP r kk p = padd q1 (pmul kk r.step) by rw [HSH1.out, if_pos hkp])
                        generalize hq : padd q1 (pmul kk r.step) = q2 at *
                        clear hq
                        have HIP := Lib.hid (fun W => isPlace_any q2 1048576 W (by omega) (by omega))
                        have HB8 := Lib.hid (bstep (HB7.out.alloc HB7.out.size _) hb8)
                        have HB80 := Lib.hid (bstep (HB70.out.alloc HB70.out.size _) hb8)
                        have BT8 := (BlkIs.new w7 #[.int .i64 q1.x, .int .i64 q1.y, .int .i64 q1.z] 31).below hb8
                        have t0 := BT8.cell 0
                        have t1 := BT8.cell 1
                        have t2 := BT8.cell 2
                        have tf := BT8.free
                        have hw7 := HB7.out.size
                        have hw70 := HB70.out.size
                        clear hb8 k6 k7 k8 BT8
                        cases hpx : ptIn 1048576 q2 with
                        | false =>
                          have HF := Lib.hid (show rightB l r = false by rw [HG.out]; exact and_no (m := m) (by omega) (HCN.out m j p HY.out (by rw [HK.out, HSH2.out]; exact hpx)))
                          go_wp2_with fail
                          refine (HIP.out _).mono ?_
                          rintro e w9 ⟨rfl, hb9⟩
                          have HB9 := Lib.hid (bstep (((HB8.out.setCell (by simp; omega) _).setCell (by simp; omega) _).setCell (by simp; omega) _) hb9)
                          clear hb9
                          rw [hpx]
                          go_wp2
                          go_ret
                          exact ⟨ret_bool HF.out.symm, HB9.out⟩
                        | true =>
                          go_wp2_with fail
                          refine (HIP.out _).mono ?_
                          rintro e w9 ⟨rfl, hb9⟩
                          have HB9 := Lib.hid (bstep (((HB80.out.setCell (by simp; omega) _).setCell (by simp; omega) _).setCell (by simp; omega) _) hb9)
                          clear hb9
                          rw [hpx]
                          go_wp2
                          go_roundw
                          case rel =>
                            have HNX : Hid (∀ (t : Nat) z, t < j + 1 → (turnedOf b r)[t]? = some z → ptIn 1048576 (shiftP r (kOf r.count m) z) = true) := fun t z ht hz => by
                              by_cases e : t = j
                              · subst e; rw [HY.out] at hz; cases hz; rw [HK.out, HSH2.out]; exact hpx
                              · exact hN.out t z (by omega) hz
                            first
                              | exact ⟨j + 1, by omega, by go_num, HB9.out, HNX.out⟩
                              | ((repeat apply Exists.intro); refine ⟨?_, rfl⟩; exact ⟨j + 1, by omega, by go_num, HB9.out, HNX.out⟩)
                          case measure => simp [intOf]; omega
                      · have HSH2 := Lib.hid (show shiftP r kk p = q1 by rw [HSH1.out, if_neg hkp])
                        have HIP := Lib.hid (fun W => isPlace_any q1 1048576 W (by omega) (by omega))
                        cases hpx : ptIn 1048576 q1 with
                        | false =>
                          have HF := Lib.hid (show rightB l r = false by rw [HG.out]; exact and_no (m := m) (by omega) (HCN.out m j p HY.out (by rw [HK.out, HSH2.out]; exact hpx)))
                          go_wp2_with fail
                          refine (HIP.out _).mono ?_
                          rintro e w9 ⟨rfl, hb9⟩
                          have HB9 := Lib.hid (bstep (HB7.out.alloc HB7.out.size _) hb9)
                          clear hb9
                          rw [hpx]
                          go_wp2
                          go_ret
                          exact ⟨ret_bool HF.out.symm, HB9.out⟩
                        | true =>
                          go_wp2_with fail
                          refine (HIP.out _).mono ?_
                          rintro e w9 ⟨rfl, hb9⟩
                          have HB9 := Lib.hid (bstep (HB70.out.alloc HB70.out.size _) hb9)
                          clear hb9
                          rw [hpx]
                          go_wp2
                          go_roundw
                          case rel =>
                            have HNX : Hid (∀ (t : Nat) z, t < j + 1 → (turnedOf b r)[t]? = some z → ptIn 1048576 (shiftP r (kOf r.count m) z) = true) := fun t z ht hz => by
                              by_cases e : t = j
                              · subst e; rw [HY.out] at hz; cases hz; rw [HK.out, HSH2.out]; exact hpx
                              · exact hN.out t z (by omega) hz
                            first
                              | exact ⟨j + 1, by omega, by go_num, HB9.out, HNX.out⟩
                              | ((repeat apply Exists.intro); refine ⟨?_, rfl⟩; exact ⟨j + 1, by omega, by go_num, HB9.out, HNX.out⟩)
                          case measure => simp [intOf]; omega
                    · have HC := Lib.hid (HCY.out m (fun t z ht hz => hN.out t z (by omega) hz))
                      have HBZ := Lib.hid (bstep HBW.out hBq)
                      clear hBq
                      go_wp2
                      go_roundw
                      case rel => exact ⟨m + 1, by omega, by go_num, HBZ.out, two_next h2 hR.out HC.out⟩
                      case measure => simp [intOf]; omega
                · have HT1 := Lib.hid (show rightB l r = true by rw [HG.out, hR.out.1 (by omega), hR.out.2 (by omega)]; rfl)
                  have HBZ := Lib.hid (bstep HB6.out hBr)
                  clear hBr
                  go_wp2
                  go_ret
                  exact ⟨ret_bool HT1.out.symm, HBZ.out⟩
end Go.Proofs.Ytpidjgljeooblaa
