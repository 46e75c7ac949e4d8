/-
  The walk of SequenceLayers (printed by wip/gen_Sqz.py).
-/
import Derived.Test.YthmlejijfgbfbaaGreatSqe
import Derived.Test.YthmlejijfgbfbaaGreatSql
namespace Go.Proofs.YthmlejijfgbfbaaGreat
section
open Go.RowKit
set_option linter.unusedVariables false
set_option linter.unusedSimpArgs false
attribute [local go_sem ↓] Go.wp_at_zero Go.wp_at_succ

def ordP (A : List Int) (m i : Nat) : List Nat := (List.range i).filter fun j => decide (A.getD j 0 = (m : Int))
theorem ordP_succ (A : List Int) (m i : Nat) : ordP A m (i + 1) = ordP A m i ++ if A.getD i 0 = (m : Int) then [i] else [] := by
  unfold ordP
  rw [List.range_succ, List.filter_append]
  congr 1
  by_cases h : A.getD i 0 = (m : Int)
  · rw [if_pos h, List.filter_cons_of_pos (by simpa using h)]; rfl
  · rw [if_neg h, List.filter_cons_of_neg (by simpa using h)]; rfl
theorem ordL_step (A : List Int) (m : Nat) : ordL A (m + 1) = ordL A m ++ ordP A m A.length := by
  unfold ordL
  rw [List.range_succ, List.flatMap_append]
  simp [ordR, ordP]
theorem ordP_len (A : List Int) (m i : Nat) : (ordP A m i).length ≤ i := by
  unfold ordP
  exact Nat.le_trans (List.length_filter_le _ _) (by simp)
theorem ordL_le (A : List Int) : ∀ m, (ordL A m).length ≤ m * A.length
  | 0 => by simp [ordL]
  | m + 1 => by
    have h1 := ordL_le A m
    have h2 := ordP_len A m A.length
    rw [ordL_step, List.length_append, Nat.succ_mul]
    omega
def wtP (A : List Int) (es : List (Nat × Nat)) (i j : Nat) : Bool := decide (j ≠ i) && (decide ((j, i) ∈ es) && decide (A.getD j 0 = A.getD i 0 - 1))
def wtB (A : List Int) (es : List (Nat × Nat)) (i k : Nat) : Bool := decide (A.getD i 0 = 0) || (List.range k).any (wtP A es i)
theorem wtB_succ (A : List Int) (es : List (Nat × Nat)) (i k : Nat) : wtB A es i (k + 1) = (wtB A es i k || wtP A es i k) := by
  unfold wtB
  rw [List.range_succ, List.any_append]
  simp [Bool.or_assoc]
theorem wtB_all {n : Nat} {A : List Int} {es : List (Nat × Nat)} (h : Lays n es A) (he : EndsD n es) (hs : ∀ x, (x, x) ∉ es) (i : Nat) : wtB A es i n = true := by
  unfold wtB
  rcases h.is_ i with h0 | ⟨u, h1, h2⟩
  · rw [dec_yes h0]; rfl
  · have : (List.range n).any (wtP A es i) = true := by
      rw [List.any_eq_true]
      refine ⟨u, List.mem_range.2 (he.mem h1).1, ?_⟩
      unfold wtP
      have hne : u ≠ i := fun e => by subst e; exact hs _ h1
      rw [dec_yes hne, dec_yes h1, dec_yes (show A.getD u 0 = A.getD i 0 - 1 by omega)]
      rfl
    rw [this]
    simp
set_option maxRecDepth 100000 in
set_option maxHeartbeats 8000000 in
theorem sequenceLayers_walk (w : World) (v : Value) (l : List BarD) (hp : Bars w v l) (hf : FitB l) (hl : l.length * 64 ≤ 140737488351232) (vr : Value) (rs : List RunD) (hr : Runs w vr rs) (hm : ∀ r ∈ rs, r.mark.size ≤ maxLen) (hlr : rs.length * 88 ≤ 140737488351232)
    (xv : Value) (X : List Int) (hx : Ints w xv X) (hlx : X.length * 8 ≤ 140737488351232) (wx : ∀ x ∈ X, (Lit.int .i64 x).wf = true) :
    Calls Tryz.prog 6 #[v, vr, xv] w fun en w' => en = .returned (.bool true) ∧ Below w.heap.size w w' := by
  have hl2 : l.length ≤ 140737488355328 := by omega
  have hlr2 : rs.length ≤ 140737488355328 := by omega
  have HP := Lib.hid hp
  have HR := Lib.hid hr
  have HFI := Lib.hid hf
  have HX := Lib.hid hx
  obtain ⟨xo, xc, rfl⟩ := Sl.at_ hx
  have HRD := Lib.hid (fun W (hW : Below w.heap.size w W) => sready_any v vr (.slice xo X.length xc) X l rs W (hp.below hW) (hr.below hW) hl2 hlr2 hf (HX.out.below hW) (by omega))
  clear hp hr hf hl hlr hm wx hx
  go_enter Tryz.func6, Tryz.ntmps6
  go_wp2_with fail
  refine (sawake_any _).mono ?_
  rintro en w1 ⟨rfl, hb1⟩
  have HW1 := Lib.hid hb1
  clear hb1
  go_wp2_with fail
  refine (HRD.out _ HW1.out).mono ?_
  rintro en w2 ⟨b, rfl, hb2, hq2⟩
  have HW2 := Lib.hid (bstep HW1.out hb2)
  have HQ2 := Lib.hid hq2
  clear hb2 hq2 HW1 HRD
  cases b
  · go_wp2
    go_ret
    exact ⟨rfl, HW2.out⟩
  · obtain ⟨hA1, hX70, hc0⟩ := HQ2.out (by simp)
    have HA : Hid (SqA w v vr l rs) := ⟨HP.out, HR.out, hl2, hlr2, HFI.out, hA1.h14⟩
    have hx5 : X.length ≤ 140737488355328 := by omega
    have G1 := Lib.hid (fun W (hW : Below w.heap.size w W) => slayers_any v vr (.slice xo X.length xc) X l rs W (HA.out.below hW) (HX.out.below hW) hx5)
    have G4 := Lib.hid (fun ov Q W (hW : Below w.heap.size w W) (ho : Ints W ov Q) (hlo : Q.length ≤ 140737488355328) => scheck_any v vr (.slice xo X.length xc) ov X Q l rs W (HA.out.below hW) (HX.out.below hW) hx5 ho hlo)
    have HBL := Lib.hid (fun (i k : Nat) W (hW : Below w.heap.size w W) hi hk hne => sblk_any v vr X i k l rs W (HA.out.below hW) hc0 hi hk hne)
    obtain ⟨hok, he⟩ := sqC_zero hc0
    have h14 := hA1.h14 hok
    have HXL := Lib.hid (edgE_zero he).2.1
    have HEN := Lib.hid (edN_ends (lgsOf l rs) (szsOf l rs) X (lgsOf l rs).length)
    have HSF : Hid (∀ x, (x, x) ∉ edN (lgsOf l rs) (szsOf l rs) X (lgsOf l rs).length) := fun x => edN_self
    rw [hc0] at G1 G4
    unfold LPostI sqLay at G1
    rw [if_pos rfl] at G1
    unfold sqChk at G4
    simp only [if_pos] at G4
    unfold sqEs at *
    generalize edN (lgsOf l rs) (szsOf l rs) X (lgsOf l rs).length = es at *
    generalize (lgsOf l rs).length = n at *
    clear HQ2 hA1 hc0 hok he
    cases ho : orderOf n es with
    | none =>
      rw [ho] at G1
      simp only at G1
      clear ho G4 HBL HEN HSF HXL
      go_wp2_with fail
      refine (G1.out _ HW2.out).mono ?_
      rintro en w3 ⟨o1, rfl, ho, hb⟩
      have HW3 := Lib.hid (bstep HW2.out hb)
      obtain ⟨oa, ob, rfl⟩ := ho.shape
      clear hb ho HW2 G1
      go_wp2
      go_ret
      exact ⟨rfl, HW3.out⟩
    | some D =>
      have hly := lays_of HEN.out HSF.out ho
      rw [ho] at G1
      simp only at G1
      generalize layT n es D D.length = A at *
      have HLY := Lib.hid hly
      have HAL := Lib.hid hly.len
      have HOC := Lib.hid (ordL_chk hly HEN.out)
      have HOL := Lib.hid (ordL_len hly)
      have HOE := Lib.hid (ordL_le A)
      have HOP := Lib.hid (ordP_len A)
      have HWT := Lib.hid (fun i => wtB_all hly HEN.out HSF.out i)
      have hAn : A.length ≤ 14 := by rw [hly.len]; exact h14
      clear ho hly
      go_wp2_with fail
      refine (G1.out _ HW2.out).mono ?_
      rintro en w3 ⟨o1, rfl, ho, hb⟩
      have HW3 := Lib.hid (bstep HW2.out hb)
      have HL3 := Lib.hid (ho.sl : Ints w3 o1 A)
      obtain ⟨oa, ob, rfl⟩ := ho.shape
      clear hb ho HW2 G1
      have z1 : ((A.length : Int) != (X.length : Int)) = false := bne_no (by have := HAL.out; have := HXL.out; omega)
      go_wp2_with fail
      go_loopw [9, 52] (fun o i wr => ∃ m : Nat, m ≤ A.length ∧ i = .int .i64 (m : Int) ∧ Below w3.heap.size w3 wr ∧ Own wr w3.heap.size 3 natf o (ordL A m)) (fun _ i _ => A.length - (intOf i).toNat)
      case atStart => exact ⟨0, Nat.zero_le _, rfl, Below.refl _ _, Own.nil _ _ _ _⟩
      case round =>
        obtain ⟨m, hm, rfl, hBr, hown⟩ := hrel
        obtain ⟨wo, rfl⟩ : ∃ wo : World, wo = wr := ⟨_, rfl⟩
        have HBo := Lib.hid hBr
        have HOo := Lib.hid hown
        clear hBr hown
        by_cases hm2 : m < A.length
        · have HSM := Lib.hid (ordL_step A m)
          have hE0 := HOE.out m
          have hmm : m * A.length ≤ 14 * 14 := Nat.mul_le_mul (by omega) hAn
          have HE00 : Hid (ordP A m 0 = []) := rfl
          generalize ordL A m = E0 at *
          go_wp2_with fail
          go_loopw [9, 57] (fun o i wr => ∃ k : Nat, k ≤ A.length ∧ i = .int .i64 (k : Int) ∧ Below w3.heap.size w3 wr ∧ Own wr w3.heap.size 3 natf o (E0 ++ ordP A m k)) (fun _ i _ => A.length - (intOf i).toNat)
          case atStart => exact ⟨0, Nat.zero_le _, rfl, HBo.out, by rw [HE00.out, List.append_nil]; exact HOo.out⟩
          case round =>
            clear HBo HOo
            obtain ⟨k, hk, rfl, hBr, hown⟩ := hrel
            have HB := Lib.hid hBr
            have HO := Lib.hid hown
            clear hBr hown
            by_cases hk2 : k < A.length
            · obtain ⟨y, hy⟩ : ∃ y, A[k]? = some y := ⟨_, List.getElem?_eq_getElem hk2⟩
              obtain ⟨lb, loff, rfl, hlb, g0⟩ := zints_get (HL3.out.below HB.out) hy
              have HSN := Lib.hid (ordP_succ A m k)
              have hPl := HOP.out m k
              rw [getD_at hy] at HSN
              by_cases hq : y = (m : Int)
              · rw [if_pos hq] at HSN
                subst hq
                have hln : (E0 ++ ordP A m k).length + 1 ≤ 1099511627776 := by rw [List.length_append]; omega
                have hb0 : w3.heap.size ≤ wr.heap.size := HB.out.size
                obtain ⟨oo, oc, hoo⟩ := HO.out.shape
                subst hoo
                generalize hE1 : E0 ++ ordP A m k = E1 at *
                have HE1 := Lib.hid hE1
                clear hE1
                go_wp2_with (at_builtin; refine wpList_pushO wr wr.heap.size rfl rfl _ _ 24 rfl 3 8 elemInt w3.heap.size natf _ _ k rfl HO.out rfl rfl hln (by omega) hb0 ?_; intro v' w' hown' hg' hat'; have HW9 := Lib.hid hown'; have HB9 := Lib.hid (HB.out.grown hg' hb0 (fun j hj => (HO.out.lt j hj).1)); clear hown' hg' hat')
                go_roundw
                case rel => exact ⟨k + 1, by omega, by go_num, HB9.out, by rw [HSN.out, ← List.append_assoc, HE1.out]; exact HW9.out⟩
                case measure => simp [intOf]; omega
              · rw [if_neg hq, List.append_nil] at HSN
                have d1 : (y == (m : Int)) = false := beq_no hq
                go_wp2
                go_roundw
                case rel => exact ⟨k + 1, by omega, by go_num, HB.out, by rw [HSN.out]; exact HO.out⟩
                case measure => simp [intOf]; omega
            · obtain rfl : k = A.length := by omega
              go_wp2
              go_roundw
              case rel => exact ⟨m + 1, by omega, by go_num, HB.out, by rw [HSM.out]; exact HO.out⟩
              case measure => simp [intOf]; omega
        · obtain rfl : m = A.length := by omega
          obtain ⟨qo, qc, rfl⟩ := HOo.out.shape
          have G5 := Lib.hid (G4.out (.slice qo (ordL A A.length).length qc) ((ordL A A.length).map fun k : Nat => (k : Int)) wo (bstep HW3.out HBo.out) HOo.out.sl.ints' (by rw [List.length_map, HOL.out]; omega))
          rw [HOC.out] at G5
          generalize (ordL A A.length).length = ql at *
          clear G4 HOC HOL HOo HOE HOP
          go_wp2_with fail
          refine G5.out.mono ?_
          rintro en w4 ⟨rfl, hb⟩
          have HW4 := Lib.hid (bstep HBo.out hb)
          clear hb HBo G5
          go_wp2_with fail
          go_loopw [87] (fun i wr => ∃ m : Nat, m ≤ A.length ∧ i = .int .i64 (m : Int) ∧ Below w3.heap.size w3 wr) (fun i _ => A.length - (intOf i).toNat)
          case atStart => exact ⟨0, Nat.zero_le _, rfl, HW4.out⟩
          case round =>
            clear HW4
            obtain ⟨i, hi, rfl, hBr⟩ := hrel
            obtain ⟨wi, rfl⟩ : ∃ wi : World, wi = wr := ⟨_, rfl⟩
            have HBi := Lib.hid hBr
            clear hBr
            by_cases hi2 : i < A.length
            · obtain ⟨y, hy⟩ : ∃ y, A[i]? = some y := ⟨_, List.getElem?_eq_getElem hi2⟩
              obtain ⟨lb, loff, rfl, hlb, g0⟩ := zints_get (HL3.out.below HBi.out) hy
              have hin : i < n := by have := HAL.out; omega
              have hbd := HLY.out.bd i hin
              rw [getD_at hy] at hbd
              have HW0 : Hid (wtB A es i 0 = decide (y = 0)) := by unfold Hid wtB; rw [getD_at hy]; simp
              have HWA := Lib.hid (HWT.out i)
              have HYD := Lib.hid (getD_at hy)
              have e0 : (y == 0) = decide (y = 0) := rfl
              clear hy
              go_wp2_with fail
              clear g0
              go_loopw [17, 96] (fun b k wr => ∃ j : Nat, j ≤ A.length ∧ k = .int .i64 (j : Int) ∧ b = .bool (wtB A es i j) ∧ Below w3.heap.size w3 wr) (fun _ k _ => A.length - (intOf k).toNat)
              case atStart => exact ⟨0, Nat.zero_le _, rfl, by rw [HW0.out], HBi.out⟩
              case round =>
                clear HBi HW0
                obtain ⟨k, hk, rfl, rfl, hBr⟩ := hrel
                have HB := Lib.hid hBr
                clear hBr
                by_cases hk2 : k < A.length
                · obtain ⟨z, hz⟩ : ∃ z, A[k]? = some z := ⟨_, List.getElem?_eq_getElem hk2⟩
                  obtain ⟨lb2, loff2, he2, hlb2, g1⟩ := zints_get (HL3.out.below HB.out) hz
                  cases he2
                  have hkn : k < n := by have := HAL.out; omega
                  have HSN := Lib.hid (wtB_succ A es i k)
                  have HPK : Hid (wtP A es i k = (decide (k ≠ i) && (decide ((k, i) ∈ es) && decide (z = y - 1)))) := by unfold Hid wtP; rw [getD_at hz, HYD.out]
                  have HGE := Lib.hid (fun h => HLY.out.ge k i h)
                  rw [getD_at hz, HYD.out] at HGE
                  by_cases hki : k = i
                  · have HN : Hid (wtB A es i (k + 1) = wtB A es i k) := by unfold Hid; rw [HSN.out, HPK.out, dec_no (by simpa using hki)]; simp
                    have d1 : decide ((i : Int) = (k : Int)) = true := dec_yes (by omega)
                    have d2 : ((i : Int) == (k : Int)) = true := beq_yes (by omega)
                    subst hki
                    clear HSN HPK HGE d1 d2
                    go_wp2
                    go_roundw
                    case rel => exact ⟨k + 1, by omega, by go_num, by rw [HN.out], HB.out⟩
                    case measure => simp [intOf]; omega
                  · have d1 : decide ((i : Int) = (k : Int)) = false := dec_no (by omega)
                    have d2 : ((i : Int) == (k : Int)) = false := beq_no (by omega)
                    have d3 : (i == k) = false := by simp; omega
                    obtain ⟨xb, xoff, rfl, hxb, g2⟩ := zints_get (HX.out.below (bstep HW3.out HB.out)) (show X[k]? = some (X.getD k 0) by rw [List.getD_eq_getElem?_getD, List.getElem?_eq_getElem (by have := HXL.out; omega)]; rfl)
                    have HBK := Lib.hid (HBL.out k i wr (bstep HW3.out HB.out) hkn hin hki)
                    have x4 : k < X.length := by have := HXL.out; omega
                    have k1 : IntKind.i64.wrap (y - 1) = y - 1 := IntWalk.i64_in _ (by omega)
                    rw [dec_yes hki, Bool.true_and] at HPK
                    generalize X.getD k 0 = ax at *
                    obtain ⟨B0, hB0⟩ : ∃ B0, wtB A es i k = B0 := ⟨_, rfl⟩
                    rw [hB0] at HSN
                    rw [hB0]
                    clear hB0
                    by_cases hm : (k, i) ∈ es
                    · have hzy := HGE.out hm
                      rw [dec_yes hm] at HBK HPK
                      have d4 : decide (y ≤ z) = false := dec_no (by omega)
                      by_cases hz1 : z = y - 1
                      · have HN : Hid (wtB A es i (k + 1) = true) := by unfold Hid; rw [HSN.out, HPK.out, dec_yes hz1]; simp
                        have d5 : (z == y - 1) = true := beq_yes hz1
                        clear HSN HPK HGE hm hz
                        go_wp2_with fail
                        refine HBK.out.mono ?_
                        rintro en w5 ⟨rfl, hb⟩
                        have HB5 := Lib.hid (bstep HB.out hb)
                        clear hb HBK
                        cases B0
                        all_goals
                          go_wp2
                          go_roundw
                          case rel => exact ⟨k + 1, by omega, by go_num, by rw [HN.out], HB5.out⟩
                          case measure => simp [intOf]; omega
                      · have HN : Hid (wtB A es i (k + 1) = B0) := by unfold Hid; rw [HSN.out, HPK.out, dec_no hz1]; simp
                        have d5 : (z == y - 1) = false := beq_no hz1
                        clear HSN HPK HGE hm hz
                        go_wp2_with fail
                        refine HBK.out.mono ?_
                        rintro en w5 ⟨rfl, hb⟩
                        have HB5 := Lib.hid (bstep HB.out hb)
                        clear hb HBK
                        cases B0
                        all_goals
                          go_wp2
                          go_roundw
                          case rel => exact ⟨k + 1, by omega, by go_num, by rw [HN.out], HB5.out⟩
                          case measure => simp [intOf]; omega
                    · rw [dec_no hm] at HBK HPK
                      have HN : Hid (wtB A es i (k + 1) = B0) := by unfold Hid; rw [HSN.out, HPK.out]; simp
                      clear HSN HPK HGE hm hz
                      go_wp2_with fail
                      refine HBK.out.mono ?_
                      rintro en w5 ⟨rfl, hb⟩
                      have HB5 := Lib.hid (bstep HB.out hb)
                      clear hb HBK
                      cases B0
                      all_goals
                        go_wp2
                        go_roundw
                        case rel => exact ⟨k + 1, by omega, by go_num, by rw [HN.out], HB5.out⟩
                        case measure => simp [intOf]; omega
                · obtain rfl : k = A.length := by omega
                  have hwa : wtB A es i A.length = true := by rw [HAL.out]; exact HWA.out
                  rw [hwa]
                  clear hwa
                  go_wp2
                  go_roundw
                  case rel => exact ⟨i + 1, by omega, by go_num, HB.out⟩
                  case measure => simp [intOf]; omega
            · obtain rfl : i = A.length := by omega
              go_wp2
              go_ret
              exact ⟨rfl, bstep HW3.out HBi.out⟩
end
end Go.Proofs.YthmlejijfgbfbaaGreat
