/-
  Reference 19: Pairs.
-/
import Derived.Test.YtpiigmhbbcjamaaGreatRcd
namespace Go.Proofs.YtpiigmhbbcjamaaGreat
section
open Go.RowKit
set_option linter.unusedVariables false
set_option linter.unusedSimpArgs false
attribute [local go_sem ↓] Go.wp_at_zero Go.wp_at_succ

set_option maxRecDepth 100000 in
set_option maxHeartbeats 8000000 in
theorem rpairs19_any (v vr : Value) (c : Int) (l : List BarD) (rs : List RunD) (w : World) (hp : Bars w v l) (hr : Runs w vr rs) (hl : l.length ≤ 140737488355328) (h : laidOk l rs = true) (hc : clrB c = true) (h14 : (lgsOf l rs).length ≤ 14) :
    Calls Tryz.prog 19 #[v, vr, .int .i64 c] w fun e w' => ∃ o, e = .returned o ∧ OwnCl w' w.heap.size o (allC (lgsOf l rs) (szsOf l rs) c (lgsOf l rs).length (lgsOf l rs).length) ∧ Below w.heap.size w w' := by
  obtain ⟨s1, s2, s3, s4, s5⟩ := laid_sum h
  have hz := lzOk_of h
  have hn : sumC rs = ((lgsOf l rs).length : Int) := by rw [lgsOf_len]; exact s1.symm
  have HCN := Lib.hid (rcount_any vr rs w hr (by omega) s4)
  rw [hn] at HCN
  have HOF := Lib.hid (fun (i k : Nat) W (hW : Below w.heap.size w W) (hi : i < (lgsOf l rs).length) (hk : k < (lgsOf l rs).length) => rof19_any v vr l rs i k W (hp.below hW) (hr.below hW) hl h (by rw [← lgsOf_len]; exact hi) (by rw [← lgsOf_len]; exact hk))
  have HSZ := Lib.hid (fun (i : Nat) W (hW : Below w.heap.size w W) (hi : i < (lgsOf l rs).length) => rsize19_any v vr l rs i W (hp.below hW) (hr.below hW) hl h (by rw [← lgsOf_len]; exact hi))
  have HND := Lib.hid (fun (i k : Nat) W (hi : i < (lgsOf l rs).length) (hk : k < (lgsOf l rs).length) => rneed19_any ((szsOf l rs).getD i 0) ((szsOf l rs).getD k 0) c W (hz.size i hi) (hz.size k hk) (clr_yes hc))
  have HBD := Lib.hid (fun (i k : Nat) (hi : i < (lgsOf l rs).length) (hk : k < (lgsOf l rs).length) => sqAt_bd hz hi hk)
  have HHC : Hid (∀ i k : Nat, hitC (lgsOf l rs) (szsOf l rs) c i k = decide (4 * (sqAt (lgsOf l rs) i k).n < needN ((szsOf l rs).getD i 0) ((szsOf l rs).getD k 0) c)) := fun _ _ => rfl
  generalize lgsOf l rs = L at *
  generalize szsOf l rs = Z at *
  clear hp hr h hc hz hn s1 s2 s3 s4 s5
  go_enter Tryz.func19, Tryz.ntmps19
  go_wp2_with fail
  refine HCN.out.mono ?_
  rintro e w1 ⟨rfl, rfl⟩
  clear HCN
  go_wp2_with fail
  go_loopw [7, 9] (fun o x wr => ∃ i : Nat, i ≤ L.length ∧ x = .int .i64 (i : Int) ∧ Below w.heap.size w wr ∧ OwnCl wr w.heap.size o (allC L Z c L.length i)) (fun _ x _ => L.length - (intOf x).toNat)
  case atStart => exact ⟨0, Nat.zero_le _, rfl, Below.refl _ _, OwnN.nil _ _ _ _ _⟩
  case round =>
    obtain ⟨i, hi, rfl, hBr, hown⟩ := hrel
    obtain ⟨wo, rfl⟩ : ∃ wo : World, wo = wr := ⟨_, rfl⟩
    have HBo := Lib.hid hBr
    have HWo := Lib.hid hown
    clear hBr hown
    by_cases hi2 : i < L.length
    · have HES := Lib.hid (allC_succ L Z c L.length i)
      have HEL := allC_len L Z c L.length i
      have HE0 := Lib.hid (rowC_low L Z c i (i + 1) (Nat.le_refl _))
      generalize allC L Z c L.length i = E0 at *
      have hE0 : E0.length ≤ 196 := by
        have : i * L.length ≤ 14 * 14 := Nat.mul_le_mul (by omega) (by omega)
        omega
      have hw1 : IntKind.i64.wrap ((i : Int) + 1) = (i : Int) + 1 := IntWalk.i64_in _ (by omega)
      clear HEL
      go_wp2_with fail
      go_loopw [7, 10] (fun o x wr => ∃ k : Nat, i + 1 ≤ k ∧ k ≤ L.length ∧ x = .int .i64 (k : Int) ∧ Below w.heap.size w wr ∧ OwnCl wr w.heap.size o (E0 ++ rowC L Z c i k)) (fun _ x _ => L.length - (intOf x).toNat)
      case atStart => exact ⟨i + 1, by omega, by omega, by go_num, HBo.out, by rw [HE0.out, List.append_nil]; exact HWo.out⟩
      case round =>
        clear HBo HWo HE0
        obtain ⟨k, hik, hk, rfl, hBr, hown⟩ := hrel
        have HB := Lib.hid hBr
        have HW := Lib.hid hown
        clear hBr hown
        by_cases hk2 : k < L.length
        · have HSN := Lib.hid (rowC_succ L Z c i k (by omega))
          have hRl := rowC_len L Z c i k
          have HC := Lib.hid (HOF.out i k wr HB.out hi2 hk2)
          have HZI := Lib.hid (fun W hW => HSZ.out i W hW hi2)
          have HZK := Lib.hid (fun W hW => HSZ.out k W hW hk2)
          have HNE := Lib.hid (fun W => HND.out i k W hi2 hk2)
          have hsb := HBD.out i k hi2 hk2
          have HHK := Lib.hid (HHC.out i k)
          generalize clOf L i k = cl at *
          generalize (sqAt L i k).n = sn at *
          generalize Z.getD i 0 = zi at *
          generalize Z.getD k 0 = zk at *
          generalize needN zi zk c = nd at *
          have hw4 : IntKind.i64.wrap (4 * sn) = 4 * sn := IntWalk.i64_in _ (by omega)
          obtain ⟨ca, cb, ⟨px, py, pz⟩, ⟨qx, qy, qz⟩⟩ := cl
          go_wp2_with fail
          refine HC.out.mono ?_
          rintro e w2 ⟨rfl, hb2⟩
          have HX := Lib.hid (BlkIs.new w2 #[.int .i64 ca, .int .i64 cb, .int .i64 px, .int .i64 py, .int .i64 pz, .int .i64 qx, .int .i64 qy, .int .i64 qz] 45)
          have HB2 := Lib.hid ((bstep HB.out hb2).alloc (bstep HB.out hb2).size (.cells #[.int .i64 ca, .int .i64 cb, .int .i64 px, .int .i64 py, .int .i64 pz, .int .i64 qx, .int .i64 qy, .int .i64 qz] 45))
          have HW2 := Lib.hid (OwnN.below HW.out hb2)
          have HW3 := Lib.hid (OwnN.alloc HW2.out (.cells #[.int .i64 ca, .int .i64 cb, .int .i64 px, .int .i64 py, .int .i64 pz, .int .i64 qx, .int .i64 qy, .int .i64 qz] 45))
          have hbase : w.heap.size ≤ w2.heap.size := (bstep HB.out hb2).size
          clear hb2 HC HW2 HB HW
          go_wp2_with fail
          refine (HZI.out _ HB2.out).mono ?_
          rintro e w3 ⟨rfl, hb3⟩
          have HB3 := Lib.hid (bstep HB2.out hb3)
          have HX3 := Lib.hid (HX.out.below hb3)
          have HW4 := Lib.hid (OwnN.below HW3.out hb3)
          clear hb3 HB2 HX HW3 HZI
          go_wp2_with fail
          refine (HZK.out _ HB3.out).mono ?_
          rintro e w4 ⟨rfl, hb4⟩
          have HB4 := Lib.hid (bstep HB3.out hb4)
          have HX4 := Lib.hid (HX3.out.below hb4)
          have HW5 := Lib.hid (OwnN.below HW4.out hb4)
          clear hb4 HB3 HX3 HW4 HZK
          go_wp2_with fail
          refine (HNE.out _).mono ?_
          rintro e w5 ⟨rfl, hb5⟩
          have HB5 := Lib.hid (bstep HB4.out hb5)
          have HX5 := Lib.hid (HX4.out.below hb5)
          have HW6 := Lib.hid (OwnN.below HW5.out hb5)
          clear hb5 HB4 HX4 HW5 HNE
          by_cases hq : 4 * sn < nd
          · have d1 : decide (4 * sn < nd) = true := dec_yes hq
            rw [HHK.out, d1, if_pos rfl] at HSN
            have hln : (E0 ++ rowC L Z c i k).length + 1 ≤ 1099511627776 := by rw [List.length_append]; omega
            obtain ⟨oo, oc, ho⟩ := OwnN.shape HW6.out
            subst ho
            generalize hE1 : E0 ++ rowC L Z c i k = E1 at *
            have HE1 := Lib.hid hE1
            have m0 := HX5.out.cell 0
            have m1 := HX5.out.cell 1
            have m2 := HX5.out.cell 2
            have m3 := HX5.out.cell 3
            have m4 := HX5.out.cell 4
            have m5 := HX5.out.cell 5
            have m6 := HX5.out.cell 6
            have m7 := HX5.out.cell 7
            have ml := HX5.out.lt
            have hb0 : w.heap.size ≤ w5.heap.size := HB5.out.size
            clear hE1
            go_wp2_with (at_builtin; refine wpList_pushAt _ w5.heap.size (by simp) rfl _ _ 34 rfl 45 8 64 elemCl w.heap.size clCells _ _ (⟨ca, cb, ⟨px, py, pz⟩, ⟨qx, qy, qz⟩⟩ : ClD) _ rfl rfl (cl_one _) HW6.out rfl rfl hln (by omega) (by omega) ?_; intro v' w' hown' hg' hat'; have HW9 := Lib.hid hown'; have HB9 := Lib.hid (HB5.out.grown hg' hb0 (fun j hj => (HW6.out.lt j hj).1)); clear hown' hg' hat')
            go_roundw
            case rel => exact ⟨k + 1, by omega, by omega, by go_num, HB9.out, by rw [HSN.out, ← List.append_assoc, HE1.out]; exact HW9.out⟩
            case measure => simp [intOf]; omega
          · have d1 : decide (4 * sn < nd) = false := dec_no hq
            rw [HHK.out, d1, if_neg (by simp), List.append_nil] at HSN
            go_wp2
            go_roundw
            case rel => exact ⟨k + 1, by omega, by omega, by go_num, HB5.out, by rw [HSN.out]; exact HW6.out⟩
            case measure => simp [intOf]; omega
        · obtain rfl : k = L.length := by omega
          go_wp2
          go_roundw
          case rel => exact ⟨i + 1, by omega, by go_num, HB.out, by rw [HES.out]; exact HW.out⟩
          case measure => simp [intOf]; omega
    · obtain rfl : i = L.length := by omega
      go_wp2
      go_ret
      exact ⟨_, rfl, HWo.out, HBo.out⟩
end
end Go.Proofs.YtpiigmhbbcjamaaGreat
