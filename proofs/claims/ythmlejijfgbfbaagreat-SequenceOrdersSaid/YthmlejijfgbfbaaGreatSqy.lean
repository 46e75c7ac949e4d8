/-
  Reference 39: Layers (printed by wip/gen_Sqy.py).
-/
import Derived.Test.YthmlejijfgbfbaaGreatSqr
namespace Go.Proofs.YthmlejijfgbfbaaGreat
section
open Go.RowKit
set_option linter.unusedVariables false
set_option linter.unusedSimpArgs false
attribute [local go_sem ↓] Go.wp_at_zero Go.wp_at_succ

set_option maxRecDepth 100000 in
set_option maxHeartbeats 8000000 in
theorem rlay39_any (v vr xv : Value) (X : List Int) (l : List BarD) (rs : List RunD) (w : World) (hA : SqA w v vr l rs) (hx : Ints w xv X) (hlx : X.length ≤ 1000000) :
    Calls Tryz.prog 23 #[v, vr, xv] w (LPostI w (sqLay (sqC l rs X) (lgsOf l rs).length (sqEs l rs X))) := by
  have HO := Lib.hid (rord39_any v vr xv X l rs w hA hx hlx)
  unfold LPost at HO
  by_cases hc : sqC l rs X = 0
  · have hn14 := hA.h14 (sqC_zero hc).1
    have HEN := Lib.hid (edN_ends (lgsOf l rs) (szsOf l rs) X (lgsOf l rs).length)
    have HEL := Lib.hid (edN_len (lgsOf l rs) (szsOf l rs) X (lgsOf l rs).length)
    have HE := Lib.hid (fun W (hW : Below w.heap.size w W) => redg39 (hA.below hW) (hx.below hW) hc)
    have hem : (edgL (lgsOf l rs) (szsOf l rs) X (lgsOf l rs).length (lgsOf l rs).length).length = (edN (lgsOf l rs) (szsOf l rs) X (lgsOf l rs).length).length := by rw [← edN_cst, cst_len]
    rw [hem] at HE
    rw [hc] at HO ⊢
    unfold sqEs at *
    generalize edN (lgsOf l rs) (szsOf l rs) X (lgsOf l rs).length = es at *
    generalize (lgsOf l rs).length = n at *
    have he196 : es.length ≤ 196 := Nat.le_trans HEL.out (Nat.mul_le_mul hn14 hn14)
    clear hA hx hc HEL hem
    cases ho : orderOf n es with
    | none =>
      have HR : Hid (sqLay 0 n es = (23, [])) := by unfold Hid sqLay; rw [if_pos rfl, ho]
      have HR2 : Hid (sqOrd 0 n es = (23, [])) := by unfold Hid sqOrd; rw [if_pos rfl, ho]
      rw [HR.out]
      rw [HR2.out] at HO
      clear ho HR HR2 HE
      go_enter Tryz.func23, Tryz.ntmps23
      go_wp2_with fail
      refine HO.out.mono ?_
      rintro e w1 ⟨o, rfl, ho, hb1⟩
      have HB1 := Lib.hid hb1
      obtain ⟨oo, oc, rfl⟩ := ho.shape
      clear hb1 ho HO
      go_wp2
      go_ret2
      exact ⟨_, rfl, Own.nil _ _ _ _, HB1.out⟩
    | some D =>
      have HR : Hid (sqLay 0 n es = (0, layT n es D D.length)) := by unfold Hid sqLay; rw [if_pos rfl, ho]
      have HR2 : Hid (sqOrd 0 n es = (0, D)) := by unfold Hid sqOrd; rw [if_pos rfl, ho]
      rw [HR.out]
      rw [HR2.out] at HO
      obtain ⟨hDl, hO⟩ := ordTo_ok n D ho
      have HDL := Lib.hid hO.lt
      have HTL := Lib.hid (layT_len n es D)
      have HTB := Lib.hid (layT_bd (n := n) (es := es) (D := D))
      clear ho HR HR2 hO
      by_cases hz : D.length = 0
      · have hz1 : ((D.length : Int) == 0) = true := beq_yes (by omega)
        have hT0 : layT n es D D.length = [] := List.eq_nil_of_length_eq_zero (by rw [HTL.out]; omega)
        rw [hT0]
        have HDN : Hid (D = []) := List.eq_nil_of_length_eq_zero hz
        rw [HDN.out] at HO
        clear hT0 HTL HTB HE HDL HDN hDl hz hz1
        go_enter Tryz.func23, Tryz.ntmps23
        go_wp2_with fail
        refine HO.out.mono ?_
        rintro e w1 ⟨o, rfl, ho, hb1⟩
        have HB1 := Lib.hid hb1
        obtain ⟨oo, oc, rfl⟩ := ho.shape
        clear hb1 ho HO
        go_wp2
        go_ret2
        exact ⟨_, rfl, Own.nil _ _ _ _, HB1.out⟩
      · have hz1 : ((D.length : Int) == 0) = false := beq_no (by omega)
        generalize hDn : D.length = dn at *
        generalize hEn : es.length = en at *
        have HDN := Lib.hid hDl
        have hdn14 : dn ≤ 14 := by omega
        clear hDl
        go_enter Tryz.func23, Tryz.ntmps23
        go_wp2_with fail
        refine HO.out.mono ?_
        rintro e w1 ⟨o, rfl, ho, hb1⟩
        have HB1 := Lib.hid hb1
        have HU1 := Lib.hid ho.sl
        obtain ⟨uo, uc, rfl⟩ := ho.shape
        rw [hDn] at HU1
        clear hb1 ho HO
        rw [hDn]
        go_wp2_with fail
        refine (HE.out _ HB1.out).mono ?_
        rintro e w3 ⟨eo, ec, rfl, hd, hb3⟩
        have HB3 := Lib.hid (bstep HB1.out hb3)
        have HU := Lib.hid (Sl.below HU1.out hb3)
        have HG2 := Lib.hid hd
        clear hb3 hd HE HB1 HU1
        have HM := Lib.hid (own_made w3 3 intf 0 (.int .i64 0) rfl dn (by omega) w3.heap.size (Nat.le_refl _))
        have hmk := fun W => run_make_one (P := Tryz.prog) 24 3 8 (.int .i64 0) Tryz.underlying24 (by kernel_rfl) (by omega) dn (by omega) W
        have HL0 : Hid (LyW w3 w3.heap.size dn (layT n es D 0) (w3.alloc (.cells (madeCells #[.int .i64 0] dn) 3))) := ⟨below_new w3 _, by rw [show layT n es D 0 = List.replicate dn 0 by rw [HDN.out]; rfl]; exact HM.out⟩
        clear HM
        go_wp2_with fail
        generalize w3.alloc (.cells (madeCells #[.int .i64 0] dn) 3) = w4 at *
        go_loopw [12] (fun i wr => ∃ k : Nat, k ≤ dn ∧ i = .int .i64 (k : Int) ∧ LyW w3 w3.heap.size dn (layT n es D k) wr) (fun i _ => dn - (intOf i).toNat)
        case atStart => exact ⟨0, Nat.zero_le _, rfl, HL0.out⟩
        case round =>
          clear HL0
          obtain ⟨k, hk, rfl, hLr⟩ := hrel
          obtain ⟨wo, rfl⟩ : ∃ wo : World, wo = wr := ⟨_, rfl⟩
          have HLo := Lib.hid hLr
          clear hLr
          by_cases hk2 : k < dn
          · obtain ⟨x, hxk⟩ : ∃ x, D[k]? = some x := ⟨_, List.getElem?_eq_getElem (by omega)⟩
            have hxn := HDL.out x (List.mem_of_getElem? hxk)
            have HXK := Lib.hid (layT_succ hxk n es)
            have HDK := Lib.hid hxk
            have hTB := Lib.hid (HTB.out k (by omega))
            have hTL := HTL.out k
            have hkb : k * en ≤ 14 * 196 := Nat.mul_le_mul (by have := HDN.out; omega) (by omega)
            generalize layT n es D k = A0 at *
            clear hxk
            go_wp2_with fail
            go_loopw [13] (fun i wr => ∃ m : Nat, m ≤ en ∧ i = .int .i64 (m : Int) ∧ LyW w3 w3.heap.size dn (layR es x A0 m) wr) (fun i _ => en - (intOf i).toNat)
            case atStart => exact ⟨0, Nat.zero_le _, rfl, HLo.out⟩
            case round =>
              clear HLo
              obtain ⟨m, hm, rfl, hLr⟩ := hrel
              have HL := Lib.hid hLr
              clear hLr
              by_cases hm2 : m < en
              · obtain ⟨ed, hed⟩ : ∃ e, es[m]? = some e := ⟨_, List.getElem?_eq_getElem (by omega)⟩
                obtain ⟨n1, n2⟩ := HEN.out m ed hed
                have HSN := Lib.hid (layR_succ hed x A0)
                have hbd := layR_bd (es := es) (v := x) hTB.out m (by omega)
                have hRl := layR_len es x A0 m
                obtain ⟨eb, eoff, he, heb, c0, c1⟩ := ((HG2.out.below HL.out.below).pairs).edge hed
                obtain ⟨ub, uoff, hu', hub, g0⟩ := nats_get (Sl.below HU.out HL.out.below) HDK.out
                have HYS := Lib.hid (fun y z (h : ed.2 = x) (hy : (layR es x A0 m)[x]? = some y) (hz : (layR es x A0 m)[ed.1]? = some z) => layS_yes (e := ed) h hy hz)
                have HNS := Lib.hid (fun (h : ¬ ed.2 = x) => layS_no (v := x) (A := layR es x A0 m) (e := ed) h)
                generalize layR es x A0 m = A at *
                obtain ⟨y, hy⟩ : ∃ y, A[x]? = some y := ⟨_, List.getElem?_eq_getElem (by omega)⟩
                obtain ⟨z, hz⟩ : ∃ z, A[ed.1]? = some z := ⟨_, List.getElem?_eq_getElem (by omega)⟩
                have hbz := hbd ed.1
                have hby := hbd x
                rw [getD_at hz] at hbz
                rw [getD_at hy] at hby
                have HYS2 := Lib.hid (fun h => HYS.out y z h hy hz)
                have HYC := Lib.hid hy
                have HZC := Lib.hid hz
                obtain ⟨e1, e2⟩ := ed
                simp only at n1 n2 c0 c1 HYS2 HNS HSN HZC
                cases he
                cases hu'
                have HCC := Lib.hid (And.intro g0 (And.intro c0 c1))
                have k0 : (0 : Int) ≤ (e1 : Int) := Int.natCast_nonneg _
                have k1 : (e1 : Int) < (dn : Int) := by have := HDN.out; omega
                have k2 : (0 : Int) ≤ (x : Int) := Int.natCast_nonneg _
                have k3 : (x : Int) < (dn : Int) := by have := HDN.out; omega
                have k4 : IntKind.i64.wrap (z + 1) = z + 1 := IntWalk.i64_in _ (by omega)
                have k5 : (0 : Int) ≤ (k : Int) := Int.natCast_nonneg _
                have k6 : (k : Int) < (dn : Int) := by omega
                have k7 : (0 : Int) ≤ (m : Int) := Int.natCast_nonneg _
                have k8 : (m : Int) < (en : Int) := by omega
                have c1 := fun d os => cell_regrown c1 d os
                have g0 := fun d os => cell_regrown g0 d os
                clear hed hbd hy hz HYS c0
                by_cases hq : e2 = x
                · rw [HYS2.out hq] at HSN
                  subst hq
                  clear HYS2 HNS
                  go_wp2_with fail
                  refine wp_region_quiet_below (by kernel_rfl) (by kernel_rfl) ?_
                  repeat (go_big_quiet_step ((first
                    | fail)))
                  refine wpQuiet_nil ?_
                  intro _ hw'
                  obtain ⟨⟨nq, osq⟩, hw''⟩ := hw'
                  subst hw''
                  have HA := Lib.hid (HL.out.after (below_regrown wr nq osq))
                  clear c1 g0 HL
                  have g0 := cell_regrown HCC.out.1 nq osq
                  have c0 := cell_regrown HCC.out.2.1 nq osq
                  generalize Go.Sort.grow (redrawn wr nq) osq = wq at *
                  have a0 := HA.out.own.cell HYC.out
                  have a1 := HA.out.own.cell HZC.out
                  have af := HA.out.own.free e2
                  unfold intf at a0 a1
                  have HST := Lib.hid (LyW.set ⟨HA.out.below.trans (Below.refl _ _).drew, HA.out.own.below (Below.refl _ _).drew⟩ e2 (max y (z + 1)) : LyW w3 w3.heap.size dn (A.set e2 (max y (z + 1))) (wq.drew.setCell ⟨w3.heap.size, e2, none⟩ (.int .i64 (max y (z + 1)))))
                  clear HA HYC HZC HCC
                  go_wp2_with fail
                  go_still_tail 23, (by kernel_rfl)
                  change wpList _ _ _ _ _ wq.drew
                  obtain ⟨W10, hW10⟩ : ∃ W10, wq.drew = W10 := ⟨_, rfl⟩
                  replace g0 : W10.cell? ⟨ub, uoff + k, none⟩ = some (.int .i64 (e2 : Int)) := by rw [← hW10]; exact g0
                  replace c0 : W10.cell? ⟨eb, eoff + m * 2, none⟩ = some (.int .i64 (e1 : Int)) := by rw [← hW10]; exact c0
                  replace a1 : W10.cell? ⟨w3.heap.size, e1, none⟩ = some (.int .i64 z) := by rw [← hW10]; exact a1
                  replace af : W10.frozen? ⟨w3.heap.size, e2, none⟩ = false := by rw [← hW10]; exact af
                  replace a0 : W10.cell? ⟨w3.heap.size, e2, none⟩ = some (.int .i64 y) := by rw [← hW10]; exact a0
                  rw [hW10] at HST
                  rw [hW10]
                  clear hW10
                  go_wp2
                  go_roundw
                  case rel => first | exact ⟨m + 1, by omega, by go_num, by rw [HSN.out]; exact HST.out⟩ | ((repeat apply Exists.intro); exact ⟨⟨m + 1, by omega, by go_num, by rw [HSN.out]; exact HST.out⟩, rfl⟩)
                  case measure => simp [intOf]; omega
                · rw [HNS.out hq] at HSN
                  have d0 : ((e2 : Int) == (x : Int)) = false := beq_no (by omega)
                  have d1 : decide ((e2 : Int) = (x : Int)) = false := dec_no (by omega)
                  have d2 : (e2 == x) = false := by simpa using hq
                  clear HYS2 HNS
                  go_wp2_with fail
                  refine wp_region_quiet_below (by kernel_rfl) (by kernel_rfl) ?_
                  repeat (go_big_quiet_step ((first
                    | fail)))
                  refine wpQuiet_nil ?_
                  intro _ hw'
                  obtain ⟨⟨nq, osq⟩, hw''⟩ := hw'
                  subst hw''
                  have HA := Lib.hid (HL.out.after (below_regrown wr nq osq))
                  clear c1 g0 HL
                  generalize Go.Sort.grow (redrawn wr nq) osq = wq at *
                  go_wp2
                  go_roundw
                  case rel => exact ⟨m + 1, by omega, by go_num, by rw [HSN.out]; exact HA.out⟩
                  case measure => simp [intOf]; omega
              · obtain rfl : m = en := by omega
                go_wp2
                go_roundw
                case rel => exact ⟨k + 1, by omega, by go_num, by rw [HXK.out, hEn]; exact HL.out⟩
                case measure => simp [intOf]; omega
          · obtain rfl : k = dn := by omega
            have hsz := HB3.out.size
            go_wp2
            go_ret2
            exact ⟨_, rfl, HLo.out.own.mono hsz, bstep HB3.out HLo.out.below⟩
  · have HR : Hid (sqLay (sqC l rs X) (lgsOf l rs).length (sqEs l rs X) = (sqC l rs X, [])) := if_neg hc
    have HR2 : Hid (sqOrd (sqC l rs X) (lgsOf l rs).length (sqEs l rs X) = (sqC l rs X, [])) := if_neg hc
    rw [HR2.out] at HO
    generalize sqLay (sqC l rs X) (lgsOf l rs).length (sqEs l rs X) = R at *
    generalize sqC l rs X = c at *
    have hb : (c != 0) = true := bne_yes hc
    clear hA hx hc HR2
    go_enter Tryz.func23, Tryz.ntmps23
    go_wp2_with fail
    refine HO.out.mono ?_
    rintro e w1 ⟨o, rfl, ho, hb1⟩
    have HB1 := Lib.hid hb1
    obtain ⟨oo, oc, rfl⟩ := ho.shape
    clear hb1 ho HO
    go_wp2
    go_ret2
    exact lpostI_nil HR.out HB1.out
end
end Go.Proofs.YthmlejijfgbfbaaGreat
