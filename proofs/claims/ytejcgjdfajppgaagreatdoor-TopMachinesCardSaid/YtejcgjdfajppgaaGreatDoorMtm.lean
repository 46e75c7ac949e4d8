/-
  The walk of TopMachines.
-/
import Derived.Test.YtejcgjdfajppgaaGreatDoorMve
import Derived.Test.YtejcgjdfajppgaaGreatDoorTya
import Derived.Test.YtejcgjdfajppgaaGreatDoorLaw
namespace Go.Proofs.YtejcgjdfajppgaaGreatDoor
section
open Go.RowKit
set_option linter.unusedVariables false
set_option linter.unusedSimpArgs false
attribute [local go_sem ↓] Go.wp_at_zero Go.wp_at_succ

theorem own_len_cap {α : Type} {w : World} {base : Nat} {e : TypeId} {f : α → Value} {ao : Option Addr} {n c : Nat} {l : List α} (h : Own w base e f (.slice ao n c) l) : l.length ≤ c := by
  rcases h.2 with ⟨h1, h2⟩ | ⟨g, cap, cur, h1, _, _, h3, _⟩
  · rw [h2]; exact Nat.zero_le _
  · cases h1; exact h3
def alS (c b : Nat → Int) (o : List Nat) (j : Nat) : Int := sumL c (o.take j) + sumL b (o.take j)
theorem alS_succ {c b : Nat → Int} {o : List Nat} {j i : Nat} (h : o[j]? = some i) : alS c b o (j + 1) = alS c b o j + (c i + b i) := by
  unfold alS
  rw [take_snoc h, sumL_append, sumL_append, sumL_cons, sumL_cons, sumL_nil, sumL_nil]
  omega
theorem alS_bd {l : List WkD} (h : TmIn l) (o : List Nat) : ∀ j, j ≤ o.length → 0 ≤ alS (cutF l) (bendF l) o j ∧ alS (cutF l) (bendF l) o j ≤ j * 20000
  | 0, _ => by unfold alS; rw [List.take_zero, sumL_nil, sumL_nil]; simp
  | j + 1, hj => by
    have ih := alS_bd h o j (by omega)
    have hi : o[j]? = some o[j] := List.getElem?_eq_getElem (by omega)
    have ht := tm_in h o[j]
    rw [alS_succ hi]
    omega
/-- The jobs, Johnson's order, and its starts. -/
structure TmW (w : World) (ao zo : Option Addr) (cap zc G1 G2 : Nat) (l : List WkD) (o : List Nat) (A B : List Int) (base : Nat) (wr : World) : Prop where
  bl : Below w.heap.size w wr
  jobs : Jobs wr ao cap l
  ord : Own wr base 3 intv (.slice zo o.length zc) (ntI o)
  ca : Own wr base 3 intv (.slice (some ⟨G1, 0, none⟩) l.length l.length) A
  cb : Own wr base 3 intv (.slice (some ⟨G2, 0, none⟩) l.length l.length) B
theorem TmW.below {w wr w1 : World} {ao zo : Option Addr} {cap zc G1 G2 base : Nat} {l : List WkD} {o : List Nat} {A B : List Int} (h : TmW w ao zo cap zc G1 G2 l o A B base wr) (hb : Below wr.heap.size wr w1) : TmW w ao zo cap zc G1 G2 l o A B base w1 :=
  ⟨bstep h.bl hb, h.jobs.below hb, h.ord.below hb, h.ca.below hb, h.cb.below hb⟩
set_option maxHeartbeats 4000000 in
set_option maxRecDepth 100000 in
theorem topMachines_walk (w : World) (ao zo : Option Addr) (cap zc : Nat) (l : List WkD) (Z : List Int) (hp : Wks w (.slice ao l.length cap) l) (hf : FitW l) (hcap : l.length ≤ cap) (hz : Ints w (.slice zo Z.length zc) Z) (hzc : Z.length ≤ zc) (hb1 : l.length * 32 ≤ 140737488351232) (hb2 : Z.length * 8 ≤ 140737488351232) :
    Calls Tryz.prog 3 #[.slice ao l.length cap, .slice zo Z.length zc] w fun e w' => e = .returned (.bool true) ∧ Below w.heap.size w w' := by
  have HP := Lib.hid hp
  have HF := Lib.hid hf
  have HZ := Lib.hid hz
  have HA := Lib.hid (yardAwake_any w)
  clear hp hf hz
  go_enter Tryz.func3, Tryz.ntmps3
  go_wp2_with fail
  refine HA.out.mono ?_
  rintro e w1 ⟨rfl, hb1⟩
  have HB1 := Lib.hid hb1
  clear hb1 HA
  by_cases hl : 12 < l.length
  · have e1 : decide ((l.length : Int) > 12) = true := by simp; omega
    go_wp2
    go_ret
    exact ⟨rfl, HB1.out⟩
  have e1 : decide ((l.length : Int) > 12) = false := by simp; omega
  by_cases hzl : 30 < Z.length
  · have e2 : decide ((Z.length : Int) > 30) = true := by simp; omega
    go_wp2
    go_ret
    exact ⟨rfl, HB1.out⟩
  have e2 : decide ((Z.length : Int) > 30) = false := by simp; omega
  have HC := Lib.hid (anyWks_any 6 #[] (fun x => decide ((x.mark.size : Int) > 60)) _ l w1 (HP.out.below HB1.out) (by omega) ⟨fun xs W => by go_simp, fun x W hW => wlong_any x W⟩)
  obtain ⟨q, hq⟩ : ∃ q, (l.any fun x => decide ((x.mark.size : Int) > 60)) = q := ⟨_, rfl⟩
  rw [hq] at HC
  clear hq
  go_wp2_with fail
  refine HC.out.mono ?_
  rintro e w2 ⟨rfl, hb2⟩
  have HB2 := Lib.hid (bstep HB1.out hb2)
  clear hb2 HC HB1 e1 e2
  cases q
  · by_cases hok : wksOk l = true
    · have HJB : Hid (Jobs w2 ao cap l) := Lib.hid ⟨HP.out.below HB2.out, by omega, HF.out, hcap, hok⟩
      have HJ := Lib.hid (mjohnson_any ao cap l w2 HJB.out)
      clear hok
      go_wp2_with fail
      refine HJ.out.mono ?_
      rintro e w3 ⟨bo, bc, o, rfl, hb3, hown, hpm, hbest⟩
      have HB3 := Lib.hid (bstep HB2.out hb3)
      have HJ3 := Lib.hid (HJB.out.below hb3)
      have HPM := Lib.hid hpm
      have HBE := Lib.hid hbest
      have HO3 := Lib.hid hown
      have hol : o.length = l.length := by rw [hpm.length_eq, List.length_range]
      have HOL := Lib.hid hol
      have HBD := Lib.hid (mbound_any ao cap l w3 HJ3.out)
      clear hb3 hown hpm hbest HJ hol
      generalize hbv : (if l.length = 0 then (0 : Int) else bndV (cutF l) (bendF l) l.length) = bv at HBD
      have HBV : Hid (bv ≤ lenJ (cutF l) (bendF l) o) := Lib.hid (by
        rw [← hbv]
        have ht := tm_in (wks_tm HJ3.out.ok)
        split
        · have := runS_snd (cutF l) (bendF l) o (0, 0)
          have h2 := sumL_nn (fun i => (ht i).2.2.1) o
          unfold lenJ
          simp only at this
          omega
        · exact bnd_le (fun i => (ht i).1) (fun i => (ht i).2.2.1) HPM.out (by omega))
      clear hbv
      go_wp2_with fail
      refine HBD.out.mono ?_
      rintro e w4 ⟨rfl, hb4⟩
      have HB4 := Lib.hid (bstep HB3.out hb4)
      have HJ4 := Lib.hid (HJ3.out.below hb4)
      have HO4 := Lib.hid (HO3.out.below hb4)
      have HOA := Lib.hid (show OrdA w4 bo bc (ntI o) from ⟨by have := Own.sl HO4.out; rw [← ntI_len o] at this; exact this, by rw [ntI_len, HOL.out]; omega, own_len_cap HO4.out⟩)
      have HSH := Lib.hid (vshop_any HJ4.out HOA.out HPM.out HBE.out)
      clear hb4 HBD HB3 HJ3 HO3
      go_wp2_with fail
      refine HSH.out.mono ?_
      rintro e w5 ⟨rfl, hb5⟩
      have HB5 := Lib.hid (bstep HB4.out hb5)
      have HJ5 := Lib.hid (HJ4.out.below hb5)
      have HO5 := Lib.hid (HO4.out.below hb5)
      have HOA5 := Lib.hid (HOA.out.below hb5)
      have HST := Lib.hid (mstarts_any ao bo cap bc l o w5 HJ5.out HOA5.out HPM.out)
      clear hb5 HSH HB4 HJ4 HO4 HOA
      go_wp2_with fail
      refine HST.out.mono ?_
      rintro e w6 ⟨G1, G2, A, B, rfl, hb6, hA, hB, hr⟩
      have HTW : Hid (TmW w ao bo cap bc G1 G2 l o A B 0 w6) := Lib.hid ⟨bstep HB5.out hb6, HJ5.out.below hb6, (HO5.out.below hb6).mono (Nat.zero_le _), hA.mono (Nat.zero_le _), hB.mono (Nat.zero_le _)⟩
      have HRI := Lib.hid hr
      have HTM := Lib.hid (wks_tm HJ5.out.ok)
      have HLB := Lib.hid (st_len (cutF l) (bendF l) o)
      have hnb : ¬ lenJ (cutF l) (bendF l) o < bv := by have := HBV.out; omega
      have HLA : Hid (lenJ (cutF l) (bendF l) o ≤ alS (cutF l) (bendF l) o l.length) := Lib.hid (by
        have ht := tm_in HTM.out
        have := len_le (o := o) (fun i => (ht i).1) (fun i => (ht i).2.2.1)
        unfold alS
        rw [← HOL.out, List.take_length]
        exact this)
      have HBST : Hid (∀ o2 : List Nat, o2.Perm (List.range l.length) → lenJ (cutF l) (bendF l) o ≤ lenJ (cutF l) (bendF l) o2) := Lib.hid (fun o2 h2 => johnson_best HBE.out (HPM.out.nodup_iff.2 List.nodup_range) (h2.trans HPM.out.symm))
      rw [HOL.out] at HLB ⊢
      clear hb6 hA hB hr HST HB5 HJ5 HO5 HOA5 HBV
      generalize lenJ (cutF l) (bendF l) o = L at *
      go_wp2_with fail
      go_loopw [15, 16, 17, 113] (fun s15 s16 s17 i wr => ∃ j : Nat, j ≤ l.length ∧ i = .int .i64 (j : Int) ∧ s15 = .int .i64 (alS (cutF l) (bendF l) o j) ∧ s16 = .int .i64 (stC (cutF l) (bendF l) o j) ∧ s17 = .int .i64 (stB (cutF l) (bendF l) o j) ∧ Hid (TmW w ao bo cap bc G1 G2 l o A B 0 wr)) (fun _ _ _ i _ => l.length - (intOf i).toNat)
      case atStart => exact ⟨0, Nat.zero_le _, rfl, by unfold alS; rw [List.take_zero, sumL_nil, sumL_nil]; rfl, rfl, rfl, HTW⟩
      case round =>
        clear HTW hnb
        obtain ⟨j, hj, rfl, rfl, rfl, rfl, HR⟩ := hrel
        by_cases hj2 : j < l.length
        · obtain ⟨i, hi⟩ : ∃ i, o[j]? = some i := ⟨_, List.getElem?_eq_getElem (by rw [HOL.out]; exact hj2)⟩
          have hin : i < l.length := List.mem_range.1 (HPM.out.mem_iff.1 (List.mem_of_getElem? hi))
          obtain ⟨x, hx⟩ : ∃ x, l[i]? = some x := ⟨_, List.getElem?_eq_getElem hin⟩
          have hbd := st_bd HTM.out o j (by rw [HOL.out]; omega)
          have hab := alS_bd HTM.out o j (by rw [HOL.out]; omega)
          have htm := tm_in HTM.out i
          have hri := HRI.out.is j i (by rw [HOL.out]; exact hj2) hi
          have HS := Lib.hid (And.intro (alS_succ (c := cutF l) (b := bendF l) hi) (st_succ (c := cutF l) (b := bendF l) hi))
          have hoi : (ntI o)[j]? = some (i : Int) := by unfold ntI; rw [List.getElem?_map, hi]; rfl
          have hord : Ints wr (.slice bo l.length bc) (ntI o) := by have := Own.sl HR.out.ord; rw [HOL.out] at this; exact this
          obtain ⟨qb, qo, rfl, hql, o0⟩ := zints_get hord hoi
          obtain ⟨b, off, rfl, hbl, d0, d1, d2⟩ := wks_get HR.out.jobs.at_ hx
          rw [← cutF_at hx] at d1
          rw [← bendF_at hx] at d2
          have HRA := Lib.hid hri.1
          have HRB := Lib.hid hri.2
          have HXX : Hid (∃ y, l[i]? = some y ∧ y.cut = cutF l i ∧ y.bend = bendF l i) := Lib.hid ⟨x, hx, (cutF_at hx).symm, (bendF_at hx).symm⟩
          have cA := HR.out.ca.cell hri.1
          have cB := HR.out.cb.cell hri.2
          unfold intv at cA cB
          have lA := (HR.out.ca.lt G1 rfl).2
          have lB := (HR.out.cb.lt G2 rfl).2
          have j0 : (0 : Int) ≤ (j : Int) := Int.natCast_nonneg _
          have j1 : (j : Int) < (l.length : Int) := by omega
          have i0 : (0 : Int) ≤ (i : Int) := Int.natCast_nonneg _
          have i1 : (i : Int) < (l.length : Int) := by omega
          clear hi hx hoi hord hri d0
          generalize stC (cutF l) (bendF l) o j = sc at *
          generalize stB (cutF l) (bendF l) o j = sb at *
          generalize alS (cutF l) (bendF l) o j = al at *
          generalize cutF l i = ci at *
          generalize bendF l i = bi at *
          have e1 : decide ((i : Int) < 0) = false := decide_eq_false (by omega)
          have e2 : decide ((i : Int) ≥ (l.length : Int)) = false := decide_eq_false (by omega)
          have e2a : decide ((l.length : Int) ≤ (i : Int)) = false := decide_eq_false (by omega)
          have e2b : decide (l.length ≤ i) = false := decide_eq_false (by omega)
          have e3 : decide (sc < sc) = false := decide_eq_false (by omega)
          have e4 : decide (max (sc + ci) sb < sb) = false := decide_eq_false (by omega)
          have e5 : decide (max (sc + ci) sb < sc + ci) = false := decide_eq_false (by omega)
          have hw1 : IntKind.i64.wrap (sc + ci) = sc + ci := IntWalk.i64_in _ (by omega)
          have hw2 : IntKind.i64.wrap (max (sc + ci) sb + bi) = max (sc + ci) sb + bi := IntWalk.i64_in _ (by omega)
          have hw3 : IntKind.i64.wrap (ci + bi) = ci + bi := IntWalk.i64_in _ (by omega)
          have hw4 : IntKind.i64.wrap (al + (ci + bi)) = al + (ci + bi) := IntWalk.i64_in _ (by omega)
          have y0 := fun dd os => cell_regrown cA dd os
          have y1 := fun dd os => cell_regrown cB dd os
          have y2 := fun dd os => cell_regrown d1 dd os
          have y3 := fun dd os => cell_regrown d2 dd os
          go_wp2_with fail
          clear o0 cA cB d1 d2
          refine wp_region_quiet_below (by kernel_rfl) (by kernel_rfl) ?_
          repeat (go_big_quiet_step ((first
            | fail)))
          refine wpQuiet_nil ?_
          intro _ hw'
          obtain ⟨⟨nq, osq⟩, hw''⟩ := hw'
          subst hw''
          have H7 := Lib.hid (HR.out.below (below_regrown wr nq osq))
          clear y0 y1 y2 y3
          generalize Go.Sort.grow (redrawn wr nq) osq = w7 at *
          have cA := H7.out.ca.cell HRA.out
          have cB := H7.out.cb.cell HRB.out
          unfold intv at cA cB
          have lA := (H7.out.ca.lt G1 rfl).2
          have lB := (H7.out.cb.lt G2 rfl).2
          obtain ⟨x7, hx7, ec7, eb7⟩ := HXX.out
          obtain ⟨_, _, hgo, hbl, _, d1, d2⟩ := wks_get H7.out.jobs.at_ hx7
          cases hgo
          rw [ec7] at d1
          rw [eb7] at d2
          clear hx7 ec7 eb7
          have y0 := fun dd os => cell_regrown cA dd os
          have y1 := fun dd os => cell_regrown cB dd os
          have y2 := fun dd os => cell_regrown d1 dd os
          have y3 := fun dd os => cell_regrown d2 dd os
          go_wp2_with fail
          clear cA cB d1 d2
          refine wp_region_quiet_below (by kernel_rfl) (by kernel_rfl) ?_
          repeat (go_big_quiet_step ((first
            | fail)))
          refine wpQuiet_nil ?_
          intro _ hw'
          obtain ⟨⟨nq, osq⟩, hw''⟩ := hw'
          subst hw''
          have H8 := Lib.hid (H7.out.below (below_regrown w7 nq osq))
          clear y0 y1 y2 y3
          generalize Go.Sort.grow (redrawn w7 nq) osq = w8 at *
          have cA := H8.out.ca.cell HRA.out
          have cB := H8.out.cb.cell HRB.out
          unfold intv at cA cB
          have lA := (H8.out.ca.lt G1 rfl).2
          have lB := (H8.out.cb.lt G2 rfl).2
          obtain ⟨x8, hx8, ec8, eb8⟩ := HXX.out
          obtain ⟨_, _, hgo, hbl, _, d1, d2⟩ := wks_get H8.out.jobs.at_ hx8
          cases hgo
          rw [ec8] at d1
          rw [eb8] at d2
          clear hx8 ec8 eb8
          have y0 := fun dd os => cell_regrown cA dd os
          have y1 := fun dd os => cell_regrown cB dd os
          have y2 := fun dd os => cell_regrown d1 dd os
          have y3 := fun dd os => cell_regrown d2 dd os
          go_wp2_with fail
          clear cA cB d1 d2
          refine wp_region_quiet_below (by kernel_rfl) (by kernel_rfl) ?_
          repeat (go_big_quiet_step ((first
            | fail)))
          refine wpQuiet_nil ?_
          intro _ hw'
          obtain ⟨⟨nq, osq⟩, hw''⟩ := hw'
          subst hw''
          have H9 := Lib.hid (H8.out.below (below_regrown w8 nq osq))
          clear y0 y1 y2 y3
          generalize Go.Sort.grow (redrawn w8 nq) osq = w9 at *
          go_wp2
          go_roundw
          case rel => exact ⟨j + 1, by omega, by go_num, congrArg (Value.int .i64) HS.out.1.symm, congrArg (Value.int .i64) HS.out.2.1.symm, congrArg (Value.int .i64) HS.out.2.2.symm, H9⟩
          case measure => simp [intOf]; omega
        · obtain rfl : j = l.length := by omega
          simp only [HLB.out]
          have HLN := Lib.hid (mlength_any ao zo cap zc l Z wr HR.out.jobs ⟨Sl.below HZ.out HR.out.bl, by omega, hzc⟩)
          have hla : ¬ L > alS (cutF l) (bendF l) o l.length := by have := HLA.out; omega
          generalize alS (cutF l) (bendF l) o l.length = al at *
          generalize stC (cutF l) (bendF l) o l.length = sc at *
          go_wp2_with fail
          refine HLN.out.mono ?_
          rintro e w7 ⟨⟨n2, er, rfl, hiff, hn2⟩, hb7⟩
          have HB7 := Lib.hid (bstep HR.out.bl hb7)
          have HI := Lib.hid hiff
          have HN2 := Lib.hid hn2
          clear hb7 HLN hiff hn2
          by_cases h0 : er = 0
          · obtain ⟨o2, hZ2, hp2⟩ := HI.out.1 h0
            have hge : n2 ≥ L := by rw [HN2.out o2 hZ2 hp2]; exact HBST.out o2 hp2
            subst h0
            clear hZ2 hp2
            go_wp2
            go_ret
            exact ⟨rfl, HB7.out⟩
          · go_wp2
            go_ret
            exact ⟨rfl, HB7.out⟩
    · have hno : wksOk l = false := by cases h : wksOk l with
        | true => exact absurd h hok
        | false => rfl
      have HJ := Lib.hid (mjohnson_bad ao cap l w2 (HP.out.below HB2.out) (by omega) HF.out hcap hno)
      have HNO := Lib.hid hno
      clear hok hno
      go_wp2_with fail
      refine HJ.out.mono ?_
      rintro e w3 ⟨rfl, hb3⟩
      have HB3 := Lib.hid (bstep HB2.out hb3)
      have HV := Lib.hid (mvalid_any ao cap l w3 (HP.out.below HB3.out) (by omega) HF.out hcap)
      rw [HNO.out] at HV
      clear hb3 HJ
      go_wp2_with fail
      refine HV.out.mono ?_
      rintro e w4 ⟨rfl, hb4⟩
      have HB4 := Lib.hid (bstep HB3.out hb4)
      clear hb4 HV
      go_wp2
      go_ret
      exact ⟨rfl, HB4.out⟩
  · go_wp2
    go_ret
    exact ⟨rfl, HB2.out⟩
end
end Go.Proofs.YtejcgjdfajppgaaGreatDoor
