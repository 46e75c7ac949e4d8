/-
  The walk of BlockKeeps.
-/
import Derived.Test.YtnlloecbjohfdaaBkK
namespace Go.Proofs.Ytnlloecbjohfdaa
open Go.RowKit
set_option linter.unusedVariables false
set_option linter.unusedSimpArgs false
attribute [local go_sem ↓] Go.wp_at_zero Go.wp_at_succ

set_option maxRecDepth 100000 in
set_option maxHeartbeats 16000000 in
theorem blockKeeps_walk (w : World) (v : Value) (l : List BarD) (hp : Bars w v l) (hf : FitB l) (hl : l.length * 64 ≤ 140737488351232) (vr : Value) (rs : List RunD) (hr : Runs w vr rs) (hm : ∀ r ∈ rs, r.mark.size ≤ maxLen) (hlr : rs.length * 88 ≤ 140737488351232)
    (i : Int) (wi : (Lit.int .i64 i).wf = true) (k : Int) (wk : (Lit.int .i64 k).wf = true) (x : Int) (wx : (Lit.int .i64 x).wf = true) (by_ : Int) (wb : (Lit.int .u32 by_).wf = true) :
    Calls Try.prog 4 #[v, vr, .int .i64 i, .int .i64 k, .int .i64 x, .int .u32 by_] w fun e w' => e = .returned (.bool true) ∧ Below w.heap.size w w' := by
  have hl2 : l.length ≤ 140737488355328 := by omega
  have hlr2 : rs.length ≤ 140737488355328 := by omega
  have HFW := Lib.hid (fun W (hW : Below w.heap.size w W) => few_any v vr l rs W (hp.below hW) (hr.below hW) hl2 hlr2)
  obtain ⟨ao, ac, rfl⟩ := hp.at_
  obtain ⟨ro, rc, rfl⟩ := hr.at_
  obtain ⟨y0, y1⟩ := Go.bounds_u32 wb
  have HP := Lib.hid hp
  have HR := Lib.hid hr
  have HFI := Lib.hid hf
  clear hp hr hf hl hlr hm wi wk wx wb
  obtain ⟨is, c, HBL0, HPC⟩ : ∃ (is : Bool) (c : Int), Hid (∀ W (hW : Below w.heap.size w W), Calls Try.prog 12 #[.slice ao l.length ac, .slice ro rs.length rc, .int .i64 i, .int .i64 k, .int .i64 x] W fun e w' => e = .returned (.tuple #[.bool is, .int .i64 c]) ∧ Below W.heap.size W w') ∧
      Hid ((c ≠ 0 → is = false) ∧ (c = 0 → laidOk l rs = true ∧ pairE (lgsOf l rs).length i k x = 0 ∧ blkAt (lgsOf l rs) (szsOf l rs) x i.toNat k.toNat = is)) := by
    cases hok : laidOk l rs with
    | false => exact ⟨false, 1, fun W hW => blocksI_bad _ _ i k x l rs W (HP.out.below hW) (HR.out.below hW) hl2 hlr2 HFI.out hok, fun _ => rfl, fun h => by omega⟩
    | true =>
      refine ⟨blkR (lgsOf l rs) (szsOf l rs) i k x, pairE (lgsOf l rs).length i k x, fun W hW => blocksI_good _ _ i k x l rs W (HP.out.below hW) (HR.out.below hW) hl2 hlr2 HFI.out hok, fun h => ?_, fun h => ⟨rfl, h, ?_⟩⟩
      · unfold blkR; rw [dec_no h]; rfl
      · unfold blkR; rw [dec_yes h]; rfl
  go_enter Try.func4, Try.ntmps4
  go_wp2_with fail
  refine (bawake_any _).mono ?_
  rintro e w1 ⟨rfl, hb1⟩
  have HW1 := Lib.hid hb1
  clear hb1
  go_wp2_with fail
  refine (HFW.out _ HW1.out).mono ?_
  rintro e w2 ⟨q, rfl, hb2, hq⟩
  have HW2 := Lib.hid (bstep HW1.out hb2)
  clear hb2 hq HFW
  cases q
  · go_wp2
    go_ret
    exact ⟨rfl, HW2.out⟩
  · go_wp2_with fail
    refine (HBL0.out _ HW2.out).mono ?_
    rintro e w3 ⟨rfl, hb3⟩
    have HW3 := Lib.hid (bstep HW2.out hb3)
    clear hb3 HBL0
    by_cases hc : c = 0
    · subst hc
      obtain ⟨hok, hpe, hblk⟩ := HPC.out.2 rfl
      obtain ⟨⟨i0, i1⟩, ⟨k0, k1⟩, hx, hne⟩ := pairE_zero hpe
      obtain ⟨i, rfl⟩ : ∃ n : Nat, i = (n : Int) := ⟨i.toNat, by omega⟩
      obtain ⟨k, rfl⟩ : ∃ n : Nat, k = (n : Int) := ⟨k.toNat, by omega⟩
      rw [Int.toNat_natCast, Int.toNat_natCast] at hblk
      have hz := lzOk_of hok
      have hin : i < (lgsOf l rs).length := by omega
      have hkn : k < (lgsOf l rs).length := by omega
      obtain ⟨i2, i3, i4⟩ := hz.legs i hin
      obtain ⟨k2, k3, k4⟩ := hz.legs k hkn
      have HL := Lib.hid (fun (n : Nat) (hn : n < (lgsOf l rs).length) W (hW : Below w.heap.size w W) => legsI_good (.slice ao l.length ac) (.slice ro rs.length rc) l rs n W (HP.out.below hW) (HR.out.below hW) hl2 hlr2 HFI.out hok hn)
      have HNE := Lib.hid (fun (a b : Bx) (ha : bxOk a = true) (hb : bxOk b = true) W (hW : Below w.heap.size w W) => bnear_any (.slice ao l.length ac) (.slice ro rs.length rc) l rs i k a b W (HP.out.below hW) (HR.out.below hW) hl2 hok hin hkn ha hb)
      have HBK : Hid (blkP ((lgsOf l rs).getD i []) ((lgsOf l rs).getD k []) x (((szsOf l rs).getD i 0 + (szsOf l rs).getD k 0) * ((szsOf l rs).getD i 0 + (szsOf l rs).getD k 0)) = is) := hblk
      have HAL := Lib.hid i4
      have HBL := Lib.hid k4
      have HIN := Lib.hid (And.intro hin hkn)
      have HXA := Lib.hid hx
      clear hok hpe hblk hz i4 k4 hin hkn hne HPC hx
      generalize ((szsOf l rs).getD i 0 + (szsOf l rs).getD k 0) * ((szsOf l rs).getD i 0 + (szsOf l rs).getD k 0) = need at *
      have HL1 := Lib.hid (fun W hW => HL.out i HIN.out.1 W hW)
      have HL2 := Lib.hid (fun W hW => HL.out k HIN.out.2 W hW)
      clear HL HIN
      generalize (lgsOf l rs).getD i [] = A at *
      generalize (lgsOf l rs).getD k [] = C at *
      generalize lgsOf l rs = L at *
      obtain ⟨n, hn⟩ : ∃ n, by_ % 2097152 = n := ⟨_, rfl⟩
      have n0 : 0 ≤ n := by omega
      have n1 : n ≤ 2097152 := by omega
      go_wp2_with fail
      refine (HL1.out _ HW3.out).mono ?_
      rintro e w4 ⟨o4, rfl, ho4, hb4⟩
      obtain ⟨a4, n4, rfl⟩ := OwnN.shape ho4
      have HW4 := Lib.hid (bstep HW3.out hb4)
      have HI4 := Lib.hid (OwnN.fl bx_len ho4)
      clear hb4 ho4 HL1
      go_wp2_with fail
      refine (HL2.out _ HW4.out).mono ?_
      rintro e w5 ⟨o5, rfl, ho5, hb5⟩
      obtain ⟨a5, n5, rfl⟩ := OwnN.shape ho5
      have HW5 := Lib.hid (bstep HW4.out hb5)
      have HI5 := Lib.hid (HI4.out.below hb5)
      have HK5 := Lib.hid (OwnN.fl bx_len ho5)
      clear hb5 ho5 HL2 HI4
      have hmm := @run_makeMap Try.prog
      have HM0 : Hid ((w5.alloc (.map #[] 0)).heap[w5.heap.size]? = some (.map #[] 0)) := heap_alloc_new w5 _
      have HB0 : Hid (Below w5.heap.size w5 (w5.alloc (.map #[] 0))) := below_new w5 _
      have HBZ : Hid (w5.heap.size ≤ w5.heap.size) := Nat.le_refl _
      go_wp2_with fail
      refine (at_any _ _ _ _).mono ?_
      rintro e wa0 ⟨rfl, hba0⟩
      have HMa0 : Hid (wa0.heap[w5.heap.size]? = some (.map #[] 0)) := (hba0.block _ (Array.getElem?_eq_some_iff.1 HM0.out).1).trans HM0.out
      have HBa0 := Lib.hid (bstep HB0.out hba0)
      obtain ⟨wb0, hins, hm, hg⟩ := ins_step wa0 w5.heap.size _ _ 1 (ptv ⟨-n, 0, 0⟩) HMa0.out rfl
      have HMb0 : Hid (wb0.heap[w5.heap.size]? = some (.map #[⟨.int .i64 1, ptv ⟨-n, 0, 0⟩, 0⟩] 1)) := hm
      have HBb0 := Lib.hid (HBa0.out.grown hg HBa0.out.size (fun i hi => by cases hi; exact HBZ.out))
      clear hba0 hm hg HMa0 HBa0 HM0 HB0
      go_wp2_with fail
      refine (at_any _ _ _ _).mono ?_
      rintro e wa1 ⟨rfl, hba1⟩
      have HMa1 : Hid (wa1.heap[w5.heap.size]? = some (.map #[⟨.int .i64 1, ptv ⟨-n, 0, 0⟩, 0⟩] 1)) := (hba1.block _ (Array.getElem?_eq_some_iff.1 HMb0.out).1).trans HMb0.out
      have HBa1 := Lib.hid (bstep HBb0.out hba1)
      obtain ⟨wb1, hins, hm, hg⟩ := ins_step wa1 w5.heap.size _ _ 2 (ptv ⟨0, -n, 0⟩) HMa1.out rfl
      have HMb1 : Hid (wb1.heap[w5.heap.size]? = some (.map #[⟨.int .i64 1, ptv ⟨-n, 0, 0⟩, 0⟩, ⟨.int .i64 2, ptv ⟨0, -n, 0⟩, 1⟩] 2)) := hm
      have HBb1 := Lib.hid (HBa1.out.grown hg HBa1.out.size (fun i hi => by cases hi; exact HBZ.out))
      clear hba1 hm hg HMa1 HBa1 HMb0 HBb0
      go_wp2_with fail
      refine (at_any _ _ _ _).mono ?_
      rintro e wa2 ⟨rfl, hba2⟩
      have HMa2 : Hid (wa2.heap[w5.heap.size]? = some (.map #[⟨.int .i64 1, ptv ⟨-n, 0, 0⟩, 0⟩, ⟨.int .i64 2, ptv ⟨0, -n, 0⟩, 1⟩] 2)) := (hba2.block _ (Array.getElem?_eq_some_iff.1 HMb1.out).1).trans HMb1.out
      have HBa2 := Lib.hid (bstep HBb1.out hba2)
      obtain ⟨wb2, hins, hm, hg⟩ := ins_step wa2 w5.heap.size _ _ 3 (ptv ⟨0, 0, -n⟩) HMa2.out rfl
      have HMb2 : Hid (wb2.heap[w5.heap.size]? = some (.map #[⟨.int .i64 1, ptv ⟨-n, 0, 0⟩, 0⟩, ⟨.int .i64 2, ptv ⟨0, -n, 0⟩, 1⟩, ⟨.int .i64 3, ptv ⟨0, 0, -n⟩, 2⟩] 3)) := hm
      have HBb2 := Lib.hid (HBa2.out.grown hg HBa2.out.size (fun i hi => by cases hi; exact HBZ.out))
      clear hba2 hm hg HMa2 HBa2 HMb1 HBb1
      go_wp2_with fail
      refine (at_any _ _ _ _).mono ?_
      rintro e wa3 ⟨rfl, hba3⟩
      have HMa3 : Hid (wa3.heap[w5.heap.size]? = some (.map #[⟨.int .i64 1, ptv ⟨-n, 0, 0⟩, 0⟩, ⟨.int .i64 2, ptv ⟨0, -n, 0⟩, 1⟩, ⟨.int .i64 3, ptv ⟨0, 0, -n⟩, 2⟩] 3)) := (hba3.block _ (Array.getElem?_eq_some_iff.1 HMb2.out).1).trans HMb2.out
      have HBa3 := Lib.hid (bstep HBb2.out hba3)
      obtain ⟨wb3, hins, hm, hg⟩ := ins_step wa3 w5.heap.size _ _ (-1) (ptv ⟨n, 0, 0⟩) HMa3.out rfl
      have HMb3 : Hid (wb3.heap[w5.heap.size]? = some (.map #[⟨.int .i64 1, ptv ⟨-n, 0, 0⟩, 0⟩, ⟨.int .i64 2, ptv ⟨0, -n, 0⟩, 1⟩, ⟨.int .i64 3, ptv ⟨0, 0, -n⟩, 2⟩, ⟨.int .i64 (-1), ptv ⟨n, 0, 0⟩, 3⟩] 4)) := hm
      have HBb3 := Lib.hid (HBa3.out.grown hg HBa3.out.size (fun i hi => by cases hi; exact HBZ.out))
      clear hba3 hm hg HMa3 HBa3 HMb2 HBb2
      go_wp2_with fail
      refine (at_any _ _ _ _).mono ?_
      rintro e wa4 ⟨rfl, hba4⟩
      have HMa4 : Hid (wa4.heap[w5.heap.size]? = some (.map #[⟨.int .i64 1, ptv ⟨-n, 0, 0⟩, 0⟩, ⟨.int .i64 2, ptv ⟨0, -n, 0⟩, 1⟩, ⟨.int .i64 3, ptv ⟨0, 0, -n⟩, 2⟩, ⟨.int .i64 (-1), ptv ⟨n, 0, 0⟩, 3⟩] 4)) := (hba4.block _ (Array.getElem?_eq_some_iff.1 HMb3.out).1).trans HMb3.out
      have HBa4 := Lib.hid (bstep HBb3.out hba4)
      obtain ⟨wb4, hins, hm, hg⟩ := ins_step wa4 w5.heap.size _ _ (-2) (ptv ⟨0, n, 0⟩) HMa4.out rfl
      have HMb4 : Hid (wb4.heap[w5.heap.size]? = some (.map #[⟨.int .i64 1, ptv ⟨-n, 0, 0⟩, 0⟩, ⟨.int .i64 2, ptv ⟨0, -n, 0⟩, 1⟩, ⟨.int .i64 3, ptv ⟨0, 0, -n⟩, 2⟩, ⟨.int .i64 (-1), ptv ⟨n, 0, 0⟩, 3⟩, ⟨.int .i64 (-2), ptv ⟨0, n, 0⟩, 4⟩] 5)) := hm
      have HBb4 := Lib.hid (HBa4.out.grown hg HBa4.out.size (fun i hi => by cases hi; exact HBZ.out))
      clear hba4 hm hg HMa4 HBa4 HMb3 HBb3
      go_wp2_with fail
      refine (at_any _ _ _ _).mono ?_
      rintro e wa5 ⟨rfl, hba5⟩
      have HMa5 : Hid (wa5.heap[w5.heap.size]? = some (.map #[⟨.int .i64 1, ptv ⟨-n, 0, 0⟩, 0⟩, ⟨.int .i64 2, ptv ⟨0, -n, 0⟩, 1⟩, ⟨.int .i64 3, ptv ⟨0, 0, -n⟩, 2⟩, ⟨.int .i64 (-1), ptv ⟨n, 0, 0⟩, 3⟩, ⟨.int .i64 (-2), ptv ⟨0, n, 0⟩, 4⟩] 5)) := (hba5.block _ (Array.getElem?_eq_some_iff.1 HMb4.out).1).trans HMb4.out
      have HBa5 := Lib.hid (bstep HBb4.out hba5)
      obtain ⟨wb5, hins, hm, hg⟩ := ins_step wa5 w5.heap.size _ _ (-3) (ptv ⟨0, 0, n⟩) HMa5.out rfl
      have HMb5 : Hid (wb5.heap[w5.heap.size]? = some (.map #[⟨.int .i64 1, ptv ⟨-n, 0, 0⟩, 0⟩, ⟨.int .i64 2, ptv ⟨0, -n, 0⟩, 1⟩, ⟨.int .i64 3, ptv ⟨0, 0, -n⟩, 2⟩, ⟨.int .i64 (-1), ptv ⟨n, 0, 0⟩, 3⟩, ⟨.int .i64 (-2), ptv ⟨0, n, 0⟩, 4⟩, ⟨.int .i64 (-3), ptv ⟨0, 0, n⟩, 5⟩] 6)) := hm
      have HBb5 := Lib.hid (HBa5.out.grown hg HBa5.out.size (fun i hi => by cases hi; exact HBZ.out))
      clear hba5 hm hg HMa5 HBa5 HMb4 HBb4
      have hlk := kp_look wb5 w5.heap.size 6 n x HMb5.out HXA.out
      obtain ⟨⟨bx0, bx1⟩, ⟨by0, by1⟩, bz0, bz1⟩ := back_bd x n0 n1
      have HBP : Hid (∀ a, shB (backP x n) a = ⟨⟨a.lo.x + (backP x n).x, a.lo.y + (backP x n).y, a.lo.z + (backP x n).z⟩, ⟨a.hi.x + (backP x n).x, a.hi.y + (backP x n).y, a.hi.z + (backP x n).z⟩⟩) := fun a => rfl
      have HKB := Lib.hid (fun (hf : is = false) a b (ha : a ∈ A) (hb : b ∈ C) (hy : bxOk (shB (backP x n) a) = true) => keeps_back (by rw [HBK.out]; exact hf) HXA.out n0 ha hb HAL.out HBL.out hy)
      have HKF := Lib.hid (fun (hf : is = false) a b (ha : a ∈ A) (hb : b ∈ C) => keeps_far (by rw [HBK.out]; exact hf) ha hb HAL.out HBL.out)
      generalize backP x n = p at *
      have HP0 := Lib.hid (BlkIs.new wb5 #[.int .i64 p.x, .int .i64 p.y, .int .i64 p.z] 35)
      have HW6 : Hid (Below w5.heap.size w5 (wb5.alloc (.cells #[.int .i64 p.x, .int .i64 p.y, .int .i64 p.z] 35))) := HBb5.out.alloc HBb5.out.size _
      clear HMb5 HBb5 HBZ hn n0 n1
      go_wp2_with fail
      clear hlk hins HFI HP HR HW1 HW2 HW3 HW4
      obtain ⟨w6, hw6⟩ : ∃ W, wb5.alloc (.cells #[.int .i64 p.x, .int .i64 p.y, .int .i64 p.z] 35) = W := ⟨_, rfl⟩
      rw [hw6] at HP0 HW6 ⊢
      clear hw6
      generalize wb5.heap.size = B6 at *
      go_loopw [89] (fun c wr => ∃ m : Nat, m ≤ A.length ∧ c = .int .i64 (m : Int) ∧ Below w5.heap.size w5 wr ∧ BlkIs wr B6 35 #[.int .i64 p.x, .int .i64 p.y, .int .i64 p.z]) (fun c _ => A.length - (intOf c).toNat)
      case atStart => exact ⟨0, Nat.zero_le _, rfl, HW6.out, HP0.out⟩
      case round =>
        obtain ⟨m, hm, rfl, hBr, hPr⟩ := hrel
        have HBr := Lib.hid hBr
        have HPr := Lib.hid hPr
        clear hBr hPr HW6 HP0
        obtain ⟨wo, rfl⟩ : ∃ wo : World, wo = wr := ⟨_, rfl⟩
        by_cases hm2 : m < A.length
        · obtain ⟨a, ha⟩ : ∃ y, A[m]? = some y := ⟨_, List.getElem?_eq_getElem hm2⟩
          obtain ⟨b0, off0, rfl, hbl0, c0, c1, c2, c3, c4, c5⟩ := bxs_get (HI5.out.below HBr.out) ha
          have HAM := Lib.hid (List.mem_of_getElem? ha)
          have HAOK := Lib.hid (List.all_eq_true.1 HAL.out a HAM.out)
          obtain ⟨⟨a0, a1, a2⟩, ⟨a3, a4, a5'⟩, ⟨a6, a7, a8⟩⟩ := bxOk_dec.1 HAOK.out
          have HQ0 : Hid (KpW w5 wo.heap.size B6 a p (wo.alloc (.cells (bxCellsA a) 39))) := ⟨bstep HBr.out (below_new _ _), BlkIs.new _ _ _, HPr.out.alloc _⟩
          have wx0 : IntKind.i64.wrap (a.lo.x + p.x) = a.lo.x + p.x := IntWalk.i64_in _ (by omega)
          have wx1 : IntKind.i64.wrap (a.lo.y + p.y) = a.lo.y + p.y := IntWalk.i64_in _ (by omega)
          have wx2 : IntKind.i64.wrap (a.lo.z + p.z) = a.lo.z + p.z := IntWalk.i64_in _ (by omega)
          have wx3 : IntKind.i64.wrap (a.hi.x + p.x) = a.hi.x + p.x := IntWalk.i64_in _ (by omega)
          have wx4 : IntKind.i64.wrap (a.hi.y + p.y) = a.hi.y + p.y := IntWalk.i64_in _ (by omega)
          have wx5 : IntKind.i64.wrap (a.hi.z + p.z) = a.hi.z + p.z := IntWalk.i64_in _ (by omega)
          clear ha hbl0
          go_upto_region 17 with fail
          obtain ⟨W0, hW0⟩ : ∃ W, wo.alloc (.cells (bxCellsA a) 39) = W := ⟨_, rfl⟩
          rw [hW0] at HQ0 ⊢
          clear hW0 c0 c1 c2 c3 c4 c5
          generalize wo.heap.size = g0 at *
          go_cut [23] (fun s23 wc => ∃ g, s23 = .pointer (some ⟨g, 0, none⟩) ∧ Hid (KpW w5 g0 B6 a p wc ∧ BlkIs wc g 39 #[.int .i64 (a.lo.x + p.x), .int .i64 (a.lo.y + p.y), .int .i64 (a.lo.z + p.z), .int .i64 (a.hi.x + p.x), .int .i64 (a.hi.y + p.y), .int .i64 (a.hi.z + p.z)]))
          case first =>
            go_region_held3 (fun w' => KpS g0 B6 a p w')
              ((first
                | (with_reducible exact HT8.out.s)
                | (with_reducible exact HT8.out.drew.s)
                | (with_reducible exact (HT8.out.alloc _).s)
                | (with_reducible exact (HT8.out.alloc _).drew.s)
                | (with_reducible exact HT7.out.s)
                | (with_reducible exact HT7.out.drew.s)
                | (with_reducible exact (HT7.out.alloc _).s)
                | (with_reducible exact (HT7.out.alloc _).drew.s)
                | (with_reducible exact (HT8.out.set6 HQ0.out.bq.lt HQ0.out.bp.lt HQ0.out.below.size _ _ _ _ _ _).s)
                | (with_reducible exact (HT8.out.set6 HT7.out.bq.lt HT7.out.bp.lt HT7.out.below.size _ _ _ _ _ _).s)
                | (with_reducible exact HQ0.out.s)
                | (with_reducible exact HQ0.out.drew.s)
                | (with_reducible exact (HQ0.out.alloc _).s)
                | (with_reducible exact (HQ0.out.alloc _).drew.s)
                | fail))
              ((first
                | (go_at_call 14; (with_reducible refine (at_any _ _ _ (W0)).mono ?_); rintro e w7 ⟨rfl, hb7⟩; have HT7 := Lib.hid (HQ0.out.after hb7); clear hb7)
                | (go_at_call 14; (with_reducible refine (at_any _ _ _ (W0.drew)).mono ?_); rintro e w7 ⟨rfl, hb7⟩; have HT7 := Lib.hid (HQ0.out.drew.after hb7); clear hb7)
                | (go_at_call 14; (with_reducible refine (at_any _ _ _ ((W0.alloc (.cells #[.int .i64 0, .int .i64 0, .int .i64 0, .int .i64 0, .int .i64 0, .int .i64 0] 39)))).mono ?_); rintro e w7 ⟨rfl, hb7⟩; have HT7 := Lib.hid ((HQ0.out.alloc (.cells #[.int .i64 0, .int .i64 0, .int .i64 0, .int .i64 0, .int .i64 0, .int .i64 0] 39)).after hb7); have H14 : Hid (BlkIs w7 W0.heap.size 39 #[.int .i64 0, .int .i64 0, .int .i64 0, .int .i64 0, .int .i64 0, .int .i64 0]) := BlkIs.below (w := (W0.alloc (.cells #[.int .i64 0, .int .i64 0, .int .i64 0, .int .i64 0, .int .i64 0, .int .i64 0] 39))) (BlkIs.new W0 #[.int .i64 0, .int .i64 0, .int .i64 0, .int .i64 0, .int .i64 0, .int .i64 0] 39) hb7; have p0 := H14.out.cell 0; have p1 := H14.out.cell 1; have p2 := H14.out.cell 2; have p3 := H14.out.cell 3; have p4 := H14.out.cell 4; have p5 := H14.out.cell 5; have pf := H14.out.free; have pz := H14.out.lt; clear hb7)
                | (go_at_call 14; (with_reducible refine (at_any _ _ _ ((W0.alloc (.cells #[.int .i64 0, .int .i64 0, .int .i64 0, .int .i64 0, .int .i64 0, .int .i64 0] 39)).drew)).mono ?_); rintro e w7 ⟨rfl, hb7⟩; have HT7 := Lib.hid ((HQ0.out.alloc (.cells #[.int .i64 0, .int .i64 0, .int .i64 0, .int .i64 0, .int .i64 0, .int .i64 0] 39)).drew.after hb7); have H14 : Hid (BlkIs w7 W0.heap.size 39 #[.int .i64 0, .int .i64 0, .int .i64 0, .int .i64 0, .int .i64 0, .int .i64 0]) := BlkIs.below (w := (W0.alloc (.cells #[.int .i64 0, .int .i64 0, .int .i64 0, .int .i64 0, .int .i64 0, .int .i64 0] 39)).drew) (BlkIs.new W0 #[.int .i64 0, .int .i64 0, .int .i64 0, .int .i64 0, .int .i64 0, .int .i64 0] 39) hb7; have p0 := H14.out.cell 0; have p1 := H14.out.cell 1; have p2 := H14.out.cell 2; have p3 := H14.out.cell 3; have p4 := H14.out.cell 4; have p5 := H14.out.cell 5; have pf := H14.out.free; have pz := H14.out.lt; clear hb7)
                | (go_at_call 14; (with_reducible refine (at_any _ _ _ (w7)).mono ?_); rintro e w8 ⟨rfl, hb7⟩; have HT8 := Lib.hid (HT7.out.after hb7); (try (replace H14 := Lib.hid (H14.out.below hb7); have p0 := H14.out.cell 0; have p1 := H14.out.cell 1; have p2 := H14.out.cell 2; have p3 := H14.out.cell 3; have p4 := H14.out.cell 4; have p5 := H14.out.cell 5; have pf := H14.out.free; have pz := H14.out.lt)); clear hb7)
                | (go_at_call 14; (with_reducible refine (at_any _ _ _ (w7.drew)).mono ?_); rintro e w8 ⟨rfl, hb7⟩; have HT8 := Lib.hid (HT7.out.drew.after hb7); (try (replace H14 := Lib.hid (H14.out.drew.below hb7); have p0 := H14.out.cell 0; have p1 := H14.out.cell 1; have p2 := H14.out.cell 2; have p3 := H14.out.cell 3; have p4 := H14.out.cell 4; have p5 := H14.out.cell 5; have pf := H14.out.free; have pz := H14.out.lt)); clear hb7)
                | (go_at_call 14; (with_reducible refine (at_any _ _ _ ((w7.alloc (.cells #[.int .i64 0, .int .i64 0, .int .i64 0, .int .i64 0, .int .i64 0, .int .i64 0] 39)))).mono ?_); rintro e w8 ⟨rfl, hb7⟩; have HT8 := Lib.hid ((HT7.out.alloc (.cells #[.int .i64 0, .int .i64 0, .int .i64 0, .int .i64 0, .int .i64 0, .int .i64 0] 39)).after hb7); have H14 : Hid (BlkIs w8 w7.heap.size 39 #[.int .i64 0, .int .i64 0, .int .i64 0, .int .i64 0, .int .i64 0, .int .i64 0]) := BlkIs.below (w := (w7.alloc (.cells #[.int .i64 0, .int .i64 0, .int .i64 0, .int .i64 0, .int .i64 0, .int .i64 0] 39))) (BlkIs.new w7 #[.int .i64 0, .int .i64 0, .int .i64 0, .int .i64 0, .int .i64 0, .int .i64 0] 39) hb7; have p0 := H14.out.cell 0; have p1 := H14.out.cell 1; have p2 := H14.out.cell 2; have p3 := H14.out.cell 3; have p4 := H14.out.cell 4; have p5 := H14.out.cell 5; have pf := H14.out.free; have pz := H14.out.lt; clear hb7)
                | (go_at_call 14; (with_reducible refine (at_any _ _ _ ((w7.alloc (.cells #[.int .i64 0, .int .i64 0, .int .i64 0, .int .i64 0, .int .i64 0, .int .i64 0] 39)).drew)).mono ?_); rintro e w8 ⟨rfl, hb7⟩; have HT8 := Lib.hid ((HT7.out.alloc (.cells #[.int .i64 0, .int .i64 0, .int .i64 0, .int .i64 0, .int .i64 0, .int .i64 0] 39)).drew.after hb7); have H14 : Hid (BlkIs w8 w7.heap.size 39 #[.int .i64 0, .int .i64 0, .int .i64 0, .int .i64 0, .int .i64 0, .int .i64 0]) := BlkIs.below (w := (w7.alloc (.cells #[.int .i64 0, .int .i64 0, .int .i64 0, .int .i64 0, .int .i64 0, .int .i64 0] 39)).drew) (BlkIs.new w7 #[.int .i64 0, .int .i64 0, .int .i64 0, .int .i64 0, .int .i64 0, .int .i64 0] 39) hb7; have p0 := H14.out.cell 0; have p1 := H14.out.cell 1; have p2 := H14.out.cell 2; have p3 := H14.out.cell 3; have p4 := H14.out.cell 4; have p5 := H14.out.cell 5; have pf := H14.out.free; have pz := H14.out.lt; clear hb7)
                | fail))
            all_goals go_wp2_with fail
            all_goals go_meet
            all_goals refine ⟨_, rfl, Lib.hid ⟨?_, ?_⟩⟩
            all_goals
              first
                | (with_reducible exact HT8.out.alloc _)
                | (with_reducible exact BlkIs.new _ _ _)
                | (with_reducible exact HT8.out.set6 HT7.out.bq.lt HT7.out.bp.lt HT7.out.below.size _ _ _ _ _ _)
                | (with_reducible exact HT8.out.set6 HQ0.out.bq.lt HQ0.out.bp.lt HQ0.out.below.size _ _ _ _ _ _)
                | (with_reducible exact blk_set6 H14.out _ _ _ _ _ _)
                | fail
          case rest =>
            obtain ⟨g, rfl, HCU⟩ := hcut
            have HA0 : Hid (KpW w5 g0 B6 a p wc) := HCU.out.1
            have HY0 : Hid (BlkIs wc g 39 (bxCellsA (shB p a))) := by rw [HBP.out]; exact HCU.out.2
            have HKY : Hid (∀ z, z ∈ C → is = false → bxOk (shB p a) = true → tooNear need (shB p a) z = false) := fun z hz hf hy => HKB.out hf a z HAM.out hz hy
            have HKA : Hid (∀ z, z ∈ C → is = false → tooNear need a z = false) := fun z hz hf => HKF.out hf a z HAM.out hz
            clear HCU HKB HKF HBP HBK HQ0 wx0 wx1 wx2 wx3 wx4 wx5 bx0 bx1 by0 by1 bz0 bz1 a0 a1 a2 a3 a4 a5' a6 a7 a8 HPr
            generalize shB p a = y at *
            go_wp2_with fail
            go_loopw [134] (fun c wr => ∃ j : Nat, j ≤ C.length ∧ c = .int .i64 (j : Int) ∧ KpW w5 g0 B6 a p wr ∧ BlkIs wr g 39 (bxCellsA y)) (fun c _ => C.length - (intOf c).toNat)
            case atStart => exact ⟨0, Nat.zero_le _, rfl, HA0.out, HY0.out⟩
            case round =>
              obtain ⟨j, hj, rfl, hA, hY⟩ := hrel
              have HA := Lib.hid hA
              have HY := Lib.hid hY
              clear hA hY HA0 HY0
              by_cases hj2 : j < C.length
              · obtain ⟨z, hz⟩ : ∃ q, C[j]? = some q := ⟨_, List.getElem?_eq_getElem hj2⟩
                obtain ⟨b1, off1, rfl, hbl1, c0, c1, c2, c3, c4, c5⟩ := bxs_get (HK5.out.below HA.out.below) hz
                have hzm := List.mem_of_getElem? hz
                have HZOK := Lib.hid (List.all_eq_true.1 HBL.out z hzm)
                have HW7 := Lib.hid (bstep HW5.out (bstep HA.out.below (below_new wr (.cells (bxCellsA z) 39))))
                have HN1 := Lib.hid (HNE.out a z HAOK.out HZOK.out)
                have HN2 := Lib.hid (fun hy => HNE.out y z hy HZOK.out)
                have HF1 := HKA.out z hzm
                have HF2 := Lib.hid (HKY.out z hzm)
                have HVA := Lib.hid (fun W => bvalid_any y W)
                generalize tooNear need a z = n1 at *
                generalize tooNear need y z = n2 at *
                generalize bxOk y = oky at *
                obtain ⟨d0, d1, d2, d3, d4, d5⟩ := HA.out.s.1
                have dz := HA.out.bq.lt
                have e0 := HY.out.cell 0
                have e1 := HY.out.cell 1
                have e2 := HY.out.cell 2
                have e3 := HY.out.cell 3
                have e4 := HY.out.cell 4
                have e5 := HY.out.cell 5
                have ez := HY.out.lt
                clear hz hbl1 hzm
                go_wp2_with fail
                refine (HN1.out _ HW7.out).mono ?_
                rintro en w7 ⟨rfl, hb7⟩
                have HA7 := Lib.hid ((HA.out.alloc (.cells (bxCellsA z) 39)).after hb7)
                have HY7 := Lib.hid ((HY.out.alloc (.cells (bxCellsA z) 39)).below hb7)
                have HZ7 := Lib.hid ((BlkIs.new wr (bxCellsA z) 39).below hb7)
                clear c0 c1 c2 c3 c4 c5 d0 d1 d2 d3 d4 d5 e0 e1 e2 e3 e4 e5 hb7 HN1 dz ez
                have e0 := HY7.out.cell 0
                have e1 := HY7.out.cell 1
                have e2 := HY7.out.cell 2
                have e3 := HY7.out.cell 3
                have e4 := HY7.out.cell 4
                have e5 := HY7.out.cell 5
                have ez := HY7.out.lt
                have hnn : (n1 && !is) = false := by cases is with
                  | true => simp
                  | false => simp [HF1 rfl]
                cases is <;> cases n1
                case false.true => exact absurd (HF1 rfl) (by simp)
                all_goals
                  clear hnn HF1
                  go_wp2_with fail
                  refine (HVA.out _).mono ?_
                  rintro en w8 ⟨rfl, hb8⟩
                  have HA8 := Lib.hid (HA7.out.after hb8)
                  have HY8 := Lib.hid (HY7.out.below hb8)
                  have HZ8 := Lib.hid (HZ7.out.below hb8)
                  clear e0 e1 e2 e3 e4 e5 ez hb8
                  cases oky
                  · clear HN2
                    go_wp2
                    go_roundw
                    case rel => exact ⟨j + 1, by omega, by go_num, HA8.out, HY8.out⟩
                    case measure => simp [intOf]; omega
                  · have e0 := HY8.out.cell 0
                    have e1 := HY8.out.cell 1
                    have e2 := HY8.out.cell 2
                    have e3 := HY8.out.cell 3
                    have e4 := HY8.out.cell 4
                    have e5 := HY8.out.cell 5
                    have ez := HY8.out.lt
                    have z0 := HZ8.out.cell 0
                    have z1 := HZ8.out.cell 1
                    have z2 := HZ8.out.cell 2
                    have z3 := HZ8.out.cell 3
                    have z4 := HZ8.out.cell 4
                    have z5 := HZ8.out.cell 5
                    have zz := HZ8.out.lt
                    have HN3 := Lib.hid (HN2.out rfl)
                    clear HN2
                    go_wp2_with fail
                    refine (HN3.out _ (bstep HW5.out HA8.out.below)).mono ?_
                    rintro en w9 ⟨rfl, hb9⟩
                    have HA9 := Lib.hid (HA8.out.after hb9)
                    have HY9 := Lib.hid (HY8.out.below hb9)
                    clear hb9 e0 e1 e2 e3 e4 e5 ez z0 z1 z2 z3 z4 z5 zz
                    cases n2
                    · go_wp2
                      go_roundw
                      case rel => exact ⟨j + 1, by omega, by go_num, HA9.out, HY9.out⟩
                      case measure => simp [intOf]; omega
                    · first
                        | exact Bool.noConfusion (HF2.out trivial trivial)
                        | exact Bool.noConfusion (HF2.out rfl trivial)
                        | exact Bool.noConfusion (HF2.out rfl rfl)
                        | (go_wp2
                           go_roundw
                           case rel => exact ⟨j + 1, by omega, by go_num, HA9.out, HY9.out⟩
                           case measure => simp [intOf]; omega)
              · obtain rfl : j = C.length := by omega
                go_wp2
                go_roundw
                case rel => exact ⟨m + 1, by omega, by go_num, HA.out.below, HA.out.bp⟩
                case measure => simp [intOf]; omega
        · obtain rfl : m = A.length := by omega
          go_wp2
          (try rw [Exit.noGoto_ret])
          go_ret
          exact ⟨rfl, bstep HW5.out HBr.out⟩
    · have hcb : (c != 0) = true := bne_yes hc
      obtain rfl := HPC.out.1 hc
      clear hc HPC
      go_wp2
      go_ret
      exact ⟨rfl, HW3.out⟩
end Go.Proofs.Ytnlloecbjohfdaa
