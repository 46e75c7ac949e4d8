/-
  The reference of ways: Blocks, Blocked, Ways.
-/
import Derived.Test.YtnlloecbjohfdaaGreatRnk
import Derived.Test.YtnlloecbjohfdaaGreatBkV
namespace Go.Proofs.YtnlloecbjohfdaaGreat
section
open Go.RowKit
set_option linter.unusedVariables false
set_option linter.unusedSimpArgs false
attribute [local go_sem ↓] Go.wp_at_zero Go.wp_at_succ

theorem wit_at (L : List (List Bx)) (Z : List Int) (x : Int) (i k : Nat) : (witAt L Z x i k).isSome = blkAt L Z x i k := wit_blk _ _ _ _
theorem rblk_any (v vr : Value) (i k : Nat) (x : Int) (l : List BarD) (rs : List RunD) (w : World) (hp : Bars w v l) (hr : Runs w vr rs) (hl : l.length ≤ 140737488355328) (h : laidOk l rs = true) (hi : i < (lgsOf l rs).length) (hk : k < (lgsOf l rs).length) (hx : axB x = true) :
    Calls Tryz.prog 88 #[v, vr, .int .i64 (i : Int), .int .i64 (k : Int), .int .i64 x] w fun e w' => e = .returned (.bool (blkAt (lgsOf l rs) (szsOf l rs) x i k)) ∧ Below w.heap.size w w' := by
  have H := Lib.hid (rwit_any v vr i k x l rs w hp hr hl h hi hk hx)
  rw [wit_at] at H
  generalize blkAt (lgsOf l rs) (szsOf l rs) x i k = q at *
  generalize (witAt (lgsOf l rs) (szsOf l rs) x i k).getD pt0 = p at *
  obtain ⟨ii, hii⟩ : ∃ z, (i : Int) = z := ⟨_, rfl⟩
  obtain ⟨kk, hkk⟩ : ∃ z, (k : Int) = z := ⟨_, rfl⟩
  rw [hii, hkk] at H
  rw [hii, hkk]
  clear hp hr h hi hk hx hii hkk
  go_enter Tryz.func88, Tryz.ntmps88
  go_wp2_with fail
  refine H.out.mono ?_
  rintro e w1 ⟨rfl, hb1⟩
  have HB1 := Lib.hid hb1
  have HB2 := Lib.hid (hb1.alloc hb1.size (.cells #[.int .i64 p.x, .int .i64 p.y, .int .i64 p.z] 34))
  clear hb1 H
  go_wp2
  go_ret
  exact ⟨rfl, HB2.out⟩

set_option maxHeartbeats 4000000 in
theorem rblkd_any (v vr tv : Value) (i : Nat) (x : Int) (T : List Int) (l : List BarD) (rs : List RunD) (w : World) (hp : Bars w v l) (hr : Runs w vr rs) (ht : Ints w tv T) (hl : l.length ≤ 140737488355328) (h : laidOk l rs = true) (hi : i < (lgsOf l rs).length) (hx : axB x = true) (hT : ∀ k ∈ T, 0 ≤ k ∧ k < ((lgsOf l rs).length : Int)) (hlt : T.length ≤ 1000000) :
    Calls Tryz.prog 48 #[v, vr, .int .i64 (i : Int), .int .i64 x, tv] w fun e w' => ∃ o, e = .returned o ∧ Hid (OwnI w' w.heap.size o (blkL (lgsOf l rs) (szsOf l rs) x i T)) ∧ Below w.heap.size w w' := by
  have HBL := Lib.hid (fun (k : Nat) (hk : k < (lgsOf l rs).length) W (hW : Below w.heap.size w W) => rblk_any v vr i k x l rs W (hp.below hW) (hr.below hW) hl h hi hk hx)
  obtain ⟨tpo, tc, rfl⟩ := Sl.at_ ht
  have HT := Lib.hid ht
  have HIN := Lib.hid hT
  generalize lgsOf l rs = L at *
  generalize szsOf l rs = Z at *
  obtain ⟨ii, hii⟩ : ∃ z, (i : Int) = z := ⟨_, rfl⟩
  rw [hii] at HBL
  rw [hii]
  clear hp hr ht h hT hii hi hx
  go_enter Tryz.func48, Tryz.ntmps48
  go_wp2_with fail
  go_loopw [11, 12] (fun o c wr => ∃ k : Nat, k ≤ T.length ∧ c = .int .i64 (k : Int) ∧ Below w.heap.size w wr ∧ OwnI wr w.heap.size o (blkL L Z x i (T.take k))) (fun _ c _ => T.length - (intOf c).toNat)
  case atStart => exact ⟨0, Nat.zero_le _, rfl, Below.refl _ _, Own.nil _ _ _ _⟩
  case round =>
    obtain ⟨k, hk, rfl, hBr, hown⟩ := hrel
    have HB := Lib.hid hBr
    have HW := Lib.hid hown
    clear hBr hown
    by_cases hk2 : k < T.length
    · obtain ⟨m, hm⟩ : ∃ y, T[k]? = some y := ⟨_, List.getElem?_eq_getElem hk2⟩
      obtain ⟨m0, m1⟩ := HIN.out m (List.mem_of_getElem? hm)
      obtain ⟨m, rfl⟩ : ∃ n : Nat, m = (n : Int) := ⟨m.toNat, by omega⟩
      have HC := Lib.hid (HBL.out m (by omega) wr HB.out)
      obtain ⟨tb, toff, rfl, htb, g0⟩ := zints_get (Sl.below HT.out HB.out) hm
      have HSN := Lib.hid (blkL_snoc L Z x i hm)
      rw [Int.toNat_natCast] at HSN
      have HG := Lib.hid (fun W (hW : Below wr.heap.size wr W) => zints_get (Sl.below (Sl.below HT.out HB.out) hW) hm)
      have hln : (blkL L Z x i (T.take k)).length + 1 ≤ 1099511627776 := by
        have h1 : (blkL L Z x i (T.take k)).length ≤ (T.take k).length := List.length_filter_le _ _
        rw [List.length_take] at h1
        omega
      generalize blkAt L Z x i m = q at *
      generalize (m : Int) = mi at *
      clear hm HBL HIN
      go_wp2_with fail
      refine HC.out.mono ?_
      rintro e w2 ⟨rfl, hb2⟩
      obtain ⟨tb', toff', he, htb', g2⟩ := HG.out w2 hb2
      cases he
      have HB2 := Lib.hid (bstep HB.out hb2)
      have HW2 := Lib.hid (HW.out.below hb2)
      have hbase : w.heap.size ≤ w2.heap.size := HB2.out.size
      clear hb2 HC HG g0 htb htb'
      cases q
      · go_wp2
        go_roundw
        case rel => exact ⟨k + 1, by omega, by go_num, HB2.out, by rw [HSN.out]; simpa using HW2.out⟩
        case measure => simp [intOf]; omega
      · go_wp2_with (at_builtin; refine wpList_pushO w2 w2.heap.size rfl rfl _ _ 43 rfl 3 8 elemInt w.heap.size intv _ _ mi rfl HW2.out rfl rfl hln (by omega) hbase ?_; intro v' w' hown' hg' hat'; have HW9 := Lib.hid hown'; have HB9 := Lib.hid (HB2.out.grown hg' hbase (fun j hj => (HW2.out.lt j hj).1)); clear hown' hg' hat')
        go_roundw
        case rel => exact ⟨k + 1, by omega, by go_num, HB9.out, by rw [HSN.out]; exact HW9.out⟩
        case measure => simp [intOf]; omega
    · obtain rfl : k = T.length := by omega
      rw [List.take_length] at HW
      go_wp2
      go_ret
      exact ⟨_, rfl, HW.out, HB.out⟩

set_option maxHeartbeats 4000000 in
theorem rways_any (v vr tv : Value) (i : Nat) (T : List Int) (l : List BarD) (rs : List RunD) (w : World) (hp : Bars w v l) (hr : Runs w vr rs) (ht : Ints w tv T) (hl : l.length ≤ 140737488355328) (h : laidOk l rs = true) (hi : i < (lgsOf l rs).length) (hT : ∀ k ∈ T, 0 ≤ k ∧ k < ((lgsOf l rs).length : Int)) (hlt : T.length ≤ 1000000) :
    Calls Tryz.prog 49 #[v, vr, .int .i64 (i : Int), tv] w fun e w' => ∃ o, e = .returned o ∧ Hid (OwnI w' w.heap.size o (waysL (lgsOf l rs) (szsOf l rs) i T)) ∧ Below w.heap.size w w' := by
  have HBK := Lib.hid (fun x (hx : axB x = true) W (hW : Below w.heap.size w W) => rblkd_any v vr tv i x T l rs W (hp.below hW) (hr.below hW) (Sl.below ht hW) hl h hi hx hT hlt)
  generalize lgsOf l rs = L at *
  generalize szsOf l rs = Z at *
  obtain ⟨ii, hii⟩ : ∃ z, (i : Int) = z := ⟨_, rfl⟩
  rw [hii] at HBK
  rw [hii]
  have HWL : Hid (waysN L Z i T 6 = waysL L Z i T) := rfl
  clear hp hr ht h hT hii hi
  go_enter Tryz.func49, Tryz.ntmps49
  go_wp2_with fail
  refine (raxes_any _).mono ?_
  rintro e w2 ⟨rfl, hax, hb2⟩
  have HB2 := Lib.hid hb2
  have HAX := Lib.hid hax
  clear hb2 hax
  go_wp2_with fail
  go_loopw [10, 11] (fun o c wr => ∃ k : Nat, k ≤ 6 ∧ c = .int .i64 (k : Int) ∧ Below w2.heap.size w2 wr ∧ OwnI wr w2.heap.size o (waysN L Z i T k)) (fun _ c _ => 6 - (intOf c).toNat)
  case atStart => exact ⟨0, by omega, rfl, Below.refl _ _, Own.nil _ _ _ _⟩
  case round =>
    obtain ⟨k, hk, rfl, hBr, hown⟩ := hrel
    have HBr := Lib.hid hBr
    have HW := Lib.hid hown
    clear hBr hown
    by_cases hk2 : k < 6
    · obtain ⟨x, hx⟩ : ∃ y, axesL[k]? = some y := ⟨_, List.getElem?_eq_getElem hk2⟩
      have hxa : axB x = true := (axes_mem x).1 (List.mem_of_getElem? hx)
      obtain ⟨ab, aoff, ha, hab, g0⟩ := zints_get (Sl.below HAX.out HBr.out) hx
      cases ha
      rw [Nat.zero_add] at g0
      have HG := Lib.hid (fun W (hW : Below wr.heap.size wr W) => zints_get (Sl.below (Sl.below HAX.out HBr.out) hW) hx)
      have HSN := Lib.hid (waysN_snoc L Z i T hx)
      have HC := Lib.hid (HBK.out x hxa wr (bstep HB2.out HBr.out))
      have hln : (waysN L Z i T k).length + 1 ≤ 1099511627776 := by
        have h1 : (waysN L Z i T k).length ≤ (axesL.take k).length := List.length_filter_le _ _
        rw [List.length_take] at h1
        omega
      clear hx hxa hab
      generalize blkL L Z x i T = R at *
      go_wp2_with fail
      refine HC.out.mono ?_
      rintro e w4 ⟨o4, rfl, HO4, hb4⟩
      obtain ⟨oo, oc, rfl⟩ := HO4.out.shape
      obtain ⟨tb', toff', he, htb', g2⟩ := HG.out w4 hb4
      cases he
      rw [Nat.zero_add] at g2
      have HB4 := Lib.hid (bstep HBr.out hb4)
      have HW4 := Lib.hid (HW.out.below hb4)
      have hbase : w2.heap.size ≤ w4.heap.size := HB4.out.size
      clear hb4 HC g0 htb' HG
      cases R with
      | nil =>
        go_wp2_with (at_builtin; refine wpList_pushO w4 w4.heap.size rfl rfl _ _ 43 rfl 3 8 elemInt w2.heap.size intv _ _ x rfl HW4.out rfl rfl hln (by omega) hbase ?_; intro v' w' hown' hg' hat'; have HW9 := Lib.hid hown'; have HB9 := Lib.hid (HB4.out.grown hg' hbase (fun j hj => (HW4.out.lt j hj).1)); clear hown' hg' hat')
        go_roundw
        case rel => exact ⟨k + 1, by omega, by go_num, HB9.out, by rw [HSN.out]; exact HW9.out⟩
        case measure => simp [intOf]; omega
      | cons y R =>
        have hne : (((y :: R).length : Int) == 0) = false := beq_no (by simp; omega)
        generalize (y :: R).length = yl at *
        go_wp2
        go_roundw
        case rel => exact ⟨k + 1, by omega, by go_num, HB4.out, by rw [HSN.out]; simpa using HW4.out⟩
        case measure => simp [intOf]; omega
    · obtain rfl : k = 6 := by omega
      rw [HWL.out] at HW
      have hz : w.heap.size ≤ w2.heap.size := HB2.out.size
      go_wp2
      go_ret
      exact ⟨_, rfl, HW.out.mono hz, bstep HB2.out HBr.out⟩
end
end Go.Proofs.YtnlloecbjohfdaaGreat
