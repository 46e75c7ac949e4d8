/-
  Base texts, shaken by wip/shake.py: Rnl Rnm Rno.
-/
import Derived.Test.YtamogedpgkofjaaGreatKnd
import Derived.Test.YtamogedpgkofjaaGreatKbk
import Derived.Test.YtamogedpgkofjaaGreatKrf
namespace Go.Proofs.YtamogedpgkofjaaGreat
section
section
open Go.RowKit
set_option linter.unusedVariables false
set_option linter.unusedSimpArgs false
attribute [local go_sem ↓] Go.wp_at_zero Go.wp_at_succ

theorem wit_at (L : List (List Bx)) (Z : List Int) (x : Int) (i k : Nat) : (witAt L Z x i k).isSome = blkAt L Z x i k := wit_blk _ _ _ _
theorem rblk_any (v vr : Value) (i k : Nat) (x : Int) (l : List BarD) (rs : List RunD) (w : World) (hp : Bars w v l) (hr : Runs w vr rs) (hl : l.length ≤ 140737488355328) (h : laidOk l rs = true) (hi : i < (lgsOf l rs).length) (hk : k < (lgsOf l rs).length) (hx : axB x = true) :
    Calls Tryz.prog 86 #[v, vr, .int .i64 (i : Int), .int .i64 (k : Int), .int .i64 x] w fun e w' => e = .returned (.bool (blkAt (lgsOf l rs) (szsOf l rs) x i k)) ∧ Below w.heap.size w w' := by
  have H := Lib.hid (rwit_any v vr i k x l rs w hp hr hl h hi hk hx)
  rw [wit_at] at H
  generalize blkAt (lgsOf l rs) (szsOf l rs) x i k = q at *
  generalize (witAt (lgsOf l rs) (szsOf l rs) x i k).getD pt0 = p at *
  obtain ⟨ii, hii⟩ : ∃ z, (i : Int) = z := ⟨_, rfl⟩
  obtain ⟨kk, hkk⟩ : ∃ z, (k : Int) = z := ⟨_, rfl⟩
  rw [hii, hkk] at H
  rw [hii, hkk]
  clear hp hr h hi hk hx hii hkk
  go_enter Tryz.func86, Tryz.ntmps86
  go_wp2_with fail
  refine H.out.mono ?_
  rintro e w1 ⟨rfl, hb1⟩
  have HB1 := Lib.hid hb1
  have HB2 := Lib.hid (hb1.alloc hb1.size (.cells #[.int .i64 p.x, .int .i64 p.y, .int .i64 p.z] 88))
  clear hb1 H
  go_wp2
  go_ret
  exact ⟨rfl, HB2.out⟩

end
end
section
section
open Go.RowKit
set_option linter.unusedVariables false
set_option linter.unusedSimpArgs false
attribute [local go_sem ↓] Go.wp_at_zero Go.wp_at_succ

/-- The numbers as they are read, and nothing of the caller's changed. -/
structure TW (w : World) (tv : Value) (T : List Int) (wr : World) : Prop where
  below : Below w.heap.size w wr
  ints : Ints wr tv T
theorem TW.after {w wr w' : World} {tv : Value} {T : List Int} (h : TW w tv T wr) (hb : Below wr.heap.size wr w') : TW w tv T w' := ⟨bstep h.below hb, Sl.below h.ints hb⟩
end
end
section
section
open Go.RowKit
set_option linter.unusedVariables false
set_option linter.unusedSimpArgs false
attribute [local go_sem ↓] Go.wp_at_zero Go.wp_at_succ

def allE (ok : Bool) (n : Nat) (X : List Int) : Int := if ok then edgE n X else 1
theorem any_axis {X : List Int} {k : Nat} {y : Int} (h : X[k]? = some y) (hy : axB y = false) : X.any (fun a => !axB a) = true := by
  rw [List.any_eq_true]
  exact ⟨y, List.mem_of_getElem? h, by simp [hy]⟩
theorem none_axis {X : List Int} (h : ∀ (j : Nat) y, j < X.length → X[j]? = some y → axB y = true) : X.any (fun a => !axB a) = false := by
  rw [List.any_eq_false]
  intro x hx
  obtain ⟨j, hj, rfl⟩ := List.mem_iff_getElem.1 hx
  simp [h j _ hj (List.getElem?_eq_getElem hj)]
set_option maxHeartbeats 4000000 in
theorem rallx_any (v vr tv : Value) (X : List Int) (l : List BarD) (rs : List RunD) (w : World) (hp : Bars w v l) (hr : Runs w vr rs) (ht : Ints w tv X) (hl : l.length ≤ 140737488355328) (hlr : rs.length ≤ 140737488355328) (hlt : X.length ≤ 1000000) (hf : FitB l) :
    Calls Tryz.prog 51 #[v, vr, tv] w fun e w' => e = .returned (.int .i64 (allE (laidOk l rs) (lgsOf l rs).length X)) ∧ Below w.heap.size w w' := by
  have HV := Lib.hid (rlaid_any v vr l rs w hp hr hl hlr hf)
  obtain ⟨tpo, tc, rfl⟩ := Sl.at_ ht
  have HT := Lib.hid ht
  cases h : laidOk l rs with
  | false =>
    rw [h] at HV
    have HG : Hid (allE false (lgsOf l rs).length X = 1) := rfl
    rw [HG.out]
    clear hp hr ht h
    go_enter Tryz.func51, Tryz.ntmps51
    go_wp2_with fail
    refine HV.out.mono ?_
    rintro e w1 ⟨rfl, hb1⟩
    have HB1 := Lib.hid hb1
    clear hb1
    go_wp2
    go_ret
    exact ⟨rfl, HB1.out⟩
  | true =>
    obtain ⟨s1, s2, s3, s4, s5⟩ := laid_sum h
    have HC := Lib.hid (fun W (hW : Below w.heap.size w W) => rcount_any vr rs W (hr.below hW) (by omega) s4)
    rw [← s1, ← lgsOf_len l rs] at HC
    have hLs := (lzOk_of h).small
    rw [h] at HV
    have HG : Hid (allE true (lgsOf l rs).length X = edgE (lgsOf l rs).length X) := rfl
    rw [HG.out]
    have HAX := Lib.hid (fun x W => raxis38_any x W)
    generalize lgsOf l rs = L at *
    clear hp hr ht h s1 s2 s3 s4 s5 HG hf
    go_enter Tryz.func51, Tryz.ntmps51
    go_wp2_with fail
    refine HV.out.mono ?_
    rintro e w1 ⟨rfl, hb1⟩
    have HB1 := Lib.hid hb1
    clear hb1
    go_wp2_with fail
    refine (HC.out _ HB1.out).mono ?_
    rintro e w2 ⟨rfl, rfl⟩
    have HT1 := Lib.hid (Sl.below HT.out HB1.out)
    clear HV HC HT
    by_cases h1 : 60 < L.length
    · have d1 : decide ((60 : Int) < (L.length : Int)) = true := dec_yes (by omega)
      have hh1 : (60 : Int) < (L.length : Int) := by omega
      have HE := Lib.hid (edgE_limit (X := X) h1)
      go_wp2
      go_ret
      exact ⟨by rw [HE.out]; rfl, HB1.out⟩
    · have d1 : decide ((60 : Int) < (L.length : Int)) = false := dec_no (by omega)
      have hh1 : ¬ (60 : Int) < (L.length : Int) := by omega
      by_cases h2 : X.length = L.length
      · have d2 : ((X.length : Int) != (L.length : Int)) = false := bne_no (by omega)
        have HX2 := Lib.hid h2
        have HW0 : Hid (TW w (.slice tpo X.length tc) X _) := ⟨HB1.out, HT1.out⟩
        clear h2 HB1 HT1
        go_wp2_with fail
        go_loopw [8] (fun c wr => ∃ k : Nat, k ≤ L.length ∧ c = .int .i64 (k : Int) ∧ TW w (.slice tpo X.length tc) X wr ∧ Hid (∀ (j : Nat) y, j < k → X[j]? = some y → axB y = true)) (fun c _ => L.length - (intOf c).toNat)
        case atStart => exact ⟨0, Nat.zero_le _, rfl, HW0.out, fun j y hj => by omega⟩
        case round =>
          clear HW0
          obtain ⟨k, hk, rfl, hTW, HA⟩ := hrel
          have HW1 := Lib.hid hTW
          clear hTW
          by_cases hk2 : k < L.length
          · have hkX : k < X.length := by have := HX2.out; omega
            obtain ⟨y, hy⟩ : ∃ y, X[k]? = some y := ⟨_, List.getElem?_eq_getElem hkX⟩
            obtain ⟨tb, toff, rfl, htb, g0⟩ := zints_get HW1.out.ints hy
            have HY := Lib.hid hy
            have HAY := Lib.hid (HAX.out y)
            obtain ⟨q, hq⟩ : ∃ q, axB y = q := ⟨_, rfl⟩
            have HQ := Lib.hid hq
            rw [hq] at HAY
            clear hy hq
            go_wp2_with fail
            refine (HAY.out _).mono ?_
            rintro e w3 ⟨rfl, rfl⟩
            cases q
            · have HE := Lib.hid (edgE_kind h1 HX2.out (any_axis HY.out HQ.out))
              go_wp2
              go_ret
              exact ⟨by rw [HE.out]; rfl, HW1.out.below⟩
            · go_wp2
              go_roundw
              case rel => exact ⟨k + 1, by omega, by go_num, HW1.out, fun j z hj hz => by
                by_cases e : j = k
                · subst e; rw [HY.out] at hz; cases hz; exact HQ.out
                · exact HA.out j z (by omega) hz⟩
              case measure => simp [intOf]; omega
          · obtain rfl : k = L.length := by omega
            have HE := Lib.hid (edgE_ok h1 HX2.out (none_axis fun j y hj hy => HA.out j y (by have := HX2.out; omega) hy))
            go_wp2
            go_ret
            exact ⟨by rw [HE.out]; rfl, HW1.out.below⟩
      · have d2 : ((X.length : Int) != (L.length : Int)) = true := bne_yes (by omega)
        have HE := Lib.hid (edgE_size h1 h2)
        clear h2
        go_wp2
        go_ret
        exact ⟨by rw [HE.out]; rfl, HB1.out⟩

set_option maxRecDepth 100000 in
set_option maxHeartbeats 8000000 in
theorem redges_any (v vr tv : Value) (X : List Int) (l : List BarD) (rs : List RunD) (w : World) (hp : Bars w v l) (hr : Runs w vr rs) (ht : Ints w tv X) (hl : l.length ≤ 140737488355328) (h : laidOk l rs = true) (hX : X.length = (lgsOf l rs).length) (h60 : (lgsOf l rs).length ≤ 60) (hax : ∀ k, k < (lgsOf l rs).length → axB (X.getD k 0) = true) :
    Calls Tryz.prog 52 #[v, vr, tv] w fun e w' => ∃ o, e = .returned o ∧ Hid (OwnPr w' w.heap.size o (edgL (lgsOf l rs) (szsOf l rs) X (lgsOf l rs).length (lgsOf l rs).length)) ∧ Below w.heap.size w w' := by
  have HBL := Lib.hid (fun (i k : Nat) (hi : i < (lgsOf l rs).length) (hk : k < (lgsOf l rs).length) W (hW : Below w.heap.size w W) => rblk_any v vr i k (X.getD i 0) l rs W (hp.below hW) (hr.below hW) hl h hi hk (hax i hi))
  obtain ⟨tpo, tc, rfl⟩ := Sl.at_ ht
  have HT := Lib.hid ht
  generalize lgsOf l rs = L at *
  generalize szsOf l rs = Z at *
  have HXL := Lib.hid hX
  rw [hX] at HT ⊢
  clear hp hr ht h hax hX
  go_enter Tryz.func52, Tryz.ntmps52
  go_wp2_with fail
  go_loopw [7, 8] (fun o c wr => ∃ i : Nat, i ≤ L.length ∧ c = .int .i64 (i : Int) ∧ Below w.heap.size w wr ∧ OwnPr wr w.heap.size o (edgL L Z X L.length i)) (fun _ c _ => L.length - (intOf c).toNat)
  case atStart => exact ⟨0, Nat.zero_le _, rfl, Below.refl _ _, OwnN.nil _ _ _ _ _⟩
  case round =>
    obtain ⟨i, hi, rfl, hBr, hown⟩ := hrel
    obtain ⟨wo, rfl⟩ : ∃ wo : World, wo = wr := ⟨_, rfl⟩
    have HBo := Lib.hid hBr
    have HWo := Lib.hid hown
    clear hBr hown
    by_cases hi2 : i < L.length
    · have HES := Lib.hid (edgL_succ L Z X L.length i)
      have HEL := edgL_len L Z X L.length i
      have HE0 : Hid (edgR L Z (X.getD i 0) i 0 = []) := rfl
      have HBI := Lib.hid (fun (k : Nat) (hk : k < L.length) W (hW : Below w.heap.size w W) => HBL.out i k hi2 hk W hW)
      generalize hx : X.getD i 0 = x at *
      obtain ⟨y, hy⟩ : ∃ y, X[i]? = some y := ⟨_, List.getElem?_eq_getElem (by have := HXL.out; omega)⟩
      obtain rfl : y = x := by rw [List.getD_eq_getElem?_getD, hy] at hx; exact hx
      have HY := Lib.hid hy
      generalize edgL L Z X L.length i = E0 at *
      have hE0 : E0.length ≤ 3600 := by
        have : i * L.length ≤ 60 * 60 := Nat.mul_le_mul (by omega) (by omega)
        omega
      clear hx hy HEL
      go_wp2_with fail
      go_loopw [7, 9] (fun o c wr => ∃ k : Nat, k ≤ L.length ∧ c = .int .i64 (k : Int) ∧ Below w.heap.size w wr ∧ OwnPr wr w.heap.size o (E0 ++ edgR L Z y i k)) (fun _ c _ => L.length - (intOf c).toNat)
      case atStart => exact ⟨0, Nat.zero_le _, rfl, HBo.out, by rw [HE0.out, List.append_nil]; exact HWo.out⟩
      case round =>
        clear HBo HWo HE0
        obtain ⟨k, hk, rfl, hBr, hown⟩ := hrel
        have HB := Lib.hid hBr
        have HW := Lib.hid hown
        clear hBr hown
        by_cases hk2 : k < L.length
        · have HSN := Lib.hid (edgR_succ L Z y i k)
          have hRl := edgR_len L Z y i k
          by_cases hik : i = k
          · have d3 : ((k : Int) != (i : Int)) = false := bne_no (by omega)
            rw [if_neg (fun h => h.1 hik), List.append_nil] at HSN
            clear hik
            go_wp2
            go_roundw
            case rel => exact ⟨k + 1, by omega, by go_num, HB.out, by rw [HSN.out]; exact HW.out⟩
            case measure => simp [intOf]; omega
          · have d3 : ((k : Int) != (i : Int)) = true := bne_yes (by omega)
            obtain ⟨tb, toff, rfl, htb, g0⟩ := zints_get (Sl.below HT.out HB.out) HY.out
            have HC := Lib.hid (HBI.out k hk2 wr HB.out)
            have i0 : (0 : Int) ≤ (i : Int) := by omega
            have i1 : (i : Int) < (L.length : Int) := by omega
            have HIK := Lib.hid hik
            generalize blkAt L Z y i k = q at *
            clear hik htb
            go_wp2_with fail
            refine HC.out.mono ?_
            rintro e w2 ⟨rfl, hb2⟩
            have HB2 := Lib.hid (bstep HB.out hb2)
            have HW2 := Lib.hid (OwnN.below HW.out hb2)
            have hbase : w.heap.size ≤ w2.heap.size := HB2.out.size
            clear hb2 HC g0
            cases q
            · rw [if_neg (fun h => by cases h.2), List.append_nil] at HSN
              go_wp2
              go_roundw
              case rel => exact ⟨k + 1, by omega, by go_num, HB2.out, by rw [HSN.out]; exact HW2.out⟩
              case measure => simp [intOf]; omega
            · rw [if_pos ⟨HIK.out, rfl⟩] at HSN
              have hln : (E0 ++ edgR L Z y i k).length + 1 ≤ 1099511627776 := by rw [List.length_append]; omega
              generalize hE1 : E0 ++ edgR L Z y i k = E1 at *
              have HE1 := Lib.hid hE1
              clear hE1
              go_wp2_with (at_builtin; refine wpList_pushAt _ w2.heap.size (by simp) rfl _ _ 27 rfl 33 2 16 elemPr w.heap.size prCells _ _ ((i : Int), (k : Int)) _ rfl rfl (pr_one _) HW2.out rfl rfl hln (by omega) hbase ?_; intro v' w' hown' hg' hat'; have HW9 := Lib.hid hown'; have HB9 := Lib.hid (HB2.out.grown hg' hbase (fun j hj => (HW2.out.lt j hj).1)); clear hown' hg' hat')
              go_roundw
              case rel => exact ⟨k + 1, by omega, by go_num, HB9.out, by rw [HSN.out, ← List.append_assoc, HE1.out]; exact HW9.out⟩
              case measure => simp [intOf]; omega
        · obtain rfl : k = L.length := by omega
          go_wp2
          go_roundw
          case rel => exact ⟨i + 1, by omega, by go_num, HB.out, by rw [HES.out]; exact HW.out⟩
          case measure => simp [intOf]; omega
    · obtain rfl : i = L.length := by omega
      go_wp2
      go_ret
      exact ⟨_, rfl, HWo.out, HBo.out⟩
end
end
end Go.Proofs.YtamogedpgkofjaaGreat
