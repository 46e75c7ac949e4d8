/-
  Which of the bars that are there block one: block.blocked, Blocked, Ways.
-/
import Derived.Test.YtnlloecbjohfdaaGreatBkU
namespace Go.Proofs.YtnlloecbjohfdaaGreat
open Go.RowKit
set_option linter.unusedVariables false
set_option linter.unusedSimpArgs false
attribute [local go_sem ↓] Go.wp_at_zero Go.wp_at_succ

set_option maxRecDepth 100000 in
set_option maxHeartbeats 4000000 in
theorem blocked_any (ov tv : Value) (L : List (List Bx)) (Z : List Int) (T : List Int) (i : Nat) (x : Int) (w : World) (ho : Rods w ov L Z) (ht : Ints w tv T) (hz : LzOk L Z) (hi : i < L.length) (hx : axB x = true) (hT : ∀ k ∈ T, 0 ≤ k ∧ k < (L.length : Int)) (hlt : T.length ≤ 1000000) :
    Calls Tryz.prog 92 #[ov, .int .i64 (i : Int), .int .i64 x, tv] w fun e w' => ∃ o, e = .returned o ∧ Hid (OwnI w' w.heap.size o (blkL L Z x i T)) ∧ Below w.heap.size w w' := by
  obtain ⟨oo, oc, rfl⟩ := ho.at_
  obtain ⟨tpo, tc, rfl⟩ := Sl.at_ ht
  have HO := Lib.hid ho
  have HT := Lib.hid ht
  have HIN := Lib.hid hT
  have HBL := Lib.hid (fun (k : Nat) (hk : k < L.length) u u' W hu hu' => blocks_any u u' (L.getD i []) (L.getD k []) (Z.getD i 0) (Z.getD k 0) x W hu hu' (hz.legs i hi).2.2 (hz.legs k hk).2.2 (by have := hz.legs i hi; omega) (by have := hz.legs k hk; omega) (hz.size i hi) (hz.size k hk) hx)
  have hLs := hz.small
  clear ho ht hT hz
  go_enter Tryz.func92, Tryz.ntmps92
  go_wp2_with fail
  go_loopw [9, 14] (fun o c wr => ∃ k : Nat, k ≤ T.length ∧ c = .int .i64 (k : Int) ∧ Below w.heap.size w wr ∧ OwnI wr w.heap.size o (blkL L Z x i (T.take k))) (fun _ c _ => T.length - (intOf c).toNat)
  case atStart => exact ⟨0, Nat.zero_le _, rfl, Below.refl _ _, Own.nil _ _ _ _⟩
  case round =>
    obtain ⟨k, hk, rfl, hBr, hown⟩ := hrel
    have HB := Lib.hid hBr
    have HW := Lib.hid hown
    clear hBr hown
    by_cases hk2 : k < T.length
    · obtain ⟨m, hm⟩ : ∃ y, T[k]? = some y := ⟨_, List.getElem?_eq_getElem hk2⟩
      obtain ⟨m0, m1⟩ := HIN.out m (List.mem_of_getElem? hm)
      obtain ⟨m, rfl⟩ : ∃ n : Nat, m = (n : Int) := ⟨m.toNat, by omega⟩
      have hmL : m < L.length := by omega
      obtain ⟨tb, toff, rfl, htb, g0⟩ := zints_get (Sl.below HT.out HB.out) hm
      obtain ⟨b, off, cap, u, u', hv, hbl, c0, c1, hu, d0, d1, hu'⟩ := rods_two (HO.out.below HB.out) hi hmL
      cases hv
      have HSN := Lib.hid (blkL_snoc L Z x i hm)
      rw [Int.toNat_natCast] at HSN
      have HBK : Hid (blkAt L Z x i m = blkP (L.getD i []) (L.getD m []) x ((Z.getD i 0 + Z.getD m 0) * (Z.getD i 0 + Z.getD m 0))) := rfl
      have HBM := Lib.hid (HBL.out m hmL)
      have hln : (blkL L Z x i (T.take k)).length + 1 ≤ 1099511627776 := by
        have h1 : (blkL L Z x i (T.take k)).length ≤ (T.take k).length := List.length_filter_le _ _
        rw [List.length_take] at h1
        omega
      have i0 : (0 : Int) ≤ (i : Int) := by omega
      have i1 : (i : Int) < (L.length : Int) := by omega
      have c0 := fun d os => cell_regrown c0 d os
      have c1 := fun d os => cell_regrown c1 d os
      have d0 := fun d os => cell_regrown d0 d os
      have d1 := fun d os => cell_regrown d1 d os
      have HU := Lib.hid hu
      have HU' := Lib.hid hu'
      generalize blkP (L.getD i []) (L.getD m []) x ((Z.getD i 0 + Z.getD m 0) * (Z.getD i 0 + Z.getD m 0)) = q at *
      generalize Z.getD i 0 = zi at *
      generalize Z.getD m 0 = zm at *
      generalize L.getD i [] = Li at *
      generalize L.getD m [] = Lm at *
      rw [HBK.out] at HSN
      clear hm hu hu' hbl htb HBL HBK HIN
      cases q
      · go_wp2_with fail
        refine wp_region_quiet_below (by kernel_rfl) (by kernel_rfl) ?_
        repeat (go_big_quiet_step ((first
          | (go_at_call 65; exact Calls.regrown_of (HBM.out _ _ _ (HU.out.below (below_regrown _ _ _)) (HU'.out.below (below_regrown _ _ _)))))))
        refine wpQuiet_nil ?_
        intro _ hw'
        obtain ⟨⟨nq, osq⟩, hw''⟩ := hw'
        subst hw''
        have HB2 := Lib.hid (bstep HB.out (below_regrown wr nq osq))
        have HW2 := Lib.hid (HW.out.below (below_regrown wr nq osq))
        clear c0 c1 d0 d1 HBM
        generalize Go.Sort.grow (redrawn wr nq) osq = W2 at *
        go_wp2
        go_roundw
        case rel => exact ⟨k + 1, by omega, by go_num, HB2.out, by rw [HSN.out]; simpa using HW2.out⟩
        case measure => simp [intOf]; omega
      · go_wp2_with fail
        refine wp_region_quiet_below (by kernel_rfl) (by kernel_rfl) ?_
        repeat (go_big_quiet_step ((first
          | (go_at_call 65; exact Calls.regrown_of (HBM.out _ _ _ (HU.out.below (below_regrown _ _ _)) (HU'.out.below (below_regrown _ _ _)))))))
        refine wpQuiet_nil ?_
        intro _ hw'
        obtain ⟨⟨nq, osq⟩, hw''⟩ := hw'
        subst hw''
        have HB2 := Lib.hid (bstep HB.out (below_regrown wr nq osq))
        have HW2 := Lib.hid (HW.out.below (below_regrown wr nq osq))
        clear c0 c1 d0 d1 HBM
        generalize Go.Sort.grow (redrawn wr nq) osq = W2 at *
        have hbase : w.heap.size ≤ W2.heap.size := HB2.out.size
        go_wp2_with (at_builtin; refine wpList_pushO W2 W2.heap.size rfl rfl _ _ 43 rfl 3 8 elemInt w.heap.size intv _ _ (m : Int) rfl HW2.out rfl rfl hln (by omega) hbase ?_; intro v' w' hown' hg' hat'; have HW9 := Lib.hid hown'; have HB9 := Lib.hid (HB2.out.grown hg' hbase (fun j hj => (HW2.out.lt j hj).1)); clear hown' hg' hat')
        go_roundw
        case rel => exact ⟨k + 1, by omega, by go_num, HB9.out, by rw [HSN.out]; exact HW9.out⟩
        case measure => simp [intOf]; omega
    · obtain rfl : k = T.length := by omega
      rw [List.take_length] at HW
      go_wp2
      go_ret
      exact ⟨_, rfl, HW.out, HB.out⟩

/-! ### Blocked -/
def BlkdPost (w : World) (c : Int) (R : List Int) (e : Ending) (w' : World) : Prop := ∃ o, e = .returned (.tuple #[o, .int .i64 c]) ∧ (c = 0 → OwnI w' w.heap.size o R) ∧ (c ≠ 0 → o = .slice none 0 0) ∧ Below w.heap.size w w'
theorem blockedI_bad (v vr : Value) (i x : Int) (tv : Value) (l : List BarD) (rs : List RunD) (w : World) (hp : Bars w v l) (hr : Runs w vr rs) (hl : l.length ≤ 140737488355328) (hlr : rs.length ≤ 140737488355328) (hf : FitB l) (h : laidOk l rs = false) :
    Calls Tryz.prog 45 #[v, vr, .int .i64 i, .int .i64 x, tv] w (BlkdPost w 1 []) := by
  have HB := Lib.hid (others_bad v vr i x tv l rs w hp hr hl hlr hf h)
  clear hp hr h
  go_enter Tryz.func45, Tryz.ntmps45
  go_wp2_with fail
  refine HB.out.mono ?_
  rintro e w1 ⟨rfl, hb1⟩
  have HB1 := Lib.hid hb1
  clear hb1
  go_wp2
  go_ret2
  exact ⟨_, rfl, fun h => by omega, fun _ => rfl, HB1.out⟩
set_option maxHeartbeats 4000000 in
theorem blockedI_good (v vr : Value) (i x : Int) (tv : Value) (T : List Int) (l : List BarD) (rs : List RunD) (w : World) (hp : Bars w v l) (hr : Runs w vr rs) (ht : Ints w tv T) (hl : l.length ≤ 140737488355328) (hlr : rs.length ≤ 140737488355328) (hlt : T.length ≤ 1000000) (hf : FitB l) (h : laidOk l rs = true) :
    Calls Tryz.prog 45 #[v, vr, .int .i64 i, .int .i64 x, tv] w (BlkdPost w (othE (lgsOf l rs).length i x T) (blkL (lgsOf l rs) (szsOf l rs) x i.toNat T)) := by
  have HB := Lib.hid (others_good v vr i x tv T l rs w hp hr ht hl hlr hlt hf h)
  have HLZ := Lib.hid (lzOk_of h)
  have HT := Lib.hid ht
  generalize lgsOf l rs = L at *
  generalize szsOf l rs = Z at *
  clear hp hr h hf ht
  by_cases hc : othE L.length i x T = 0
  · obtain ⟨⟨i0, i1⟩, hT, hx, hnd⟩ := othE_zero hc
    obtain ⟨i, rfl⟩ : ∃ n : Nat, i = (n : Int) := ⟨i.toNat, by omega⟩
    have HBK := Lib.hid (fun ov W (h1 : Rods W ov L Z) (h2 : Ints W tv T) => blocked_any ov tv L Z T i x W h1 h2 HLZ.out (by omega) hx hT hlt)
    rw [hc] at HB ⊢
    rw [Int.toNat_natCast]
    clear hc hT hx hnd HLZ
    go_enter Tryz.func45, Tryz.ntmps45
    go_wp2_with fail
    refine HB.out.mono ?_
    rintro e w1 ⟨o, rfl, ho, hb1⟩
    have HO := Lib.hid (ho rfl)
    have HB1 := Lib.hid hb1
    have HT1 := Lib.hid (Sl.below HT.out hb1)
    clear hb1 ho HB
    go_wp2_with fail
    refine (HBK.out _ _ HO.out HT1.out).mono ?_
    rintro e w2 ⟨o2, rfl, HO2, hb2⟩
    have HB2 := Lib.hid (bstep HB1.out hb2)
    have hz := HB1.out.size
    clear hb2
    go_wp2
    go_ret2
    exact ⟨_, rfl, fun _ => HO2.out.mono hz, fun h => absurd rfl h, HB2.out⟩
  · have hcb : (othE L.length i x T != 0) = true := bne_yes hc
    generalize othE L.length i x T = c at *
    have HC := Lib.hid hc
    clear hc
    go_enter Tryz.func45, Tryz.ntmps45
    go_wp2_with fail
    refine HB.out.mono ?_
    rintro e w1 ⟨o, rfl, ho, hb1⟩
    have HB1 := Lib.hid hb1
    clear hb1 ho HB
    go_wp2
    go_ret2
    exact ⟨_, rfl, fun h => absurd h HC.out, fun _ => rfl, HB1.out⟩

/-! ### Ways -/
def waysN (L : List (List Bx)) (Z : List Int) (i : Nat) (T : List Int) (k : Nat) : List Int := (axesL.take k).filter fun x => (blkL L Z x i T).isEmpty
theorem waysN_snoc (L : List (List Bx)) (Z : List Int) (i : Nat) (T : List Int) {k : Nat} {x : Int} (h : axesL[k]? = some x) : waysN L Z i T (k + 1) = waysN L Z i T k ++ if (blkL L Z x i T).isEmpty then [x] else [] := by
  have hk := (List.getElem?_eq_some_iff.1 h).1
  unfold waysN
  rw [List.take_succ_eq_append_getElem hk, List.filter_append, (List.getElem?_eq_some_iff.1 h).2]
  congr 1
  cases hb : (blkL L Z x i T).isEmpty <;> simp [hb]
theorem waysI_bad (v vr : Value) (i : Int) (tv : Value) (l : List BarD) (rs : List RunD) (w : World) (hp : Bars w v l) (hr : Runs w vr rs) (hl : l.length ≤ 140737488355328) (hlr : rs.length ≤ 140737488355328) (hf : FitB l) (h : laidOk l rs = false) :
    Calls Tryz.prog 46 #[v, vr, .int .i64 i, tv] w (BlkdPost w 1 []) := by
  have HB := Lib.hid (others_bad v vr i 1 tv l rs w hp hr hl hlr hf h)
  clear hp hr h
  go_enter Tryz.func46, Tryz.ntmps46
  go_wp2_with fail
  refine HB.out.mono ?_
  rintro e w1 ⟨rfl, hb1⟩
  have HB1 := Lib.hid hb1
  clear hb1
  go_wp2
  go_ret2
  exact ⟨_, rfl, fun h => by omega, fun _ => rfl, HB1.out⟩
set_option maxHeartbeats 4000000 in
theorem waysI_good (v vr : Value) (i : Int) (tv : Value) (T : List Int) (l : List BarD) (rs : List RunD) (w : World) (hp : Bars w v l) (hr : Runs w vr rs) (ht : Ints w tv T) (hl : l.length ≤ 140737488355328) (hlr : rs.length ≤ 140737488355328) (hlt : T.length ≤ 1000000) (hf : FitB l) (h : laidOk l rs = true) :
    Calls Tryz.prog 46 #[v, vr, .int .i64 i, tv] w (BlkdPost w (othE (lgsOf l rs).length i 1 T) (waysL (lgsOf l rs) (szsOf l rs) i.toNat T)) := by
  have HB := Lib.hid (others_good v vr i 1 tv T l rs w hp hr ht hl hlr hlt hf h)
  have HLZ := Lib.hid (lzOk_of h)
  have HT := Lib.hid ht
  generalize lgsOf l rs = L at *
  generalize szsOf l rs = Z at *
  clear hp hr h hf ht
  by_cases hc : othE L.length i 1 T = 0
  · obtain ⟨⟨i0, i1⟩, hT, hx, hnd⟩ := othE_zero hc
    obtain ⟨i, rfl⟩ : ∃ n : Nat, i = (n : Int) := ⟨i.toNat, by omega⟩
    have HBK := Lib.hid (fun x (hx : axB x = true) ov W (h1 : Rods W ov L Z) (h2 : Ints W tv T) => blocked_any ov tv L Z T i x W h1 h2 HLZ.out (by omega) hx hT hlt)
    rw [hc] at HB ⊢
    rw [Int.toNat_natCast]
    clear hc hT hx hnd HLZ
    have HWL : Hid (waysN L Z i T 6 = waysL L Z i T) := rfl
    go_enter Tryz.func46, Tryz.ntmps46
    go_wp2_with fail
    refine HB.out.mono ?_
    rintro e w1 ⟨o, rfl, ho, hb1⟩
    have HO := Lib.hid (ho rfl)
    have HB1 := Lib.hid hb1
    have HT1 := Lib.hid (Sl.below HT.out hb1)
    clear hb1 ho HB
    go_wp2_with fail
    refine (axes_any _).mono ?_
    rintro e w2 ⟨rfl, hax, hb2⟩
    have HO2 := Lib.hid (HO.out.below hb2)
    have HB2 := Lib.hid (bstep HB1.out hb2)
    have HT2 := Lib.hid (Sl.below HT1.out hb2)
    have HAX := Lib.hid hax
    clear hb2 hax HO HB1 HT1
    go_wp2_with fail
    go_loopw [12, 28] (fun o c wr => ∃ k : Nat, k ≤ 6 ∧ c = .int .i64 (k : Int) ∧ Below w2.heap.size w2 wr ∧ OwnI wr w2.heap.size o (waysN L Z i T k)) (fun _ c _ => 6 - (intOf c).toNat)
    case atStart => exact ⟨0, by omega, rfl, Below.refl _ _, Own.nil _ _ _ _⟩
    case round =>
      obtain ⟨k, hk, rfl, hBr, hown⟩ := hrel
      have HBr := Lib.hid hBr
      have HW := Lib.hid hown
      clear hBr hown
      by_cases hk2 : k < 6
      · obtain ⟨x, hx⟩ : ∃ y, axesL[k]? = some y := ⟨_, List.getElem?_eq_getElem hk2⟩
        have hxa : axB x = true := (axes_mem x).1 (List.mem_of_getElem? hx)
        obtain ⟨ab, aoff, ha, hab, g0⟩ := zints_get (Sl.below HAX.out HBr.out) hx
        cases ha
        rw [Nat.zero_add] at g0
        have HSN := Lib.hid (waysN_snoc L Z i T hx)
        have HC := Lib.hid (HBK.out x hxa _ wr (HO2.out.below HBr.out) (Sl.below HT2.out HBr.out))
        have hln : (waysN L Z i T k).length + 1 ≤ 1099511627776 := by
          have h1 : (waysN L Z i T k).length ≤ (axesL.take k).length := List.length_filter_le _ _
          rw [List.length_take] at h1
          omega
        clear hx hxa hab
        generalize blkL L Z x i T = R at *
        go_wp2_with fail
        refine HC.out.mono ?_
        rintro e w4 ⟨o4, rfl, HO4, hb4⟩
        obtain ⟨oo, oc, rfl⟩ := HO4.out.shape
        have HB4 := Lib.hid (bstep HBr.out hb4)
        have HW4 := Lib.hid (HW.out.below hb4)
        have hbase : w2.heap.size ≤ w4.heap.size := HB4.out.size
        clear hb4 HC g0
        cases R with
        | nil =>
          go_wp2_with (at_builtin; refine wpList_pushO w4 w4.heap.size rfl rfl _ _ 43 rfl 3 8 elemInt w2.heap.size intv _ _ x rfl HW4.out rfl rfl hln (by omega) hbase ?_; intro v' w' hown' hg' hat'; have HW9 := Lib.hid hown'; have HB9 := Lib.hid (HB4.out.grown hg' hbase (fun j hj => (HW4.out.lt j hj).1)); clear hown' hg' hat')
          go_roundw
          case rel => exact ⟨k + 1, by omega, by go_num, HB9.out, by rw [HSN.out]; exact HW9.out⟩
          case measure => simp [intOf]; omega
        | cons y R =>
          have hne : (((y :: R).length : Int) == 0) = false := beq_no (by simp; omega)
          generalize (y :: R).length = yl at *
          go_wp2
          go_roundw
          case rel => exact ⟨k + 1, by omega, by go_num, HB4.out, by rw [HSN.out]; simpa using HW4.out⟩
          case measure => simp [intOf]; omega
      · obtain rfl : k = 6 := by omega
        rw [HWL.out] at HW
        have hz : w.heap.size ≤ w2.heap.size := HB2.out.size
        go_wp2
        go_ret2
        exact ⟨_, rfl, fun _ => HW.out.mono hz, fun h => absurd rfl h, bstep HB2.out HBr.out⟩
  · have hcb : (othE L.length i 1 T != 0) = true := bne_yes hc
    generalize othE L.length i 1 T = c at *
    have HC := Lib.hid hc
    clear hc
    go_enter Tryz.func46, Tryz.ntmps46
    go_wp2_with fail
    refine HB.out.mono ?_
    rintro e w1 ⟨o, rfl, ho, hb1⟩
    have HB1 := Lib.hid hb1
    clear hb1 ho HB
    go_wp2
    go_ret2
    exact ⟨_, rfl, fun h => absurd h HC.out, fun _ => rfl, HB1.out⟩
end Go.Proofs.YtnlloecbjohfdaaGreat
