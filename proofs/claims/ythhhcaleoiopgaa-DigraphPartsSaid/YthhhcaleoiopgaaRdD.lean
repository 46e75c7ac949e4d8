/-
  Reference 08: Longest.
-/
import Derived.Test.YthhhcaleoiopgaaRdC
import Derived.Test.YthhhcaleoiopgaaRdB
namespace Go.Proofs.Ythhhcaleoiopgaa
open Go.RowKit
set_option linter.unusedVariables false
attribute [local go_sem ↓] Go.wp_at_zero Go.wp_at_succ

def RLongPost (w : World) (n : Nat) (es : List (Nat × Nat)) (ws : List Int) (D : List Nat) (e : Ending) (w' : World) : Prop :=
  ∃ v, e = .returned (.tuple #[.int .i64 (if n = 0 then 0 else (longOf n es ws D).1), v]) ∧ Own w' w.heap.size 3 natf v (if n = 0 then [] else (longOf n es ws D).2) ∧ Below w.heap.size w w'

theorem ints_get {w : World} {ao : Option Addr} {n cap k : Nat} {l : List Int} {x : Int} (h : Ints w (.slice ao n cap) l) (hk : l[k]? = some x) :
    ∃ b off, ao = some ⟨b, off, none⟩ ∧ b < w.heap.size ∧ w.cell? ⟨b, off + k, none⟩ = some (.int .i64 x) := by
  obtain ⟨ao', cap', hv, h2⟩ := h
  cases hv
  obtain ⟨b, off, rfl, hlt, hc⟩ := h2 (by have := (List.getElem?_eq_some_iff.1 hk).1; omega)
  exact ⟨b, off, rfl, hlt, hc k x hk⟩

structure RP (W3 : World) (v : Value) (out : List Nat) (wr : World) : Prop where
  low : Below W3.heap.size W3 wr
  out_ : Own wr W3.heap.size 3 natf v out

set_option maxRecDepth 100000 in
set_option maxHeartbeats 8000000 in
theorem rlongest_any (n : Nat) (v vw : Value) (es : List (Nat × Nat)) (ws : List Int) (D : List Nat) (w : World) (hL : LongSets w n v es vw ws) (hD : orderOf n es = some D) :
    Calls Try.prog 16 #[.int .i64 (n : Int), v, vw] w (RLongPost w n es ws D) := by
  obtain ⟨hg, hw, hwl, hwb⟩ := hL
  have hn60 := hg.n_le
  have hm := hg.m_le
  have HG := Lib.hid hg
  have HW := Lib.hid hw
  have HWL := Lib.hid hwl
  have HWB := Lib.hid hwb
  have HD := Lib.hid hD
  have hDl := (ordTo_ok n D hD).1
  have HDL := Lib.hid hDl
  have HDN := Lib.hid (ordTo_ok n D hD).2.lt
  have hwg : ∀ k, 0 ≤ ws.getD k 0 ∧ ws.getD k 0 ≤ 1073741824 := fun k => by
    rw [List.getD_eq_getElem?_getD]
    cases hk : ws[k]? with
    | none => simp
    | some y => exact HWB.out y (List.mem_of_getElem? hk)
  have HWG := Lib.hid hwg
  have hbA : ∀ t k, 0 ≤ (bestTo n es ws (D.drop t).reverse).getD k 0 ∧ (bestTo n es ws (D.drop t).reverse).getD k 0 ≤ 64424509440 := fun t k => by
    have := bestTo_bd (n := n) (es := es) hwg (D.drop t).reverse k
    rw [List.length_reverse, List.length_drop, hDl] at this
    omega
  have HBA := Lib.hid hbA
  obtain ⟨eao, ecap, rfl, _⟩ := hg.pairs.open_
  obtain ⟨wo, wcap, rfl, _⟩ := hw
  have HRO := Lib.hid (rorder_any n _ es w HG.out)
  unfold ROrderPost at HRO
  rw [hD] at HRO
  rw [hwl] at HW ⊢
  have hmk := fun W => run_make_one (P := Try.prog) 23 3 8 (.int .i64 0) Try.underlying23 (by kernel_rfl) (by omega) n (by omega) W
  clear hg hD hwl hwb hwg hbA hDl
  go_enter Try.func16, Try.ntmps16
  go_wp2_with fail
  refine HRO.out.mono ?_
  rintro e w1 ⟨⟨uo, rfl, huo⟩, hB1⟩
  have HU := Lib.hid huo.sl
  obtain ⟨oo, oc, rfl⟩ := huo.shape
  rw [HDL.out] at HU ⊢
  clear huo HRO
  have hR0 : Hid (RC w1 n (bestTo n es ws (D.drop n).reverse) (w1.alloc (.cells (madeCells (Value.int .i64 0).cells n) 3))) := by
    refine ⟨below_new _ _, ?_⟩
    have := own_made w1 3 intf 0 (.int .i64 0) rfl n (by omega) w1.heap.size (Nat.le_refl _)
    rw [List.drop_of_length_le (by have := HDL.out; omega)]
    exact this
  go_wp2_with fail
  go_loopw [11, 12, 13, 14] (fun s11 _ _ _ wr => ∃ t : Nat, t ≤ n ∧ s11 = .int .i64 ((t : Int) - 1) ∧ Hid (RC w1 n (bestTo n es ws (D.drop t).reverse) wr)) (fun s11 _ _ _ _ => (intOf s11 + 1).toNat)
  case atStart => exact ⟨n, Nat.le_refl _, rfl, hR0.out⟩
  case round =>
    clear hR0
    obtain ⟨t, htn, rfl, HI⟩ := hrel
    by_cases ht0 : t = 0
    · subst ht0
      have HA : Hid (RC w1 n (bestOf n es ws D) wr) := HI.out
      have hAl := bestOf_len n es ws D
      have hA0 : ∀ k, 0 ≤ (bestOf n es ws D).getD k 0 ∧ (bestOf n es ws D).getD k 0 ≤ 64424509440 := fun k => HBA.out 0 k
      have HA0 := Lib.hid hA0
      obtain ⟨A, hAe⟩ : ∃ A, bestOf n es ws D = A := ⟨_, rfl⟩
      rw [hAe] at HA HA0 hAl
      have HAE := Lib.hid hAe
      have HAL := Lib.hid hAl
      clear HI hA0 hAe hAl
      by_cases hn0 : n = 0
      · subst hn0
        have hBw := bstep hB1 HA.out.low
        go_wp2
        go_ret2
        exact ⟨_, rfl, Own.nil _ _ _ _, hBw⟩
      · have hnb : ((n : Int) == 0) = false := beq_no (by omega)
        have hnz : ¬ ((((0 : Nat) : Int) - 1) ≥ 0) := by omega
        have e01 : (((0 : Nat) : Int) - 1) = -1 := rfl
        rw [e01]
        obtain ⟨w2, rfl⟩ : ∃ w2 : World, w2 = wr := ⟨_, rfl⟩
        have hgl := (HA.out.own.lt w1.heap.size rfl).2
        go_wp2_with fail
        obtain ⟨M0, hM0⟩ : ∃ z, A[0]? = some z := ⟨_, List.getElem?_eq_getElem (by have := HAL.out; omega)⟩
        have HS0 : Hid (A[0]? = some M0 ∧ (∀ (j : Nat) y, j < 1 → A[j]? = some y → y ≤ M0) ∧ ∀ (j : Nat) y, j < 0 → A[j]? = some y → y < M0) := by
          refine ⟨hM0, fun j y hj hy => ?_, fun j y hj => by omega⟩
          obtain rfl : j = 0 := by omega
          rw [hM0] at hy; cases hy; exact Int.le_refl _
        clear hM0 hnz e01
        go_loopw [15, 16] (fun s15 s16 wr => ∃ (i x : Nat) (M : Int), 1 ≤ i ∧ i ≤ n ∧ x < i ∧ s16 = .int .i64 (i : Int) ∧ s15 = .int .i64 (x : Int) ∧ Below w2.heap.size w2 wr ∧ Hid (A[x]? = some M ∧ (∀ (j : Nat) y, j < i → A[j]? = some y → y ≤ M) ∧ ∀ (j : Nat) y, j < x → A[j]? = some y → y < M)) (fun _ s16 _ => n - (intOf s16).toNat)
        case atStart => exact ⟨1, 0, M0, by omega, by omega, by omega, rfl, rfl, Below.refl _ _, HS0.out⟩
        case round =>
          clear HS0
          obtain ⟨i, x, M, hi1, hin, hxi, rfl, rfl, hB, HS⟩ := hrel
          by_cases hlt : i < n
          · obtain ⟨z, hz⟩ : ∃ z, A[i]? = some z := ⟨_, List.getElem?_eq_getElem (by have := HAL.out; omega)⟩
            have c1 := (hB.cell (p := ⟨w1.heap.size, i, none⟩) hgl).trans (HA.out.own.cell hz)
            have c2 := (hB.cell (p := ⟨w1.heap.size, x, none⟩) hgl).trans (HA.out.own.cell HS.out.1)
            unfold intf at c1 c2
            have i0 : (0 : Int) ≤ (i : Int) := Int.natCast_nonneg _
            have i1 : (i : Int) < (n : Int) := by omega
            have x0 : (0 : Int) ≤ (x : Int) := Int.natCast_nonneg _
            have x1 : (x : Int) < (n : Int) := by omega
            have HZ := Lib.hid hz
            clear hz
            by_cases hMz : M < z
            · have HN : Hid (A[i]? = some z ∧ (∀ (j : Nat) y, j < i + 1 → A[j]? = some y → y ≤ z) ∧ ∀ (j : Nat) y, j < i → A[j]? = some y → y < z) := by
                refine ⟨HZ.out, fun j y hj hy => ?_, fun j y hj hy => by have := HS.out.2.1 j y hj hy; omega⟩
                by_cases e : j = i
                · subst e; rw [HZ.out] at hy; cases hy; exact Int.le_refl _
                · have := HS.out.2.1 j y (by omega) hy; omega
              go_wp2
              go_quiet (fail)
              go_wp2
              go_roundw
              case rel => exact ⟨i + 1, i, z, by omega, by omega, by omega, by go_num, rfl, below_drewN' hB _, HN.out⟩
              case measure => simp [intOf]; omega
            · have HN : Hid (A[x]? = some M ∧ (∀ (j : Nat) y, j < i + 1 → A[j]? = some y → y ≤ M) ∧ ∀ (j : Nat) y, j < x → A[j]? = some y → y < M) := by
                refine ⟨HS.out.1, fun j y hj hy => ?_, HS.out.2.2⟩
                by_cases e : j = i
                · subst e; rw [HZ.out] at hy; cases hy; omega
                · exact HS.out.2.1 j y (by omega) hy
              go_wp2
              go_quiet (fail)
              go_wp2
              go_roundw
              case rel => exact ⟨i + 1, x, M, by omega, by omega, by omega, by go_num, rfl, below_drewN' hB _, HN.out⟩
              case measure => simp [intOf]; omega
          · obtain rfl : i = n := by omega
            have HMX : Hid (Lib.maxOf A = M ∧ idxOf A M = (x : Int)) := by
              have hm := maxOf_mem A (by have := HAL.out; omega)
              have e : Lib.maxOf A = M := by
                obtain ⟨j, hj⟩ := List.mem_iff_getElem?.1 hm.1
                have h1 := HS.out.2.1 j _ (by have := (List.getElem?_eq_some_iff.1 hj).1; have := HAL.out; omega) hj
                have h2 := hm.2 M (List.mem_of_getElem? HS.out.1)
                omega
              exact ⟨e, idxOf_hit A M x (fun j y hj hy => by have := HS.out.2.2 j y hj hy; omega) HS.out.1⟩
            obtain ⟨y0, hy0⟩ : ∃ y, ws[x]? = some y := ⟨_, List.getElem?_eq_getElem (by have := HWL.out; omega)⟩
            have hby := HWB.out y0 (List.mem_of_getElem? hy0)
            obtain ⟨wb, woff, rfl, hwl2, _⟩ := ints_get HW.out hy0
            have hBw := bstep (bstep hB1 HA.out.low) hB
            have HWC : Hid (∀ (k : Nat) y, ws[k]? = some y → wr.cell? ⟨wb, woff + k, none⟩ = some (.int .i64 y)) := fun k y hk => by
              obtain ⟨b', off', e', _, h2⟩ := ints_get HW.out hk
              cases e'
              exact (hBw.cell (p := ⟨wb, woff + k, none⟩) hwl2).trans h2
            have HAC : Hid (∀ (k : Nat) z, A[k]? = some z → wr.cell? ⟨w1.heap.size, k, none⟩ = some (.int .i64 z)) := fun k z hk => (hB.cell (p := ⟨w1.heap.size, k, none⟩) hgl).trans (HA.out.own.cell hk)
            have hM0 := HA0.out x
            rw [List.getD_eq_getElem?_getD, HS.out.1, Option.getD_some] at hM0
            have hbs := hB.size
            have hws := hBw.size
            have HY0 := Lib.hid hy0
            have c1 := HAC.out x M HS.out.1
            have c2 := HWC.out x y0 hy0
            have x0 : (0 : Int) ≤ (x : Int) := Int.natCast_nonneg _
            have x1 : (x : Int) < (i : Int) := by omega
            obtain ⟨w3, rfl⟩ : ∃ w3 : World, w3 = wr := ⟨_, rfl⟩
            have c2' : (w3.alloc (.cells #[.int .i64 (x : Int)] 3)).cell? ⟨wb, woff + x, none⟩ = some (.int .i64 y0) := (World.cell?_alloc_lt _ _ _ (show wb < w3.heap.size by omega)).trans c2
            have HRP0 : Hid (RP w3 (.slice (some ⟨w3.heap.size, 0, none⟩) 1 1) [x] (w3.alloc (.cells #[.int .i64 (x : Int)] 3))) := ⟨below_new _ _, own_lit w3 3 natf x w3.heap.size (Nat.le_refl _)⟩
            have HFULL : Hid (x :: longWalk i es ws A i x (M - y0) = (longOf i es ws D).2 ∧ (longOf i es ws D).1 = M ∧ M - y0 = A.getD x 0 - ws.getD x 0) := by
              have e1 : ws.getD x 0 = y0 := by rw [List.getD_eq_getElem?_getD, HY0.out]; rfl
              have e2 : A.getD x 0 = M := by rw [List.getD_eq_getElem?_getD, HS.out.1]; rfl
              refine ⟨?_, ?_, by rw [e1, e2]⟩
              · unfold longOf
                simp only [HAE.out, HMX.out.1, HMX.out.2, Int.toNat_natCast, e1]
              · unfold longOf
                simp only [HAE.out, HMX.out.1]
            clear hy0
            go_wp2_with fail
            clear c1 c2 c2'
            go_loopg [15, 18, 19, 20, 21] i (fun f s15 s18 s19 _ _ wr => ∃ (x : Nat) (o : List Nat) (r : Int), s15 = .int .i64 (x : Int) ∧ s19 = .int .i64 r ∧ x < i ∧ o.length + f ≤ i + 1 ∧ Hid (RP w3 s18 o wr ∧ o ++ longWalk i es ws A f x r = (longOf i es ws D).2 ∧ r = A.getD x 0 - ws.getD x 0 ∧ i ≤ f + D.idxOf x + 1))
            case atStart => exact ⟨x, [x], M - y0, rfl, rfl, hxi, by simp; omega, HRP0.out, HFULL.out.1, HFULL.out.2.2, by omega⟩
            case round =>
              clear HRP0
              obtain ⟨x, o, r, rfl, rfl, hxn, hol, HI⟩ := hrel
              have hlow := HI.out.1.low
              have hlows := hlow.size
              by_cases hr0 : r ≤ 0
              · have HE := Lib.hid (show o = (longOf i es ws D).2 by have := HI.out.2.1; rw [longWalk_end hr0, List.append_nil] at this; exact this)
                have hr1 : ¬ 0 < r := by omega
                have HBW := Lib.hid (bstep hBw hlow)
                go_wp2
                go_ret2
                refine ⟨u18, ?_, ?_, HBW.out⟩
                · rw [if_neg hn0, HFULL.out.2.1]; rfl
                · rw [if_neg hn0, ← HE.out]
                  exact HI.out.1.out_.mono hws
              · have hr1 : 0 < r := by omega
                have hrb : r ≤ 64424509440 := by have := (HA0.out x).2; have := (HWG.out x).1; have := HI.out.2.2.1; omega
                have hex : ∃ k ∈ nextsS i es x, (fun k => A.getD k 0 == r) k = true := by
                  obtain ⟨k, hk, h⟩ := long_next (ws := ws) HD.out hxn (r := r) (by rw [HAE.out]; exact HI.out.2.2.1) hr1
                  rw [HAE.out] at h
                  exact ⟨k, hk, by simpa using h⟩
                obtain ⟨j, k, hj, hpk, hno, hfind⟩ := find_at hex
                have hpk' : A.getD k 0 = r := by simpa using hpk
                have hke := ord_edge HD.out (List.mem_of_getElem? hj)
                have hidx : D.idxOf k < i := by have := List.idxOf_lt_length_of_mem hke.2.1; have := HDL.out; omega
                obtain ⟨f, rfl⟩ : ∃ f, gk = f + 1 := ⟨gk - 1, by have := HI.out.2.2.2; omega⟩
                have hkn : k < i := (nextsS_mem.1 (List.mem_of_getElem? hj)).1
                have hWS := longWalk_step (n := i) (es := es) (ws := ws) (A := A) (f := f) hr1 hfind
                have HST := Lib.hid (show (o ++ [k]) ++ longWalk i es ws A f k (r - ws.getD k 0) = (longOf i es ws D).2 by
                  have := HI.out.2.1
                  rw [hWS] at this
                  rw [List.append_assoc]; exact this)
                have HIN := Lib.hid (show i ≤ f + D.idxOf k + 1 by have := HI.out.2.2.2; omega)
                have HDN2 := Lib.hid (downF_nexts x hfind)
                obtain ⟨yk, hyk⟩ : ∃ y, ws[k]? = some y := ⟨_, List.getElem?_eq_getElem (by have := HWL.out; omega)⟩
                have hbyk := HWB.out yk (List.mem_of_getElem? hyk)
                have HYK := Lib.hid (And.intro (show ws.getD k 0 = yk by rw [List.getD_eq_getElem?_getD, hyk]; rfl) hyk)
                have HPK := Lib.hid hpk'
                have HNC := Lib.hid (rnext_any i x _ es wr (HG.out.below (bstep hBw hlow)) (by omega))
                clear hex hj hpk hpk' hno hfind hWS hyk hke
                obtain ⟨wq, rfl⟩ : ∃ wq : World, wq = wr := ⟨_, rfl⟩
                go_wp2_with fail
                refine HNC.out.mono ?_
                rintro e w4 ⟨rfl, ho4, hb4⟩
                have HO4 := Lib.hid ho4
                clear HNC ho4
                go_wp2_with fail
                go_loop [15, 21] (fun s15 s21 => ∃ t : Nat, t ≤ i ∧ s21 = .int .i64 ((t : Int) - 1) ∧ s15 = .int .i64 ((downF (fun q => toB es x q && (A.getD q 0 == r)) i t x : Nat) : Int)) (fun _ s21 => (intOf s21 + 1).toNat)
                case atStart => exact ⟨i, Nat.le_refl _, rfl, by rw [downF_top]⟩
                case round =>
                  obtain ⟨t, hti, rfl, rfl⟩ := hrel
                  by_cases ht0 : t = 0
                  · subst ht0
                    rw [HDN2.out]
                    have e01 : (((0 : Nat) : Int) - 1) = -1 := rfl
                    rw [e01]
                    have hlen1 : o.length + 1 ≤ 1099511627776 := by omega
                    have hbase : w3.heap.size ≤ w4.heap.size := by have := hb4.size; omega
                    have HP4 : Hid (RP w3 u18 o w4) := ⟨bstep hlow hb4, HI.out.1.out_.below hb4⟩
                    have c5 := HWC.out k yk HYK.out.2
                    have k0 : (0 : Int) ≤ (k : Int) := Int.natCast_nonneg _
                    have k1 : (k : Int) < (i : Int) := by omega
                    clear e01
                    go_wp2_with (at_builtin; refine wpList_push w4 rfl _ _ 23 rfl 3 8 elemInt w3.heap.size natf _ o k rfl HP4.out.out_ rfl rfl hlen1 (by omega) hbase ?_; intro v' w' hown' hg' hat'; have HP5 : Hid (RP w3 v' (o ++ [k]) w') := ⟨below_grown HP4.out.low hg' HP4.out.low.size (fun g e => (HP4.out.out_.lt g e).1), hown'⟩; have c6 := (HP5.out.low.cell (p := ⟨wb, woff + k, none⟩) (show wb < w3.heap.size by omega)).trans c5)
                    go_roundg f
                    case measure => omega
                    case rel => exact ⟨k, o ++ [k], r - yk, rfl, rfl, hkn, by simp; omega, HP5.out, by rw [← HYK.out.1]; exact HST.out, by rw [HYK.out.1, HPK.out], HIN.out⟩
                  · obtain ⟨t, rfl⟩ : ∃ t', t = t' + 1 := ⟨t - 1, by omega⟩
                    have e1 : ((t + 1 : Nat) : Int) - 1 = (t : Int) := by omega
                    rw [e1]
                    have HSD := Lib.hid (downF_step (fun q => toB es x q && (A.getD q 0 == r)) x (show t < i by omega))
                    have c1 := HO4.out.cell (fl_get (toB es x) (show t < i by omega))
                    unfold boolf at c1
                    obtain ⟨z, hz⟩ : ∃ z, A[t]? = some z := ⟨_, List.getElem?_eq_getElem (by have := HAL.out; omega)⟩
                    have c2 := ((bstep hlow hb4).cell (p := ⟨w1.heap.size, t, none⟩) (show w1.heap.size < w3.heap.size by omega)).trans (HAC.out t z hz)
                    have HZ := Lib.hid (show A.getD t 0 = z by rw [List.getD_eq_getElem?_getD, hz]; rfl)
                    have t0 : (0 : Int) ≤ (t : Int) := Int.natCast_nonneg _
                    have t1 : (t : Int) < (i : Int) := by omega
                    obtain ⟨dn, hdn⟩ : ∃ dn, downF (fun q => toB es x q && (A.getD q 0 == r)) i (t + 1) x = dn := ⟨_, rfl⟩
                    rw [hdn] at HSD ⊢
                    obtain ⟨bq, hbq⟩ : ∃ bq, toB es x t = bq := ⟨_, rfl⟩
                    rw [hbq] at c1
                    have HBQ := Lib.hid hbq
                    clear hz hdn hbq
                    cases bq
                    · have HN := Lib.hid (show downF (fun q => toB es x q && (A.getD q 0 == r)) i t x = dn by rw [HSD.out]; simp [HBQ.out])
                      go_wp2
                      go_round
                      case rel => exact ⟨t, by omega, rfl, by rw [HN.out]⟩
                      case measure => simp [intOf]
                    · by_cases hzr : z = r
                      · have hq := beq_yes hzr
                        have HN := Lib.hid (show downF (fun q => toB es x q && (A.getD q 0 == r)) i t x = t by rw [HSD.out, if_pos (by simp only [HBQ.out, HZ.out, Bool.true_and]; exact hq)])
                        clear hzr
                        go_wp2
                        go_round
                        case rel => exact ⟨t, by omega, rfl, by rw [HN.out]⟩
                        case measure => simp [intOf]
                      · have hq := beq_no hzr
                        have HN := Lib.hid (show downF (fun q => toB es x q && (A.getD q 0 == r)) i t x = dn by rw [HSD.out, if_neg (by simp only [HZ.out, hq, Bool.and_false]; decide)])
                        clear hzr
                        go_wp2
                        go_round
                        case rel => exact ⟨t, by omega, rfl, by rw [HN.out]⟩
                        case measure => simp [intOf]
    · obtain ⟨t, rfl⟩ : ∃ t', t = t' + 1 := ⟨t - 1, by omega⟩
      have e1 : ((t + 1 : Nat) : Int) - 1 = (t : Int) := by omega
      rw [e1]
      obtain ⟨i, hi⟩ : ∃ i, D[t]? = some i := ⟨_, List.getElem?_eq_getElem (by have := HDL.out; omega)⟩
      have hin := HDN.out i (List.mem_of_getElem? hi)
      have HNX := Lib.hid (best_next (ws := ws) HD.out hi)
      obtain ⟨ob, ooff, rfl, hol, hoc⟩ := nats_get HU.out hi
      have c1 := (HI.out.low.cell (p := ⟨ob, ooff + t, none⟩) hol).trans hoc
      have t0 : (0 : Int) ≤ (t : Int) := Int.natCast_nonneg _
      have t1 : (t : Int) < (n : Int) := by omega
      obtain ⟨A, hA⟩ : ∃ A, bestTo n es ws (D.drop (t + 1)).reverse = A := ⟨_, rfl⟩
      have hAl : A.length = n := by rw [← hA, bestTo_len]
      have hA0 : ∀ k, 0 ≤ A.getD k 0 ∧ A.getD k 0 ≤ 64424509440 := fun k => by rw [← hA]; exact HBA.out (t + 1) k
      rw [hA] at HI HNX
      have HA0 := Lib.hid hA0
      have HAL := Lib.hid hAl
      obtain ⟨w2, rfl⟩ : ∃ w2 : World, w2 = wr := ⟨_, rfl⟩
      clear hi hoc hA hAl hA0
      have hBw := bstep hB1 HI.out.low
      go_wp2_with fail
      go_loop [13, 14] (fun s13 s14 => ∃ j : Nat, j ≤ es.length ∧ s14 = .int .i64 (j : Int) ∧ s13 = .int .i64 (maxOver A (nextsM (es.take j) i))) (fun _ s14 => es.length - (intOf s14).toNat)
      case atStart => exact ⟨0, Nat.zero_le _, rfl, rfl⟩
      case round =>
        obtain ⟨j, hj, rfl, rfl⟩ := hrel
        by_cases hjm : j < es.length
        · obtain ⟨e, he⟩ : ∃ e, es[j]? = some e := ⟨_, List.getElem?_eq_getElem hjm⟩
          obtain ⟨x, y⟩ := e
          obtain ⟨hx, hy⟩ := HG.out.ends j _ he
          simp only at hx hy
          obtain ⟨eb, off, rfl, hbl, hc1, hc2⟩ := HG.out.pairs.edge he
          have d1 := (hBw.cell (p := ⟨eb, off + j * 2, none⟩) hbl).trans hc1
          have d2 := (hBw.cell (p := ⟨eb, off + j * 2 + 1, none⟩) hbl).trans hc2
          obtain ⟨z, hz⟩ : ∃ z, A[y]? = some z := ⟨_, List.getElem?_eq_getElem (by have := HAL.out; omega)⟩
          have c2 := HI.out.own.cell hz
          unfold intf at c2
          have HZ := Lib.hid (show A.getD y 0 = z by rw [List.getD_eq_getElem?_getD, hz]; rfl)
          have HST := Lib.hid (nextsM_take he i)
          have x0 : (0 : Int) ≤ (x : Int) := Int.natCast_nonneg _
          have x1 : (x : Int) < (n : Int) := by omega
          have y0 : (0 : Int) ≤ (y : Int) := Int.natCast_nonneg _
          have y1 : (y : Int) < (n : Int) := by omega
          have j0 : (0 : Int) ≤ (j : Int) := Int.natCast_nonneg _
          have j1 : (j : Int) < (es.length : Int) := by omega
          obtain ⟨mo, hmo⟩ : ∃ mo, maxOver A (nextsM (es.take j) i) = mo := ⟨_, rfl⟩
          have HMO := Lib.hid hmo
          rw [hmo]
          clear he hc1 hc2 hz hmo
          by_cases hxi : x = i
          · have hq : ((x : Int) == (i : Int)) = true := beq_yes (by omega)
            by_cases hzm : mo < z
            · have HN := Lib.hid (show z = maxOver A (nextsM (es.take (j + 1)) i) by rw [HST.out, if_pos hxi, maxOver_snoc, HMO.out, HZ.out]; omega)
              clear hxi
              go_wp2
              go_round
              case rel => exact ⟨j + 1, by omega, by go_num, by rw [← HN.out]⟩
              case measure => simp [intOf]; omega
            · have HN := Lib.hid (show mo = maxOver A (nextsM (es.take (j + 1)) i) by rw [HST.out, if_pos hxi, maxOver_snoc, HMO.out, HZ.out]; omega)
              clear hxi
              go_wp2
              go_round
              case rel => exact ⟨j + 1, by omega, by go_num, by rw [← HN.out]⟩
              case measure => simp [intOf]; omega
          · have hq : ((x : Int) == (i : Int)) = false := beq_no (by omega)
            have HN := Lib.hid (show mo = maxOver A (nextsM (es.take (j + 1)) i) by rw [HST.out, if_neg hxi, List.append_nil, HMO.out])
            clear hxi
            go_wp2
            go_round
            case rel => exact ⟨j + 1, by omega, by go_num, by rw [← HN.out]⟩
            case measure => simp [intOf]; omega
        · obtain rfl : j = es.length := by omega
          obtain ⟨y, hy⟩ : ∃ y, ws[i]? = some y := ⟨_, List.getElem?_eq_getElem (by have := HWL.out; omega)⟩
          have hby := HWB.out y (List.mem_of_getElem? hy)
          obtain ⟨wb, woff, rfl, hwl2, hwc⟩ := ints_get HW.out hy
          have c3 := (hBw.cell (p := ⟨wb, woff + i, none⟩) hwl2).trans hwc
          have f1 := HI.out.own.free i
          obtain ⟨z2, c4⟩ : ∃ z, w2.cell? ⟨w1.heap.size, i, none⟩ = some z := ⟨_, HI.out.own.cell (List.getElem?_eq_getElem (by have := HAL.out; omega))⟩
          have i0 : (0 : Int) ≤ (i : Int) := Int.natCast_nonneg _
          have i1 : (i : Int) < (n : Int) := by omega
          have hml := maxOver_nonneg A (nextsM (es.take es.length) i)
          obtain ⟨mo, hmo⟩ : ∃ mo, maxOver A (nextsM (es.take es.length) i) = mo := ⟨_, rfl⟩
          have hmu : mo ≤ 64424509440 := by
            rcases maxOver_is A (nextsM (es.take es.length) i) with h | ⟨k, _, h⟩
            · omega
            · have := HA0.out k; omega
          rw [hmo] at hml ⊢
          have HNX2 := Lib.hid (show bestTo n es ws (D.drop t).reverse = A.set i (y + mo) by
            rw [HNX.out, ← maxOver_edges HG.out.ends]
            rw [List.take_length] at hmo
            rw [hmo, List.getD_eq_getElem?_getD, hy, Option.getD_some, Int.add_comm])
          have hgl := (HI.out.own.lt w1.heap.size rfl).2
          clear hy hwc hmo
          go_wp2
          go_roundw
          case rel =>
            refine ⟨t, by omega, rfl, ?_⟩
            rw [HNX2.out]
            exact ⟨HI.out.low.setCell (p := ⟨w1.heap.size, i, none⟩) (Nat.le_refl _) _, HI.out.own.set i (y + mo)⟩
          case measure => simp [intOf]
end Go.Proofs.Ythhhcaleoiopgaa
