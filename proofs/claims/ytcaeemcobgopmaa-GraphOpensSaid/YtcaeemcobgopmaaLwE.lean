/-
  Law GraphEuler: the walk.
-/
import Derived.Test.YtcaeemcobgopmaaLwQ
import Derived.Test.YtcaeemcobgopmaaLwC
import Derived.Test.YtcaeemcobgopmaaEul
import Derived.Test.YtcaeemcobgopmaaPow
namespace Go.Proofs.Ytcaeemcobgopmaa
open Go.RowKit
set_option linter.unusedVariables false

theorem rgt_small {n : Nat} {ns : List (Nat × Nat)} (h : rgt n (cst ns) = true) : n ≤ 30 ∧ ns.length ≤ 40 := by
  unfold rgt at h
  rw [Bool.and_eq_true, decide_eq_true_eq, cst_len] at h
  omega

theorem gr_fe {w : World} {n : Nat} {v : Value} {ns : List (Nat × Nat)} (h : NPairs w v (fe ns)) (hn : n ≤ 1000) (hm : ns.length ≤ 4000) (he : Ends n ns) : Gr w n v (fe ns) := by
  have hl : (fe ns).length ≤ ns.length := by rw [fe_len]; have := forest_other ns; omega
  refine ⟨h, hn, by omega, fe_ends he, ?_⟩
  unfold vld
  rw [cst_len, dec_yes ⟨by omega, by omega, by omega⟩, Bool.true_and, Bool.not_eq_true', List.any_eq_false]
  intro x hx
  unfold cst at hx
  obtain ⟨e, hm, rfl⟩ := List.mem_map.1 hx
  obtain ⟨k, hk, rfl⟩ := List.getElem_of_mem hm
  have := fe_ends he k _ (List.getElem?_eq_getElem hk)
  rw [badE_no (by omega)]; simp

theorem Rows.at {w : World} {v : Value} {l : List (List Nat)} (h : Rows w v l) : ∃ ao cap, v = .slice ao l.length cap := by
  obtain ⟨ao, cap, rfl, _⟩ := h
  exact ⟨ao, cap, rfl⟩
theorem Mat.at {w : World} {base : Nat} {V : Value} {l : List (List Nat)} (h : Mat w base V l) : ∃ ao cap, V = .slice ao l.length cap := h.rows.at

def besideTo (ns : List (Nat × Nat)) (r : List Nat) (j : Nat) : Nat := ((r.take j).filter fun y => decide (y ∉ forestOf ns)).length
theorem besideTo_succ {ns : List (Nat × Nat)} {r : List Nat} {j y : Nat} (h : r[j]? = some y) : besideTo ns r (j + 1) = if y ∈ forestOf ns then besideTo ns r j else besideTo ns r j + 1 := by
  unfold besideTo
  have hj := (List.getElem?_eq_some_iff.1 h)
  rw [List.take_succ_eq_append_getElem hj.1, hj.2, List.filter_append, List.length_append]
  by_cases hm : y ∈ forestOf ns <;> simp [hm]
theorem besideTo_le (ns : List (Nat × Nat)) (r : List Nat) (j : Nat) : besideTo ns r j ≤ j := by
  unfold besideTo
  have := List.length_filter_le (fun y => decide (y ∉ forestOf ns)) (r.take j)
  rw [List.length_take] at this
  omega

set_option maxRecDepth 100000 in
set_option maxHeartbeats 4000000 in
theorem eulerYes_walk (w : World) (N : Nat) (v : Value) (ns : List (Nat × Nat)) (hg : Gr w N v ns) (hr : rgt N (cst ns) = true) :
    Calls Try.prog 7 #[.int .i64 (N : Int), v] w fun e w' => e = .returned (.bool true) ∧ Below w.heap.size w w' := by
  have hm := hg.m_le
  have hn := hg.n_le
  have HG := Lib.hid hg
  have HR := Lib.hid hr
  have hbl : (cst ns).length ≤ 140737488355328 := by rw [cst_len]; omega
  have HPR := Lib.hid (partsOf_rows N ns)
  have HCR := Lib.hid (cyclesOf_rows hg.ends)
  have hE1 := rc_forest ns hg.ends
  rw [← rc_parts] at hE1
  have hE2 := forest_other ns
  have HCL := Lib.hid (cyclesOf_len N ns)
  have HFP := Lib.hid (show partsOf N (fe ns) = partsOf N ns by unfold partsOf; rw [fe_lbl])
  have HFO := Lib.hid (show (otherOf (fe ns)).length = 0 by rw [fe_other]; rfl)
  obtain ⟨ao, cap, rfl, _⟩ := hg.pairs.open_
  obtain ⟨F, hF⟩ : ∃ F, forestOf ns = F := ⟨_, rfl⟩
  obtain ⟨C, hC⟩ : ∃ C, cyclesOf N ns = C := ⟨_, rfl⟩
  obtain ⟨P, hP⟩ : ∃ C, partsOf N ns = C := ⟨_, rfl⟩
  have HF := Lib.hid hF
  have HC := Lib.hid hC
  have HP := Lib.hid hP
  rw [hC] at HCR HCL
  rw [hP] at HPR HFP
  rw [hF] at hE1 hE2
  have hE3 : F.length + C.length = ns.length := by rw [HCL.out]; exact hE2
  have hE4 : F.length + P.length = N := by rw [← hP]; omega
  have HOL : Hid ((otherOf ns).length = C.length) := HCL.out.symm
  have e1 : (((F.length : Int) + (P.length : Int)) != (N : Int)) = false := bne_no (by omega)
  have e2 : (((F.length : Int) + (C.length : Int)) != (ns.length : Int)) = false := bne_no (by omega)
  have e3 : ((C.length : Int) != (C.length : Int)) = false := by simp
  have hFl : F.length ≤ 4000 := by omega
  have hCl : C.length ≤ 4000 := by omega
  have hPl : P.length ≤ 1000 := by omega
  clear hg hr hF hC hP hE1 hE2 HCL hE3 hE4
  go_enter Try.func7, Try.ntmps7
  go_wp2_with fail
  refine (awake_any _).mono ?_
  rintro e w1 ⟨rfl, hB1⟩
  go_wp2_with fail
  refine (right_any N _ (cst ns) _ (HG.out.below hB1).pairs hbl).mono ?_
  rw [HR.out]
  rintro e w2 ⟨rfl, hb2⟩
  have hB2 := bstep hB1 hb2
  go_wp2_with fail
  refine (parts_ok N _ ns _ (HG.out.below hB2)).mono ?_
  rw [HP.out]
  rintro e w3 ⟨⟨V, rfl, hV⟩, hb3⟩
  obtain ⟨Vo, Vc, rfl⟩ := hV.at
  have hB3 := bstep hB2 hb3
  have HV3 := Lib.hid hV.rows
  clear hV
  go_wp2_with fail
  refine (forest_ok N _ ns _ (HG.out.below hB3)).mono ?_
  rw [HF.out]
  rintro e w4 ⟨⟨u, rfl, hu⟩, hb4⟩
  obtain ⟨uo, uc, rfl⟩ := hu.shape
  have hB4 := bstep hB3 hb4
  have HV4 := Lib.hid (HV3.out.below hb4)
  have HU4 := Lib.hid hu.sl
  clear hu HV3
  go_wp2_with fail
  refine (cycles_ok N _ ns _ (HG.out.below hB4)).mono ?_
  rw [HC.out]
  rintro e w5 ⟨⟨Z, rfl, hZ⟩, hb5⟩
  obtain ⟨Zo, Zc, rfl⟩ := hZ.at
  have hB5 := bstep hB4 hb5
  have HV5 := Lib.hid (HV4.out.below hb5)
  have HU5 := Lib.hid (HU4.out.below hb5)
  have HZ5 := Lib.hid hZ.rows
  clear hZ HV4 HU4
  go_wp2_with fail
  refine (count_ok N _ ns _ (HG.out.below hB5)).mono ?_
  rw [HOL.out]
  rintro e w6 ⟨rfl, hb6⟩
  have hB6 := bstep hB5 hb6
  have HV6 := Lib.hid (HV5.out.below hb6)
  have HU6 := Lib.hid (HU5.out.below hb6)
  have HZ6 := Lib.hid (HZ5.out.below hb6)
  clear HV5 HU5 HZ5
  go_wp2_with fail
  clear e1 e2 e3
  go_loopw [13, 15, 98] (fun s13 s15 s98 wr => ∃ k : Nat, k ≤ F.length ∧ s98 = .int .i64 (k : Int) ∧ Hid (OwnP wr w6.heap.size s13 ((F.take k).map fun i => ns.getD i (0, 0))) ∧ Below w6.heap.size w6 wr) (fun _ _ s98 _ => F.length - (intOf s98).toNat)
  case atStart => exact ⟨0, Nat.zero_le _, rfl, OwnP.nil _ _, Below.refl _ _⟩
  case round =>
    obtain ⟨k, hk, rfl, HO, hB⟩ := hrel
    have hBw := bstep hB6 hB
    have hzw := hB.size
    by_cases hlt : k < F.length
    · obtain ⟨x, hx⟩ : ∃ x, F[k]? = some x := ⟨_, List.getElem?_eq_getElem hlt⟩
      have hxl : x < ns.length := forestOf_lt (by rw [HF.out]; exact List.mem_of_getElem? hx)
      obtain ⟨⟨p, q⟩, hpq⟩ : ∃ e, ns[x]? = some e := ⟨_, List.getElem?_eq_getElem hxl⟩
      obtain ⟨eb, eoff, rfl, hebl, d1, d2⟩ := (HG.out.pairs.below hBw).edge hpq
      obtain ⟨ub, uoff, rfl, hub, c1⟩ := nats_get (HU6.out.below hB) hx
      have HN := Lib.hid (show (F.take (k + 1)).map (fun i => ns.getD i (0, 0)) = (F.take k).map (fun i => ns.getD i (0, 0)) ++ [(p, q)] by
        rw [List.take_succ_eq_append_getElem hlt, List.map_append, (List.getElem?_eq_some_iff.1 hx).2]
        simp [List.getD, hpq])
      have hol := HO.out.lt
      have hlen : ((F.take k).map fun i => ns.getD i (0, 0)).length + 1 ≤ 1099511627776 := by simp; omega
      have k0 : (0 : Int) ≤ (k : Int) := Int.natCast_nonneg _
      have k1 : (k : Int) < (F.length : Int) := by omega
      have x0 : (0 : Int) ≤ (x : Int) := Int.natCast_nonneg _
      have x1 : (x : Int) < (ns.length : Int) := by omega
      simp only at d1 d2
      clear hx hpq
      go_wp2_with (at_builtin; refine wpList_pushP wr rfl _ _ rfl w6.heap.size _ _ p q HO.out rfl rfl hlen hzw ?_; intro v' w' hown' hg)
      go_roundw
      case rel => exact ⟨k + 1, by omega, by go_num, by rw [HN.out]; exact hown', below_grown hB hg hzw (fun g e => (hol g e).1)⟩
      case measure => simp [intOf]; omega
    · obtain rfl : k = F.length := by omega
      have hfe : (F.take F.length).map (fun i => ns.getD i (0, 0)) = fe ns := by rw [List.take_length]; unfold fe; rw [HF.out]
      rw [hfe] at HO
      have HFG := Lib.hid (gr_fe HO.out.pairs hn hm HG.out.ends)
      obtain ⟨fo, fc, hfs⟩ := HO.out.shape
      subst hfs
      have HV7 := Lib.hid (HV6.out.below hB)
      have HU7 := Lib.hid (HU6.out.below hB)
      have HZ7 := Lib.hid (HZ6.out.below hB)
      clear hfe HV6 HU6 HZ6 hB1 hB2 hB3 hB4 hB5
      go_wp2_with fail
      refine (parts_ok N _ (fe ns) _ HFG.out).mono ?_
      rw [HFP.out]
      rintro e w7 ⟨⟨Y, rfl, hY⟩, hb7⟩
      obtain ⟨Yo, Yc, rfl⟩ := hY.at
      have hB7 := bstep hBw hb7
      have HV8 := Lib.hid (HV7.out.below hb7)
      have HU8 := Lib.hid (HU7.out.below hb7)
      have HZ8 := Lib.hid (HZ7.out.below hb7)
      have HY8 := Lib.hid hY.rows
      have HFG8 := Lib.hid (HFG.out.below hb7)
      clear hY HV7 HU7 HZ7 HFG
      go_wp2_with fail
      refine (count_ok N _ (fe ns) _ HFG8.out).mono ?_
      rw [HFO.out]
      rintro e w8 ⟨rfl, hb8⟩
      have hB8 := bstep hB7 hb8
      have HV9 := Lib.hid (HV8.out.below hb8)
      have HU9 := Lib.hid (HU8.out.below hb8)
      have HZ9 := Lib.hid (HZ8.out.below hb8)
      have HY9 := Lib.hid (HY8.out.below hb8)
      clear HV8 HU8 HZ8 HY8 HFG8
      go_wp2_with fail
      refine (same_yes _ _ P _ HY9.out HV9.out (by omega) (fun r hr => by have := HPR.out.2 r hr; omega)).mono ?_
      rintro e w9 ⟨rfl, hb9⟩
      have hB9 := bstep hB8 hb9
      have HU10 := Lib.hid (HU9.out.below hb9)
      have HZ10 := Lib.hid (HZ9.out.below hb9)
      clear HV9 HU9 HZ9 HY9
      go_wp2_with fail
      go_loopw [21, 22, 23, 24, 26, 148] (fun _ _ _ _ _ s148 wr => ∃ k : Nat, k ≤ C.length ∧ s148 = .int .i64 (k : Int) ∧ Below w9.heap.size w9 wr) (fun _ _ _ _ _ s148 _ => C.length - (intOf s148).toNat)
      case atStart => exact ⟨0, Nat.zero_le _, rfl, Below.refl _ _⟩
      case round =>
        obtain ⟨k, hk, rfl, hBr⟩ := hrel
        have hBW := bstep hB9 hBr
        by_cases hlt : k < C.length
        · obtain ⟨r, hr⟩ : ∃ r, C[k]? = some r := ⟨_, List.getElem?_eq_getElem hlt⟩
          have hrm := HCR.out.2 r (List.mem_of_getElem? hr)
          obtain ⟨i, hi, hri⟩ := List.mem_map.1 (show r ∈ (otherOf ns).map (cycRow ns N) by
            have := List.mem_of_getElem? hr
            rw [← HC.out] at this; exact this)
          obtain ⟨y1, y2, y3⟩ := cyc_row_ok HG.out.ends hi
          rw [hri] at y1 y2 y3
          obtain ⟨zb, zoff, rfl, hzb, ro, rcp, c1, Nr⟩ := rows_get (HZ10.out.below hBr) hr
          have HNr := Lib.hid Nr
          have hL : (r.map (fun x : Nat => (x : Int))).map Int.toNat = r := by
            rw [List.map_map, show (Int.toNat ∘ fun x : Nat => (x : Int)) = id from by funext x; simp]
            simp
          have hin : inR ns.length (r.map (fun x : Nat => (x : Int))) = true := by
            unfold inR
            rw [List.all_eq_true]
            intro x hx
            obtain ⟨j, hj, rfl⟩ := List.mem_map.1 hx
            have := y2 j hj
            simp; omega
          have HCV : Hid (cycV ns (r.map (fun x : Nat => (x : Int))) = (true, 0)) := by
            show _ = _
            unfold cycV
            rw [if_pos hin, hL, y1]
          have HY3 : Hid (besideTo ns r r.length = 1) := by
            show _ = _
            unfold besideTo
            rw [List.take_length]; exact y3
          have k0 : (0 : Int) ≤ (k : Int) := Int.natCast_nonneg _
          have k1 : (k : Int) < (C.length : Int) := by omega
          clear Nr hr hri hi y1 y2 y3 hL hin
          go_wp2_with fail
          refine (cycle_ok N _ _ ns (r.map (fun x : Nat => (x : Int))) _ (HG.out.below hBW) HNr.out.ints (by simp; omega)).mono ?_
          rw [HCV.out]
          rintro e w10 ⟨rfl, hb10⟩
          have hB10 := bstep hBr hb10
          have HNr2 := Lib.hid (HNr.out.below hb10)
          clear c1 HNr
          go_wp2_with fail
          go_loopw [24, 26, 167] (fun s24 _ s167 wr => ∃ j : Nat, j ≤ r.length ∧ s167 = .int .i64 (j : Int) ∧ s24 = .int .i64 (besideTo ns r j : Int) ∧ Below w10.heap.size w10 wr) (fun _ _ s167 _ => r.length - (intOf s167).toNat)
          case atStart => exact ⟨0, Nat.zero_le _, rfl, rfl, Below.refl _ _⟩
          case round =>
            obtain ⟨j, hj, rfl, rfl, hBj⟩ := hrel
            by_cases hjl : j < r.length
            · obtain ⟨y, hy⟩ : ∃ y, r[j]? = some y := ⟨_, List.getElem?_eq_getElem hjl⟩
              obtain ⟨rb, roff, rfl, hrb, c1⟩ := nats_get (HNr2.out.below hBj) hy
              have HS := Lib.hid (besideTo_succ (ns := ns) hy)
              rw [HF.out] at HS
              have hbe := besideTo_le ns r j
              have HCN := Lib.hid (containsN_any _ F y _ (HU10.out.below (bstep hB10 hBj)) (by omega))
              obtain ⟨bs, hbs⟩ : ∃ bs, besideTo ns r j = bs := ⟨_, rfl⟩
              rw [hbs] at HS hbe ⊢
              have j0 : (0 : Int) ≤ (j : Int) := Int.natCast_nonneg _
              have j1 : (j : Int) < (r.length : Int) := by omega
              clear hy hbs
              by_cases hyf : y ∈ F
              · rw [dec_yes hyf] at HCN
                rw [if_pos hyf] at HS
                clear hyf
                go_wp2_with fail
                refine HCN.out.mono ?_
                rintro e w11 ⟨rfl, rfl⟩
                go_wp2
                go_roundw
                case rel => exact ⟨j + 1, by omega, by go_num, by rw [HS.out], hBj⟩
                case measure => simp [intOf]; omega
              · rw [dec_no hyf] at HCN
                rw [if_neg hyf] at HS
                clear hyf
                go_wp2_with fail
                refine HCN.out.mono ?_
                rintro e w11 ⟨rfl, rfl⟩
                go_wp2
                go_roundw
                case rel => exact ⟨j + 1, by omega, by go_num, by rw [HS.out]; go_num, hBj⟩
                case measure => simp [intOf]; omega
            · obtain rfl : j = r.length := by omega
              rw [HY3.out]
              go_wp2
              go_roundw
              case rel => exact ⟨k + 1, by omega, by go_num, bstep hB10 hBj⟩
              case measure => simp [intOf]; omega
        · go_wp2
          go_ret
          exact ⟨rfl, hBW⟩

set_option maxRecDepth 100000 in
theorem graphEuler_walk (w : World) (n : Int) (wn : (Lit.int .i64 n).wf = true) (v : Value) (l : List (Int × Int)) (hp : Pairs w v l) (bl : l.length * 16 ≤ 140737488351232) :
    Calls Try.prog 7 #[.int .i64 n, v] w fun e w' => e = .returned (.bool true) ∧ Below w.heap.size w w' := by
  cases hr : rgt n l
  · have HR := Lib.hid hr
    have HP := Lib.hid hp
    obtain ⟨ao, cap, rfl, _⟩ := hp
    have hbl : l.length ≤ 140737488355328 := by omega
    clear hr bl
    go_enter Try.func7, Try.ntmps7
    go_wp2_with fail
    refine (awake_any _).mono ?_
    rintro e w1 ⟨rfl, hB1⟩
    go_wp2_with fail
    refine (right_any n _ l _ (HP.out.below hB1) hbl).mono ?_
    rw [HR.out]
    rintro e w2 ⟨rfl, hb2⟩
    have hB2 := bstep hB1 hb2
    go_wp2
    go_ret
    exact ⟨rfl, hB2⟩
  · obtain ⟨N, ns, rfl, rfl, hg⟩ := gr_of hp (rgt_gr hp hr)
    exact eulerYes_walk w N v ns hg hr
end Go.Proofs.Ytcaeemcobgopmaa
