/-
  The walk of LaidLengths.
-/
import Derived.Test.YtpidjgljeooblaaLen
import Derived.Test.YtpidjgljeooblaaMrk
namespace Go.Proofs.Ytpidjgljeooblaa
open Go.RowKit
set_option linter.unusedVariables false
set_option linter.unusedSimpArgs false
attribute [local go_sem ↓] Go.wp_at_zero Go.wp_at_succ

structure LenF (q : List Pt) (G : List Bx) (b : BarD) : Prop where
  len : (dimL b).length = G.length
  small : G.length ≤ 7
  pos : 0 < G.length
  dim : ∀ (t : Nat) u, G[t]? = some u → (dimL b)[t]? = some (lenB u)
  near : ∀ (t : Nat) u, G[t]? = some u → PtIn 1048576 u.lo ∧ PtIn 1048576 u.hi
  ok : G.all bxOk = true
  sq : ∀ (t : Nat) u v, G[t]? = some u → G[t + 1]? = some v → sqN u v 3 = 0
  hull : ∃ x, G[0]? = some x ∧ hullN x G G.length = hullP q
theorem legs_pos {b : BarD} (h : barOk b = true) : 0 < (legsOf b.code).length := by
  unfold barOk headB at h
  simp only [Bool.and_eq_true, decide_eq_true_eq] at h
  have h2 := h.1.2
  rcases code_cases b.code with hc | ⟨_, h0, _⟩
  · rcases hc with e | e | e | e | e | e | e | e <;> rw [e] <;> decide
  · omega
theorem lens_plain {l : List BarD} {rs : List RunD} (h : laidOk l rs = true) {n : Nat} {q : List Pt} (hq : (laidPts l rs)[n]? = some q) (hn : n < cumN rs) :
    ∃ (b : BarD) (t : Nat) (m : ByteArray), (laidMarks rs)[n]? = some m ∧ findZ l m = (t : Int) ∧ l[t]? = some b ∧ barOk b = true ∧ LenF q (legsN q (q.length - 1)) b := by
  obtain ⟨n1, n2, n3⟩ := laid_near h hq
  obtain ⟨k, j, r, hk, hj, hij⟩ := cum_place hn
  obtain ⟨b, line, bok, turn, hat, c1, c2, hst, hp⟩ := laid_place h hk hj
  obtain ⟨t, ht, hb, hbm⟩ := lineOf_some line
  have hqe : q = rptsOf b r j := by rw [← hij, hq] at hp; exact Option.some.inj hp
  have hmk : (laidMarks rs)[n]? = some r.mark := by rw [hij]; exact laidMarks_at hk hj
  have hlp := legs_pos bok
  have hql : q.length = (legsOf b.code).length + 1 := by rw [hqe, rpts_length]
  have hpt : ∀ t, t < q.length → PtIn 1048576 (q.getD t ⟨0, 0, 0⟩) := fun t ht => by
    rw [List.getD_eq_getElem?_getD, List.getElem?_eq_getElem ht]
    exact ptIn_iff.1 (List.all_eq_true.1 n1 _ (List.getElem_mem ht))
  have hL := legs_len6 b.code
  refine ⟨b, t, r.mark, hmk, ht, hb, bok, ?_, ?_, ?_, ?_, ?_, ?_, ?_, ?_⟩
  · rw [legsN_len, hql]; unfold dimL; rw [dimsL_len]; omega
  · rw [legsN_len]; omega
  · rw [legsN_len]; omega
  · intro t u hu
    rw [hqe] at hu
    exact rpts_leg bok turn j hu
  · intro t u hu
    exact legs_near n1 (by omega) hu
  · rw [List.all_eq_true]
    intro u hu
    obtain ⟨t, ht, rfl⟩ := List.getElem_of_mem hu
    have hu2 := List.getElem?_eq_getElem ht
    rw [legsN_len] at ht
    rw [legsN_at q _ t ht] at hu2
    rw [← Option.some.inj hu2]
    exact legB_ok (hpt t (by omega)) (hpt (t + 1) (by omega))
  · intro t u v hu hv
    have ht := (List.getElem?_eq_some_iff.1 hv).1
    rw [legsN_len] at ht
    rw [legsN_at q _ t (by omega)] at hu
    rw [legsN_at q _ (t + 1) ht] at hv
    cases hu
    cases hv
    exact sq_share _ _ _ _
  · exact ⟨_, legsN_at q _ 0 (by omega), hull_of_legs (by omega)⟩

structure LnW (w : World) (B : Nat) (o : Value) (G : List Bx) (B2 : Nat) (o2 : Value) (D : List Int) (wr : World) : Prop where
  below : Below w.heap.size w wr
  own : OwnBxs wr B o G
  ints : OwnI wr B2 o2 D
theorem LnW.after {w wr w' : World} {B B2 : Nat} {o o2 : Value} {G : List Bx} {D : List Int} (h : LnW w B o G B2 o2 D wr) (hb : Below wr.heap.size wr w') : LnW w B o G B2 o2 D w' := ⟨bstep h.below hb, h.own.keep hb, Own.below h.ints hb⟩

set_option maxRecDepth 100000 in
set_option maxHeartbeats 4000000 in
theorem laidLengths_walk (w : World) (v : Value) (l : List BarD) (hp : Bars w v l) (hf : FitB l) (hl : l.length * 64 ≤ 140737488351232) (vr : Value) (rs : List RunD) (hr : Runs w vr rs) (hm : ∀ r ∈ rs, r.mark.size ≤ maxLen) (hlr : rs.length * 88 ≤ 140737488351232) (i : Int) (wf : (Lit.int .i64 i).wf = true) :
    Calls Try.prog 9 #[v, vr, .int .i64 i] w fun e w' => e = .returned (.bool true) ∧ Below w.heap.size w w' := by
  have hl2 : l.length ≤ 140737488355328 := by omega
  have hlr2 : rs.length ≤ 140737488355328 := by omega
  have h64 : i ≤ 9223372036854775807 := (Go.bounds_i64 wf).2
  have HLA := Lib.hid (fun W (hW : Below w.heap.size w W) => large_any v vr l rs W (hp.below hW) (hr.below hW) hl2 hlr2)
  have HP := Lib.hid hp
  have HR := Lib.hid hr
  have HFI := Lib.hid hf
  clear hp hr hf hl hlr hm wf
  cases hok : laidOk l rs with
  | false =>
    have HL := Lib.hid (fun W (hW : Below w.heap.size w W) => legs_bad v vr i l rs W (HP.out.below hW) (HR.out.below hW) hl2 hlr2 HFI.out hok)
    clear hok
    go_enter Try.func9, Try.ntmps9
    go_wp2_with fail
    refine (awake_any _).mono ?_
    rintro e w1 ⟨rfl, hb1⟩
    have HB1 := Lib.hid hb1
    clear hb1
    go_wp2_with fail
    refine (HLA.out _ HB1.out).mono ?_
    rintro e w2 ⟨q, rfl, hb2⟩
    have HB2 := Lib.hid (bstep HB1.out hb2)
    clear hb2
    cases q
    · go_wp2_with fail
      refine (HL.out _ HB2.out).mono ?_
      rintro e w3 ⟨rfl, hb3⟩
      have HB3 := Lib.hid (bstep HB2.out hb3)
      clear hb3
      go_wp2
      go_ret
      exact ⟨rfl, HB3.out⟩
    · go_wp2
      go_ret
      exact ⟨rfl, HB2.out⟩
  | true =>
    have HL := Lib.hid (fun W (hW : Below w.heap.size w W) => legs_good v vr i l rs W (HP.out.below hW) (HR.out.below hW) hl2 hlr2 HFI.out hok)
    have HMK := Lib.hid (fun W (hW : Below w.heap.size w W) => mark_good v vr i l rs W (HP.out.below hW) (HR.out.below hW) hl2 hlr2 HFI.out hok h64)
    have HHG := Lib.hid (fun W (hW : Below w.heap.size w W) => hull_good v vr i l rs W (HP.out.below hW) (HR.out.below hW) hl2 hlr2 HFI.out hok)
    have HOK := Lib.hid hok
    clear hok
    go_enter Try.func9, Try.ntmps9
    go_wp2_with fail
    refine (awake_any _).mono ?_
    rintro e w1 ⟨rfl, hb1⟩
    have HB1 := Lib.hid hb1
    clear hb1
    go_wp2_with fail
    refine (HLA.out _ HB1.out).mono ?_
    rintro e w2 ⟨q, rfl, hb2⟩
    have HB2 := Lib.hid (bstep HB1.out hb2)
    clear hb2 HB1
    cases q
    · go_wp2_with fail
      refine (HL.out _ HB2.out).mono ?_
      rintro e w3 (⟨q, o, hi0, hq, rfl, ho3, hb3⟩ | ⟨hi0, rfl, hb3⟩)
      · have hi1 := laid_range HOK.out hq
        obtain ⟨n, rfl⟩ : ∃ n : Nat, i = (n : Int) := ⟨i.toNat, by omega⟩
        obtain ⟨b, t, m, hmk, hfz, hbt, bok, hLF⟩ := lens_plain HOK.out (n := n) hq (by omega)
        have HQ : Hid ((laidPts l rs)[n]? = some q) := hq
        have HB3 := Lib.hid (bstep HB2.out hb3)
        have HO3 := Lib.hid ho3
        have HLF := Lib.hid hLF
        have HMM := Lib.hid hmk
        have HFZ := Lib.hid hfz
        have HBT := Lib.hid hbt
        have HBO := Lib.hid bok
        obtain ⟨oo, oc, rfl⟩ := OwnN.shape ho3
        generalize hG : legsN q (q.length - 1) = G at *
        clear hq ho3 hb3 hLF hmk hfz hbt bok hG HL HLA
        go_wp2_with fail
        refine (HMK.out _ HB3.out).mono ?_
        rintro e w4 (⟨m', _, hm', rfl, hb4⟩ | ⟨hbad, _, _⟩)
        · obtain rfl : m' = m := Option.some.inj (hm'.symm.trans HMM.out)
          have hb0 := below_new w4 (.cells #[.string m'] 9)
          have HB4 := Lib.hid (bstep HB3.out hb4)
          have HB5 := Lib.hid (bstep HB4.out hb0)
          have HO5 := Lib.hid ((HO3.out.keep hb4).keep hb0)
          have HI := Lib.hid (indexBars_any 35 #[.pointer (some ⟨w4.heap.size, 0, none⟩)] (isMark m') v l _ (HP.out.below HB5.out) hl2 ⟨fun xs W => by rfl, fun x u W hW => lfind2_any w4.heap.size m' x u W ((hW.cell (p := ⟨w4.heap.size, 0, none⟩) (by simp)).trans (by go_simp)) (by have := hW.size; simp at this; omega)⟩)
          have hfe : idxZ l (isMark m') = (t : Int) := HFZ.out
          rw [hfe] at HI
          clear hm' hb4 hb0 hfe HO3 HB3 HMK
          go_wp2_with fail
          refine HI.out.mono ?_
          rintro e w6 ⟨rfl, hb6⟩
          have HB6 := Lib.hid (bstep HB5.out hb6)
          have HO6 := Lib.hid (HO5.out.keep hb6)
          obtain ⟨ao, cap, rfl⟩ := HP.out.at_
          obtain ⟨bb, off, rfl, hbl, x0, x1, x2, x3, uo, uc, x4, hdx⟩ := bars_get (HP.out.below HB6.out) HBT.out
          have hfb := HFI.out b (List.mem_of_getElem? HBT.out)
          have HSL := Lib.hid (shLegs_any b uo uc w6 hdx hfb.1 hfb.2 HBO.out)
          have k0 : (0 : Int) ≤ (t : Int) := by omega
          have k1 : (t : Int) < (l.length : Int) := by have := (List.getElem?_eq_some_iff.1 HBT.out).1; omega
          clear hb6 hdx hfb HI HB5 HO5 HB4
          go_wp2_with fail
          refine HSL.out.mono ?_
          rintro e w7 ⟨o2, rfl, ho2, hb7⟩
          obtain ⟨do_, dc, rfl⟩ := Own.shape ho2
          have HW0 : Hid (LnW w w2.heap.size (.slice oo G.length oc) G w6.heap.size (.slice do_ (dimL b).length dc) (dimL b) w7) := ⟨bstep HB6.out hb7, HO6.out.keep hb7, ho2⟩
          have hdl := HLF.out.len
          rw [hdl] at HW0
          have hg7 := HLF.out.small
          clear ho2 hb7 HO6 HB6 HSL x0 x1 x2 x3 x4 hbl k0 k1
          rw [hdl]
          generalize hD : dimL b = D at *
          have HDE := Lib.hid hD
          clear hD hdl
          go_wp2_with fail
          go_loopw [73] (fun i' wr => ∃ t2 : Nat, t2 ≤ G.length ∧ i' = .int .i64 (t2 : Int) ∧ LnW w w2.heap.size (.slice oo G.length oc) G w6.heap.size (.slice do_ G.length dc) D wr) (fun i' _ => G.length - (intOf i').toNat)
          case atStart => exact ⟨0, Nat.zero_le _, rfl, HW0.out⟩
          case round =>
            clear HW0
            obtain ⟨t2, ht2, rfl, hW⟩ := hrel
            have HW := Lib.hid hW
            clear hW
            by_cases htl2 : t2 < G.length
            · obtain ⟨u, hu⟩ : ∃ y, G[t2]? = some y := ⟨_, List.getElem?_eq_getElem htl2⟩
              have hdu := HLF.out.dim t2 u hu
              rw [HDE.out] at hdu
              obtain ⟨nl, nh⟩ := HLF.out.near t2 u hu
              have HLEN := Lib.hid (fun W => length_any u W nl nh)
              have HU := Lib.hid hu
              have HUOK : Hid (bxOk u = true) := List.all_eq_true.1 HLF.out.ok _ (List.mem_of_getElem? hu)
              obtain ⟨gb, goff, eg, hgl, y0, y1, y2, y3, y4, y5⟩ := bxs_get (OwnN.fl bx_len HW.out.own) hu
              cases eg
              obtain ⟨db, doff, ed, hdl, d0⟩ := zints_get (Own.sl HW.out.ints) hdu
              cases ed
              obtain ⟨l1, l2, l3, l4, l5, l6⟩ := nl
              obtain ⟨h1, h2, h3, h4, h5, h6⟩ := nh
              have hbn := below_new wr (.cells (bxCellsA u) 33)
              have HWA := Lib.hid (HW.out.after hbn)
              have HBX := Lib.hid (BlkIs.new wr (bxCellsA u) 33)
              have d0' := hbn.cell (p := ⟨db, doff + t2, none⟩) hdl
              have e0 := fun d os => cell_regrown (d0'.trans d0) d os
              have c0 := fun d os => cell_regrown (HBX.out.cell 0) d os
              have c1 := fun d os => cell_regrown (HBX.out.cell 1) d os
              have c2 := fun d os => cell_regrown (HBX.out.cell 2) d os
              have c3 := fun d os => cell_regrown (HBX.out.cell 3) d os
              have c4 := fun d os => cell_regrown (HBX.out.cell 4) d os
              have c5 := fun d os => cell_regrown (HBX.out.cell 5) d os
              have k0 : (0 : Int) ≤ (t2 : Int) := by omega
              have k1 : (t2 : Int) < (G.length : Int) := by omega
              have q1 : decide (u.lo.x < -1048576) = false := dec_no (by omega)
              have q2 : decide (u.lo.y < -1048576) = false := dec_no (by omega)
              have q3 : decide (u.lo.z < -1048576) = false := dec_no (by omega)
              have q4 : decide (1048576 < u.hi.x) = false := dec_no (by omega)
              have q5 : decide (1048576 < u.hi.y) = false := dec_no (by omega)
              have q6 : decide (1048576 < u.hi.z) = false := dec_no (by omega)
              have q7 : (lenB u != lenB u) = false := by simp
              clear hu hdu d0 d0' hbn
              go_upto_region 18 with fail
              clear y0 y1 y2 y3 y4 y5 hgl hdl
              refine wp_region_quiet_below (by kernel_rfl) (by kernel_rfl) ?_
              repeat (go_big_quiet_step ((first
                | (go_at_call 37; (with_reducible exact Calls.regrown_of (HLEN.out _))))))
              refine wpQuiet_nil ?_
              intro _ hw'
              obtain ⟨⟨nq, osq⟩, hw''⟩ := hw'
              subst hw''
              have hrg := below_regrown (wr.alloc (.cells (bxCellsA u) 33)) nq osq
              have HW9 := Lib.hid (HWA.out.after hrg)
              have HX9 := Lib.hid (HBX.out.below hrg)
              clear c0 c1 c2 c3 c4 c5 e0 HWA HBX hrg q1 q2 q3 q4 q5 q6 q7
              generalize Go.Sort.grow (redrawn _ nq) osq = W9 at *
              by_cases ht0 : 0 < t2
              · obtain ⟨t3, rfl⟩ : ∃ t3, t2 = t3 + 1 := ⟨t2 - 1, by omega⟩
                obtain ⟨u0, hu0⟩ : ∃ y, G[t3]? = some y := ⟨_, List.getElem?_eq_getElem (by omega)⟩
                have HSQ := Lib.hid (fun W => square_any u0 u W (List.all_eq_true.1 HLF.out.ok _ (List.mem_of_getElem? hu0)) HUOK.out)
                rw [HLF.out.sq t3 u0 u hu0 HU.out] at HSQ
                obtain ⟨gb2, goff2, eg, hgl2, y0, y1, y2, y3, y4, y5⟩ := bxs_get (OwnN.fl bx_len HW9.out.own) hu0
                cases eg
                have c0 := fun d os => cell_regrown (HX9.out.cell 0) d os
                have c1 := fun d os => cell_regrown (HX9.out.cell 1) d os
                have c2 := fun d os => cell_regrown (HX9.out.cell 2) d os
                have c3 := fun d os => cell_regrown (HX9.out.cell 3) d os
                have c4 := fun d os => cell_regrown (HX9.out.cell 4) d os
                have c5 := fun d os => cell_regrown (HX9.out.cell 5) d os
                have z0 := fun d os => cell_regrown y0 d os
                have z1 := fun d os => cell_regrown y1 d os
                have z2 := fun d os => cell_regrown y2 d os
                have z3 := fun d os => cell_regrown y3 d os
                have z4 := fun d os => cell_regrown y4 d os
                have z5 := fun d os => cell_regrown y5 d os
                have hti : ((t3 + 1 : Nat) : Int) = (t3 : Int) + 1 := by omega
                have j0 : (0 : Int) ≤ (t3 : Int) := by omega
                have j1 : (t3 : Int) < (G.length : Int) := by omega
                rw [hti] at k0 k1 ⊢
                have kd : decide ((0 : Int) < (t3 : Int) + 1) = true := dec_yes (by omega)
                have ka : (t3 : Int) + 1 - 1 = (t3 : Int) := by omega
                clear hu0 y0 y1 y2 y3 y4 y5 ht0
                go_upto_region 21 with fail
                refine wp_region_quiet_below (by kernel_rfl) (by kernel_rfl) ?_
                repeat (go_big_quiet_step ((first
                  | (go_at_call 38; (with_reducible exact Calls.regrown_of (HSQ.out _))))))
                refine wpQuiet_nil ?_
                intro _ hw'
                obtain ⟨⟨nq, osq⟩, hw''⟩ := hw'
                subst hw''
                have HW10 := Lib.hid (HW9.out.after (below_regrown W9 nq osq))
                clear c0 c1 c2 c3 c4 c5 z0 z1 z2 z3 z4 z5 HW9 HX9
                generalize Go.Sort.grow (redrawn _ nq) osq = W10 at *
                go_wp2_with fail
                go_roundw
                case rel => exact ⟨t3 + 1 + 1, by omega, by go_num, HW10.out⟩
                case measure => simp [intOf]; omega
              · obtain rfl : t2 = 0 := by omega
                go_wp2_with fail
                go_roundw
                case rel => exact ⟨0 + 1, by omega, by go_num, HW9.out⟩
                case measure => simp [intOf]; omega
            · obtain rfl : t2 = G.length := by omega
              obtain ⟨x, hx0, hxh⟩ := HLF.out.hull
              have HBH := Lib.hid (fun W (hG : OwnBxs W w2.heap.size (.slice oo G.length oc) G) => bhull_any _ G x W (OwnN.fl bx_len hG) (by omega) hx0 HLF.out.ok)
              rw [hxh] at HBH
              clear hx0 hxh
              go_wp2_with fail
              refine (HBH.out _ HW.out.own).mono ?_
              rintro e w8 ⟨rfl, hb8⟩
              have HW8 := Lib.hid (HW.out.after hb8)
              generalize hU : hullP q = U at *
              have hb9 := below_new w8 (.cells (bxCellsA U) 33)
              have HX8 := Lib.hid (BlkIs.new w8 (bxCellsA U) 33)
              have HW9 := Lib.hid (HW8.out.after hb9)
              clear hb8 hb9
              go_wp2_with fail
              refine (HHG.out _ HW9.out.below).mono ?_
              rintro e w10 (⟨q2, _, hq2, rfl, hb10⟩ | ⟨hbad, _, _⟩)
              · obtain rfl : q2 = q := Option.some.inj (hq2.symm.trans HQ.out)
                rw [hU]
                have hx := (HX8.out.below hb10).alloc (.cells (bxCellsA U) 33)
                have hx2 := BlkIs.new w10 (bxCellsA U) 33
                have hbz := bstep HW9.out.below hb10
                have HBZ := Lib.hid (hbz.alloc hbz.size (.cells (bxCellsA U) 33))
                have e0 := hx.cell 0
                have e1 := hx.cell 1
                have e2 := hx.cell 2
                have e3 := hx.cell 3
                have e4 := hx.cell 4
                have e5 := hx.cell 5
                have hz8 := hx.lt
                have hq := eq_bx U
                clear hx hx2 hbz hb10
                go_wp2
                go_ret
                exact ⟨rfl, HBZ.out⟩
              · omega
        · omega
      · have HB3 := Lib.hid (bstep HB2.out hb3)
        clear hb3 hi0
        go_wp2
        go_ret
        exact ⟨rfl, HB3.out⟩
    · go_wp2
      go_ret
      exact ⟨rfl, HB2.out⟩
end Go.Proofs.Ytpidjgljeooblaa
