/-
  The walk of LaidLegs.
-/
import Derived.Test.YtpidjgljeooblaaAwk
import Derived.Test.YtpidjgljeooblaaMrk
import Derived.Test.YtpidjgljeooblaaRmJ
namespace Go.Proofs.Ytpidjgljeooblaa
open Go.RowKit
set_option linter.unusedVariables false
set_option linter.unusedSimpArgs false
attribute [local go_sem ↓] Go.wp_at_zero Go.wp_at_succ

theorem large_any (v vr : Value) (l : List BarD) (rs : List RunD) (w : World) (hp : Bars w v l) (hr : Runs w vr rs) (hl : l.length ≤ 140737488355328) (hlr : rs.length ≤ 140737488355328) :
    Calls Try.prog 11 #[v, vr] w (SomeB w) := by
  have HS := Lib.hid (rsmall_any v vr l rs 60 w hp hr hl hlr (by omega) (by omega))
  go_enter Try.func11, Try.ntmps11
  go_wp2_with fail
  refine HS.out.mono ?_
  rintro e w1 ⟨q, rfl, hb1⟩
  have HB1 := Lib.hid hb1
  clear hb1
  go_wp2
  go_ret
  exact ⟨_, rfl, HB1.out⟩

theorem laid_range {l : List BarD} {rs : List RunD} (h : laidOk l rs = true) {i : Int} {q : List Pt} (hq : (laidPts l rs)[i.toNat]? = some q) : i < (cumN rs : Int) := by
  have := (List.getElem?_eq_some_iff.1 hq).1
  rw [laidPts_len] at this
  omega
theorem laid_sum {l : List BarD} {rs : List RunD} (h : laidOk l rs = true) : (cumN rs : Int) = sumC rs ∧ rs.length ≤ 60 ∧ (∀ r ∈ rs, 1 ≤ r.count ∧ r.count ≤ 1000) ∧ SmallC rs ∧ sumC rs ≤ 2000 := by
  obtain ⟨q1, q2, q3, q4⟩ := laidOk_parts h
  have hs : ∀ r ∈ rs, 1 ≤ r.count ∧ r.count ≤ 1000 := fun r hm => right_count (q3 r hm)
  exact ⟨cumN_sum fun r hm => (hs r hm).1, q2, hs, smallC_of q2 hs, q4⟩

abbrev bx0 : Bx := ⟨⟨0, 0, 0⟩, ⟨0, 0, 0⟩⟩
theorem eq_box0 (W : World) : (Op.equalIn 10000 33 (.agg #[.int .i64 0, .int .i64 0, .int .i64 0, .int .i64 0, .int .i64 0, .int .i64 0]) (.agg #[.int .i64 0, .int .i64 0, .int .i64 0, .int .i64 0, .int .i64 0, .int .i64 0])).run Try.prog W = .ok true W := by
  rw [← dec_yes (rfl : bx0 = bx0)]
  exact run_eq_bx bx0 bx0 W

structure BoxW (w : World) (g : Nat) (U : Bx) (W : World) : Prop where
  below : Below w.heap.size w W
  blk : BlkIs W g 33 (bxCellsA U)
abbrev BoxS (g : Nat) (U : Bx) (W : World) : Prop :=
  W.cell? ⟨g, 0, none⟩ = some (.int .i64 U.lo.x) ∧ W.cell? ⟨g, 1, none⟩ = some (.int .i64 U.lo.y) ∧ W.cell? ⟨g, 2, none⟩ = some (.int .i64 U.lo.z) ∧ W.cell? ⟨g, 3, none⟩ = some (.int .i64 U.hi.x) ∧ W.cell? ⟨g, 4, none⟩ = some (.int .i64 U.hi.y) ∧ W.cell? ⟨g, 5, none⟩ = some (.int .i64 U.hi.z)
section
variable {w W W' : World} {g : Nat} {U : Bx}
theorem BoxW.after (h : BoxW w g U W) (hb : Below W.heap.size W W') : BoxW w g U W' := ⟨bstep h.below hb, h.blk.below hb⟩
theorem BoxW.drew (h : BoxW w g U W) : BoxW w g U W.drew := ⟨h.below.drew, h.blk⟩
theorem BoxW.s (h : BoxW w g U W) : BoxS g U W := ⟨h.blk.cell 0, h.blk.cell 1, h.blk.cell 2, h.blk.cell 3, h.blk.cell 4, h.blk.cell 5⟩
end
theorem OwnBxs.keep {W W' : World} {B : Nat} {o : Value} {G : List Bx} (h : OwnBxs W B o G) (hb : Below W.heap.size W W') : OwnBxs W' B o G := OwnN.below h hb
theorem eqBx_same (o o' : Value) (G : List Bx) (W : World) (B B' : Nat) (h : OwnBxs W B o G) (h' : OwnBxs W B' o' G) (hl : G.length ≤ 140737488355328) : Calls Try.prog 16 #[o, o'] W fun e w' => e = .returned (.bool true) ∧ Below W.heap.size W w' := by
  have := eqBx_any o o' G G W (OwnN.fl bx_len h) (OwnN.fl bx_len h') hl hl
  rw [dec_yes rfl] at this
  exact this

set_option maxRecDepth 100000 in
set_option maxHeartbeats 4000000 in
theorem laidLegs_walk (w : World) (v : Value) (l : List BarD) (hp : Bars w v l) (hf : FitB l) (hl : l.length * 64 ≤ 140737488351232) (vr : Value) (rs : List RunD) (hr : Runs w vr rs) (hm : ∀ r ∈ rs, r.mark.size ≤ maxLen) (hlr : rs.length * 88 ≤ 140737488351232) (i : Int) (wf : (Lit.int .i64 i).wf = true) :
    Calls Try.prog 3 #[v, vr, .int .i64 i] w fun e w' => e = .returned (.bool true) ∧ Below w.heap.size w w' := by
  have hl2 : l.length ≤ 140737488355328 := by omega
  have hlr2 : rs.length ≤ 140737488355328 := by omega
  have HLA := Lib.hid (fun W (hW : Below w.heap.size w W) => large_any v vr l rs W (hp.below hW) (hr.below hW) hl2 hlr2)
  have HRV := Lib.hid (fun W (hW : Below w.heap.size w W) => rlaid_any v vr l rs W (hp.below hW) (hr.below hW) hl2 hlr2 hf)
  have HP := Lib.hid hp
  have HR := Lib.hid hr
  have HFI := Lib.hid hf
  clear hp hr hf hl hlr hm
  cases hok : laidOk l rs with
  | false =>
    have HL := Lib.hid (fun W (hW : Below w.heap.size w W) => legs_bad v vr i l rs W (HP.out.below hW) (HR.out.below hW) hl2 hlr2 HFI.out hok)
    have HH := Lib.hid (fun W (hW : Below w.heap.size w W) => hull_bad v vr i l rs W (HP.out.below hW) (HR.out.below hW) hl2 hlr2 HFI.out hok)
    rw [hok] at HRV
    clear hok
    go_enter Try.func3, Try.ntmps3
    go_wp2_with fail
    refine (awake_any _).mono ?_
    rintro e w1 ⟨rfl, hb1⟩
    have HB1 := Lib.hid hb1
    clear hb1
    go_wp2_with fail
    refine (HLA.out _ HB1.out).mono ?_
    rintro e w2 ⟨q, rfl, hb2⟩
    have HB2 := Lib.hid (bstep HB1.out hb2)
    clear hb2
    cases q
    · go_wp2_with fail
      refine (HL.out _ HB2.out).mono ?_
      rintro e w3 ⟨rfl, hb3⟩
      have HB3 := Lib.hid (bstep HB2.out hb3)
      clear hb3
      go_wp2_with fail
      refine (HH.out _ HB3.out).mono ?_
      rintro e w4 ⟨rfl, hb4⟩
      have HB4 := Lib.hid (bstep HB3.out hb4)
      clear hb4
      go_wp2_with fail
      refine (HRV.out _ (HB4.out.alloc HB4.out.size _)).mono ?_
      rintro e w5 ⟨rfl, hb5⟩
      have HB5 := Lib.hid (bstep (HB4.out.alloc HB4.out.size (.cells #[.int .i64 0, .int .i64 0, .int .i64 0, .int .i64 0, .int .i64 0, .int .i64 0] 33)) hb5)
      have hx := (BlkIs.new w4 #[.int .i64 0, .int .i64 0, .int .i64 0, .int .i64 0, .int .i64 0, .int .i64 0] 33).below hb5
      have e0 := hx.cell 0
      have e1 := hx.cell 1
      have e2 := hx.cell 2
      have e3 := hx.cell 3
      have e4 := hx.cell 4
      have e5 := hx.cell 5
      have hq := eq_box0
      clear hb5 hx
      go_wp2
      go_ret
      exact ⟨rfl, HB5.out⟩
    · go_wp2
      go_ret
      exact ⟨rfl, HB2.out⟩
  | true =>
    have HL := Lib.hid (fun W (hW : Below w.heap.size w W) => legs_good v vr i l rs W (HP.out.below hW) (HR.out.below hW) hl2 hlr2 HFI.out hok)
    have HH := Lib.hid (fun W (hW : Below w.heap.size w W) => hull_good v vr i l rs W (HP.out.below hW) (HR.out.below hW) hl2 hlr2 HFI.out hok)
    obtain ⟨s1, s2, s3, s4, s5⟩ := laid_sum hok
    have HC := Lib.hid (fun W (hW : Below w.heap.size w W) => rcount_any vr rs W (HR.out.below hW) (by omega) s4)
    have HOK := Lib.hid hok
    rw [hok] at HRV
    rw [← s1] at HC
    have hc0 : (0 : Int) ≤ (cumN rs : Int) := by omega
    clear hok s1 s2 s3 s4 s5
    go_enter Try.func3, Try.ntmps3
    go_wp2_with fail
    refine (awake_any _).mono ?_
    rintro e w1 ⟨rfl, hb1⟩
    have HB1 := Lib.hid hb1
    clear hb1
    go_wp2_with fail
    refine (HLA.out _ HB1.out).mono ?_
    rintro e w2 ⟨q, rfl, hb2⟩
    have HB2 := Lib.hid (bstep HB1.out hb2)
    clear hb2
    cases q
    · go_wp2_with fail
      refine (HL.out _ HB2.out).mono ?_
      rintro e w3 (⟨q, o, hi0, hq, rfl, ho3, hb3⟩ | ⟨hi0, rfl, hb3⟩)
      · have HB3 := Lib.hid (bstep HB2.out hb3)
        have HQ := Lib.hid hq
        have hi1 := laid_range HOK.out hq
        have HO3 := Lib.hid ho3
        clear hb3 hq ho3
        go_wp2_with fail
        refine (HH.out _ HB3.out).mono ?_
        rintro e w4 (⟨q2, _, hq2, rfl, hb4⟩ | ⟨hi2, _, _⟩)
        · obtain rfl : q2 = q := Option.some.inj (hq2.symm.trans HQ.out)
          have HB4 := Lib.hid (bstep HB3.out hb4)
          have HO4 := Lib.hid (OwnN.below HO3.out hb4)
          obtain ⟨n, rfl⟩ : ∃ n : Nat, i = (n : Int) := ⟨i.toNat, by omega⟩
          have HRL := Lib.hid (fun W (hW : Below w.heap.size w W) => rlegs_any v vr l rs n q2 W (HP.out.below hW) (HR.out.below hW) hl2 HOK.out (by omega) HQ.out)
          have HRH := Lib.hid (fun W (hW : Below w.heap.size w W) => rhull16_any v vr l rs n q2 W (HP.out.below hW) (HR.out.below hW) hl2 HOK.out (by omega) HQ.out)
          obtain ⟨n1, n2, n3⟩ := laid_near HOK.out HQ.out
          have HLN : Hid ((legsN q2 (q2.length - 1)).length ≤ 140737488355328) := by unfold Hid; rw [legsN_len]; omega
          generalize hG : legsN q2 (q2.length - 1) = G at *
          generalize hHU : hullP q2 = U at *
          clear hb4 hq2 HQ n1 n2 n3 hG hHU HL HH HO3 HLA
          have HW0 : Hid (BoxW w w4.heap.size U (w4.alloc (.cells (bxCellsA U) 33))) := ⟨HB4.out.alloc HB4.out.size _, BlkIs.new _ _ _⟩
          have HO5 := Lib.hid (OwnN.alloc HO4.out (.cells (bxCellsA U) 33))
          go_wp2_with fail
          refine (HRV.out _ HW0.out.below).mono ?_
          rintro e w5 ⟨rfl, hb5⟩
          have HW5 := Lib.hid (HW0.out.after hb5)
          have HO6 := Lib.hid (OwnN.below HO5.out hb5)
          clear hb5 HO5 HW0 HO4
          have hn : n < cumN rs := by omega
          have dn : decide (cumN rs ≤ n) = false := dec_no (by omega)
          go_wp2_with fail
          refine (HC.out _ HW5.out.below).mono ?_
          rintro e w6 ⟨rfl, rfl⟩
          have hq : ∀ W, (Op.equalIn 10000 33 (.agg #[.int .i64 U.lo.x, .int .i64 U.lo.y, .int .i64 U.lo.z, .int .i64 U.hi.x, .int .i64 U.hi.y, .int .i64 U.hi.z]) (.agg #[.int .i64 U.lo.x, .int .i64 U.lo.y, .int .i64 U.lo.z, .int .i64 U.hi.x, .int .i64 U.hi.y, .int .i64 U.hi.z])).run Try.prog W = .ok true W := fun W => by
            have := run_eq_bx U U W
            rw [dec_yes rfl] at this
            exact this
          go_upto_region 14 with fail
          have HW := Lib.hid HW5.out
          have HO : Hid (OwnBxs w5 w2.heap.size o G) := HO6
          clear HW5 HO6 HC HRV HB4 HB1 HB2 HB3
          go_region_held3 (fun w' => w'.cell? ⟨w4.heap.size, 0, none⟩ = some (.int .i64 U.lo.x) ∧ w'.cell? ⟨w4.heap.size, 1, none⟩ = some (.int .i64 U.lo.y) ∧ w'.cell? ⟨w4.heap.size, 2, none⟩ = some (.int .i64 U.lo.z) ∧ w'.cell? ⟨w4.heap.size, 3, none⟩ = some (.int .i64 U.hi.x) ∧ w'.cell? ⟨w4.heap.size, 4, none⟩ = some (.int .i64 U.hi.y) ∧ w'.cell? ⟨w4.heap.size, 5, none⟩ = some (.int .i64 U.hi.z))
            ((first
              | (with_reducible exact HW.out.s)
              | (with_reducible exact HW.out.drew.s)
              | fail))
            ((first
              | (go_at_call 17; (first | (with_reducible refine (HRL.out _ HW.out.below).mono ?_) | (with_reducible refine (HRL.out _ HW.out.drew.below).mono ?_)); rintro e w7 ⟨o7, rfl, HO7, hb7⟩; (first | (replace HW := Lib.hid (HW.out.after hb7); replace HO := Lib.hid (HO.out.keep hb7)) | (replace HW := Lib.hid (HW.out.after (below_drawn hb7)); replace HO := Lib.hid (HO.out.keep (below_drawn hb7)))); clear hb7)
              | (go_at_call 16; (with_reducible refine (eqBx_same _ _ _ _ _ _ HO.out HO7.out HLN.out).mono ?_); rintro e w7 ⟨rfl, hb7⟩; (first | replace HW := Lib.hid (HW.out.after hb7) | replace HW := Lib.hid (HW.out.after (below_drawn hb7))); clear hb7 HO7)
              | (go_at_call 18; (first | (with_reducible refine (HRH.out _ HW.out.below).mono ?_) | (with_reducible refine (HRH.out _ HW.out.drew.below).mono ?_)); rintro e w7 ⟨rfl, hb7⟩; (first | replace HW := Lib.hid (HW.out.after hb7) | replace HW := Lib.hid (HW.out.after (below_drawn hb7))); clear hb7)
              | fail))
          all_goals
            go_wp2
            go_ret
            exact ⟨rfl, by first | exact HW.out.below | exact HW.out.drew.below⟩
        · omega
      · have HB3 := Lib.hid (bstep HB2.out hb3)
        have HI := Lib.hid hi0
        clear hb3 hi0
        go_wp2_with fail
        refine (HH.out _ HB3.out).mono ?_
        rintro e w4 (⟨q2, hi2, hq2, _, _⟩ | ⟨hi2, rfl, hb4⟩)
        · have := laid_range HOK.out hq2
          have := HI.out
          omega
        · have HB4 := Lib.hid (bstep HB3.out hb4)
          clear hb4 hi2 HL HH
          go_wp2_with fail
          refine (HRV.out _ (HB4.out.alloc HB4.out.size _)).mono ?_
          rintro e w5 ⟨rfl, hb5⟩
          have HB5 := Lib.hid (bstep (HB4.out.alloc HB4.out.size (.cells #[.int .i64 0, .int .i64 0, .int .i64 0, .int .i64 0, .int .i64 0, .int .i64 0] 33)) hb5)
          have hx := (BlkIs.new w4 #[.int .i64 0, .int .i64 0, .int .i64 0, .int .i64 0, .int .i64 0, .int .i64 0] 33).below hb5
          have e0 := hx.cell 0
          have e1 := hx.cell 1
          have e2 := hx.cell 2
          have e3 := hx.cell 3
          have e4 := hx.cell 4
          have e5 := hx.cell 5
          have hq := eq_box0
          clear hb5 hx
          rcases HI.out with hi | hi
          · have d1 : decide (i < 0) = true := dec_yes hi
            go_wp2
            go_ret
            exact ⟨rfl, HB5.out⟩
          · have d1 : decide (i < 0) = false := dec_no (by omega)
            have d2 : decide ((cumN rs : Int) ≤ i) = true := dec_yes hi
            have hi3 : ¬ i < 0 := by omega
            go_wp2_with fail
            refine (HC.out _ HB5.out).mono ?_
            rintro e w6 ⟨rfl, rfl⟩
            go_wp2
            go_ret
            exact ⟨rfl, HB5.out⟩
    · go_wp2
      go_ret
      exact ⟨rfl, HB2.out⟩
end Go.Proofs.Ytpidjgljeooblaa
