/-
  The walk of BlockLists.
-/
import Derived.Test.YtnlloecbjohfdaaGreatRnl
import Derived.Test.YtnlloecbjohfdaaGreatRnm
import Derived.Test.YtnlloecbjohfdaaGreatBkI
import Derived.Test.YtnlloecbjohfdaaGreatLib
namespace Go.Proofs.YtnlloecbjohfdaaGreat
section
open Go.RowKit
set_option linter.unusedVariables false
set_option linter.unusedSimpArgs false
attribute [local go_sem ↓] Go.wp_at_zero Go.wp_at_succ

theorem eqI_same (o o' : Value) (G : List Int) (W : World) (h : Ints W o G) (h' : Ints W o' G) (hl : G.length ≤ 140737488355328) : Calls Tryz.prog 47 #[o, o'] W fun e w' => e = .returned (.bool true) ∧ Below W.heap.size W w' := by
  have h := equal_any o o' G G W h h' hl hl
  rwa [dec_yes rfl] at h
set_option maxRecDepth 100000 in
set_option maxHeartbeats 16000000 in
theorem blockLists_walk (w : World) (v : Value) (l : List BarD) (hp : Bars w v l) (hf : FitB l) (hl : l.length * 64 ≤ 140737488351232) (vr : Value) (rs : List RunD) (hr : Runs w vr rs) (hm : ∀ r ∈ rs, r.mark.size ≤ maxLen) (hlr : rs.length * 88 ≤ 140737488351232)
    (i : Int) (wi : (Lit.int .i64 i).wf = true) (x : Int) (wx : (Lit.int .i64 x).wf = true) (tv : Value) (T : List Int) (ht : Ints w tv T) (hlt : T.length * 8 ≤ 140737488351232) (wt : ∀ x ∈ T, (Lit.int .i64 x).wf = true) :
    Calls Tryz.prog 8 #[v, vr, .int .i64 i, .int .i64 x, tv] w fun e w' => e = .returned (.bool true) ∧ Below w.heap.size w w' := by
  have hl2 : l.length ≤ 140737488355328 := by omega
  have hlr2 : rs.length ≤ 140737488355328 := by omega
  have HFW := Lib.hid (fun W (hW : Below w.heap.size w W) => few_any v vr l rs W (hp.below hW) (hr.below hW) hl2 hlr2)
  obtain ⟨tpo, tc, rfl⟩ := Sl.at_ ht
  by_cases h30 : 30 < T.length
  · have d30 : decide ((30 : Int) < (T.length : Int)) = true := dec_yes (by omega)
    have hh30 : (30 : Int) < (T.length : Int) := by omega
    clear hp hr hf hl hlr hm wt ht
    go_enter Tryz.func8, Tryz.ntmps8
    go_wp2_with fail
    refine (bawake_any _).mono ?_
    rintro e w1 ⟨rfl, hb1⟩
    have HW1 := Lib.hid hb1
    clear hb1
    go_wp2_with fail
    refine (HFW.out _ HW1.out).mono ?_
    rintro e w2 ⟨q, rfl, hb2, hq⟩
    have HW2 := Lib.hid (bstep HW1.out hb2)
    clear hb2 hq
    cases q
    all_goals
      go_wp2
      go_ret
      exact ⟨rfl, HW2.out⟩
  · have d30 : decide ((30 : Int) < (T.length : Int)) = false := dec_no (by omega)
    have hh30 : ¬ (30 : Int) < (T.length : Int) := by omega
    have HGI := Lib.hid (fun x W (hW : Below w.heap.size w W) => rgiven_any v vr i x (.slice tpo T.length tc) T l rs W (hp.below hW) (hr.below hW) (Sl.below ht hW) hl2 hlr2 (by omega) hf)
    cases hok : laidOk l rs with
    | false =>
      have HPB := Lib.hid (fun W (hW : Below w.heap.size w W) => blockedI_bad v vr i x (.slice tpo T.length tc) l rs W (hp.below hW) (hr.below hW) hl2 hlr2 hf hok)
      have HPW := Lib.hid (fun W (hW : Below w.heap.size w W) => waysI_bad v vr i (.slice tpo T.length tc) l rs W (hp.below hW) (hr.below hW) hl2 hlr2 hf hok)
      rw [hok] at HGI
      have HG1 : Hid (∀ W (hW : Below w.heap.size w W), Calls Tryz.prog 19 #[v, vr, .int .i64 i, .int .i64 x, .slice tpo T.length tc] W fun e w' => e = .returned (.int .i64 1) ∧ Below W.heap.size W w') := HGI.out x
      have HG2 : Hid (∀ W (hW : Below w.heap.size w W), Calls Tryz.prog 19 #[v, vr, .int .i64 i, .int .i64 1, .slice tpo T.length tc] W fun e w' => e = .returned (.int .i64 1) ∧ Below W.heap.size W w') := HGI.out 1
      have HC1 : Hid ((1 : Int) ≠ 0) := by unfold Hid; omega
      have HC2 := HC1
      clear hok hp hr hf hl hlr hm wt ht HGI
      go_enter Tryz.func8, Tryz.ntmps8
      go_wp2_with fail
      refine (bawake_any _).mono ?_
      rintro e w1 ⟨rfl, hb1⟩
      have HW1 := Lib.hid hb1
      clear hb1
      go_wp2_with fail
      refine (HFW.out _ HW1.out).mono ?_
      rintro e w2 ⟨q, rfl, hb2, hq⟩
      have HW2 := Lib.hid (bstep HW1.out hb2)
      clear hb2 hq
      cases q
      · go_wp2
        go_ret
        exact ⟨rfl, HW2.out⟩
      · go_wp2_with fail
        refine (HPB.out _ HW2.out).mono ?_
        rintro e w3 ⟨o3, rfl, _, ho3, hb3⟩
        obtain rfl := ho3 HC1.out
        have HW3 := Lib.hid (bstep HW2.out hb3)
        clear hb3 ho3
        go_wp2_with fail
        refine (HPW.out _ HW3.out).mono ?_
        rintro e w4 ⟨o4, rfl, _, ho4, hb4⟩
        obtain rfl := ho4 HC2.out
        have HW4 := Lib.hid (bstep HW3.out hb4)
        clear hb4 ho4
        go_wp2_with fail
        refine (HG1.out _ HW4.out).mono ?_
        rintro e w5 ⟨rfl, hb5⟩
        have HW5 := Lib.hid (bstep HW4.out hb5)
        clear hb5
        go_wp2_with fail
        refine (HG2.out _ HW5.out).mono ?_
        rintro e w8 ⟨rfl, hb8⟩
        have HW8 := Lib.hid (bstep HW5.out hb8)
        clear hb8
        go_wp2
        go_ret
        exact ⟨rfl, HW8.out⟩
    | true =>
      have HPB := Lib.hid (fun W (hW : Below w.heap.size w W) => blockedI_good v vr i x (.slice tpo T.length tc) T l rs W (hp.below hW) (hr.below hW) (Sl.below ht hW) hl2 hlr2 (by omega) hf hok)
      have HPW := Lib.hid (fun W (hW : Below w.heap.size w W) => waysI_good v vr i (.slice tpo T.length tc) T l rs W (hp.below hW) (hr.below hW) (Sl.below ht hW) hl2 hlr2 (by omega) hf hok)
      rw [hok] at HGI
      have HG1 : Hid (∀ W (hW : Below w.heap.size w W), Calls Tryz.prog 19 #[v, vr, .int .i64 i, .int .i64 x, .slice tpo T.length tc] W fun e w' => e = .returned (.int .i64 (othE (lgsOf l rs).length i x T)) ∧ Below W.heap.size W w') := HGI.out x
      have HG2 : Hid (∀ W (hW : Below w.heap.size w W), Calls Tryz.prog 19 #[v, vr, .int .i64 i, .int .i64 1, .slice tpo T.length tc] W fun e w' => e = .returned (.int .i64 (othE (lgsOf l rs).length i 1 T)) ∧ Below W.heap.size W w') := HGI.out 1
      clear HGI
      by_cases h1 : othE (lgsOf l rs).length i x T = 0
      · skip
        obtain ⟨⟨i0, i1⟩, hT, hx, hnd⟩ := othE_zero h1
        obtain ⟨n, hn⟩ : ∃ n : Nat, i = (n : Int) := ⟨i.toNat, by omega⟩
        have HRB : Hid (∀ W (hW : Below w.heap.size w W), Calls Tryz.prog 48 #[v, vr, .int .i64 i, .int .i64 x, .slice tpo T.length tc] W fun e w' => ∃ o, e = .returned o ∧ Hid (OwnI w' W.heap.size o (blkL (lgsOf l rs) (szsOf l rs) x i.toNat T)) ∧ Below W.heap.size W w') := fun W hW => by
          rw [hn, Int.toNat_natCast]
          exact rblkd_any v vr (.slice tpo T.length tc) n x T l rs W (hp.below hW) (hr.below hW) (Sl.below ht hW) hl2 hok (by omega) hx hT (by omega)
        have HLB : Hid ((blkL (lgsOf l rs) (szsOf l rs) x i.toNat T).length ≤ 140737488355328) := by
          unfold Hid
          have h7 : (blkL (lgsOf l rs) (szsOf l rs) x i.toNat T).length ≤ T.length := List.length_filter_le _ _
          omega
        rw [h1] at HPB HG1
        clear hn i0 i1 hT hx hnd
        by_cases h2 : othE (lgsOf l rs).length i 1 T = 0
        · skip
          obtain ⟨⟨i0, i1⟩, hT, hx, hnd⟩ := othE_zero h2
          obtain ⟨n, hn⟩ : ∃ n : Nat, i = (n : Int) := ⟨i.toNat, by omega⟩
          have HRW : Hid (∀ W (hW : Below w.heap.size w W), Calls Tryz.prog 49 #[v, vr, .int .i64 i, .slice tpo T.length tc] W fun e w' => ∃ o, e = .returned o ∧ Hid (OwnI w' W.heap.size o (waysL (lgsOf l rs) (szsOf l rs) i.toNat T)) ∧ Below W.heap.size W w') := fun W hW => by
            rw [hn, Int.toNat_natCast]
            exact rways_any v vr (.slice tpo T.length tc) n T l rs W (hp.below hW) (hr.below hW) (Sl.below ht hW) hl2 hok (by omega) hT (by omega)
          have HLW : Hid ((waysL (lgsOf l rs) (szsOf l rs) i.toNat T).length ≤ 140737488355328) := by
            unfold Hid
            have h7 : (waysL (lgsOf l rs) (szsOf l rs) i.toNat T).length ≤ axesL.length := List.length_filter_le _ _
            simp [axesL] at h7
            omega
          rw [h2] at HPW HG2
          clear hn i0 i1 hT hx hnd
          generalize blkL (lgsOf l rs) (szsOf l rs) x i.toNat T = RB at *
          generalize waysL (lgsOf l rs) (szsOf l rs) i.toNat T = RW at *
          clear hok hp hr hf hl hlr hm wt ht h1 h2
          go_enter Tryz.func8, Tryz.ntmps8
          go_wp2_with fail
          refine (bawake_any _).mono ?_
          rintro e w1 ⟨rfl, hb1⟩
          have HW1 := Lib.hid hb1
          clear hb1
          go_wp2_with fail
          refine (HFW.out _ HW1.out).mono ?_
          rintro e w2 ⟨q, rfl, hb2, hq⟩
          have HW2 := Lib.hid (bstep HW1.out hb2)
          clear hb2 hq
          cases q
          · go_wp2
            go_ret
            exact ⟨rfl, HW2.out⟩
          · go_wp2_with fail
            refine (HPB.out _ HW2.out).mono ?_
            rintro e w3 ⟨o3, rfl, ho3, _, hb3⟩
            have HO3 := Lib.hid (Own.sl (ho3 rfl))
            obtain ⟨oa3, oc3, rfl⟩ := (ho3 rfl).shape
            have HW3 := Lib.hid (bstep HW2.out hb3)
            clear hb3 ho3
            go_wp2_with fail
            refine (HPW.out _ HW3.out).mono ?_
            rintro e w4 ⟨o4, rfl, ho4, _, hb4⟩
            have HO4 := Lib.hid (Own.sl (ho4 rfl))
            obtain ⟨oa4, oc4, rfl⟩ := (ho4 rfl).shape
            have HW4 := Lib.hid (bstep HW3.out hb4)
            have HO3b := Lib.hid (Sl.below HO3.out hb4)
            clear hb4 ho4
            go_wp2_with fail
            refine (HG1.out _ HW4.out).mono ?_
            rintro e w5 ⟨rfl, hb5⟩
            have HW5 := Lib.hid (bstep HW4.out hb5)
            have HO3c := Lib.hid (Sl.below HO3b.out hb5)
            have HO4c := Lib.hid (Sl.below HO4.out hb5)
            clear hb5
            go_wp2_with fail
            refine (HRB.out _ HW5.out).mono ?_
            rintro e w6 ⟨o6, rfl, HO6, hb6⟩
            have HW6 := Lib.hid (bstep HW5.out hb6)
            have HEQ := Lib.hid (eqI_same _ o6 RB w6 (Sl.below HO3c.out hb6) (Own.sl HO6.out) HLB.out)
            have HO4d := Lib.hid (Sl.below HO4c.out hb6)
            clear hb6
            go_wp2_with fail
            refine HEQ.out.mono ?_
            rintro e w7 ⟨rfl, hb7⟩
            have HW7 := Lib.hid (bstep HW6.out hb7)
            have HO4e := Lib.hid (Sl.below HO4d.out hb7)
            clear hb7
            go_wp2_with fail
            refine (HG2.out _ HW7.out).mono ?_
            rintro e w8 ⟨rfl, hb8⟩
            have HW8 := Lib.hid (bstep HW7.out hb8)
            have HO4f := Lib.hid (Sl.below HO4e.out hb8)
            clear hb8
            go_wp2_with fail
            refine (HRW.out _ HW8.out).mono ?_
            rintro e w9 ⟨o9, rfl, HO9, hb9⟩
            have HW9 := Lib.hid (bstep HW8.out hb9)
            have HEQ2 := Lib.hid (eqI_same _ o9 RW w9 (Sl.below HO4f.out hb9) (Own.sl HO9.out) HLW.out)
            clear hb9
            go_wp2_with fail
            refine HEQ2.out.mono ?_
            rintro e w10 ⟨rfl, hb10⟩
            have HW10 := Lib.hid (bstep HW9.out hb10)
            clear hb10
            go_wp2
            go_ret
            exact ⟨rfl, HW10.out⟩
        · skip
          have hc2b : (othE (lgsOf l rs).length i 1 T != 0) = true := bne_yes h2
          have HC2 := Lib.hid h2
          generalize blkL (lgsOf l rs) (szsOf l rs) x i.toNat T = RB at *
          generalize waysL (lgsOf l rs) (szsOf l rs) i.toNat T = RW at *
          generalize othE (lgsOf l rs).length i 1 T = c2 at *
          clear hok hp hr hf hl hlr hm wt ht h1 h2
          go_enter Tryz.func8, Tryz.ntmps8
          go_wp2_with fail
          refine (bawake_any _).mono ?_
          rintro e w1 ⟨rfl, hb1⟩
          have HW1 := Lib.hid hb1
          clear hb1
          go_wp2_with fail
          refine (HFW.out _ HW1.out).mono ?_
          rintro e w2 ⟨q, rfl, hb2, hq⟩
          have HW2 := Lib.hid (bstep HW1.out hb2)
          clear hb2 hq
          cases q
          · go_wp2
            go_ret
            exact ⟨rfl, HW2.out⟩
          · go_wp2_with fail
            refine (HPB.out _ HW2.out).mono ?_
            rintro e w3 ⟨o3, rfl, ho3, _, hb3⟩
            have HO3 := Lib.hid (Own.sl (ho3 rfl))
            obtain ⟨oa3, oc3, rfl⟩ := (ho3 rfl).shape
            have HW3 := Lib.hid (bstep HW2.out hb3)
            clear hb3 ho3
            go_wp2_with fail
            refine (HPW.out _ HW3.out).mono ?_
            rintro e w4 ⟨o4, rfl, _, ho4, hb4⟩
            obtain rfl := ho4 HC2.out
            have HW4 := Lib.hid (bstep HW3.out hb4)
            have HO3b := Lib.hid (Sl.below HO3.out hb4)
            clear hb4 ho4
            go_wp2_with fail
            refine (HG1.out _ HW4.out).mono ?_
            rintro e w5 ⟨rfl, hb5⟩
            have HW5 := Lib.hid (bstep HW4.out hb5)
            have HO3c := Lib.hid (Sl.below HO3b.out hb5)
            clear hb5
            go_wp2_with fail
            refine (HRB.out _ HW5.out).mono ?_
            rintro e w6 ⟨o6, rfl, HO6, hb6⟩
            have HW6 := Lib.hid (bstep HW5.out hb6)
            have HEQ := Lib.hid (eqI_same _ o6 RB w6 (Sl.below HO3c.out hb6) (Own.sl HO6.out) HLB.out)
            clear hb6
            go_wp2_with fail
            refine HEQ.out.mono ?_
            rintro e w7 ⟨rfl, hb7⟩
            have HW7 := Lib.hid (bstep HW6.out hb7)
            clear hb7
            go_wp2_with fail
            refine (HG2.out _ HW7.out).mono ?_
            rintro e w8 ⟨rfl, hb8⟩
            have HW8 := Lib.hid (bstep HW7.out hb8)
            clear hb8
            go_wp2
            go_ret
            exact ⟨rfl, HW8.out⟩
      · skip
        have hc1b : (othE (lgsOf l rs).length i x T != 0) = true := bne_yes h1
        have HC1 := Lib.hid h1
        by_cases h2 : othE (lgsOf l rs).length i 1 T = 0
        · skip
          obtain ⟨⟨i0, i1⟩, hT, hx, hnd⟩ := othE_zero h2
          obtain ⟨n, hn⟩ : ∃ n : Nat, i = (n : Int) := ⟨i.toNat, by omega⟩
          have HRW : Hid (∀ W (hW : Below w.heap.size w W), Calls Tryz.prog 49 #[v, vr, .int .i64 i, .slice tpo T.length tc] W fun e w' => ∃ o, e = .returned o ∧ Hid (OwnI w' W.heap.size o (waysL (lgsOf l rs) (szsOf l rs) i.toNat T)) ∧ Below W.heap.size W w') := fun W hW => by
            rw [hn, Int.toNat_natCast]
            exact rways_any v vr (.slice tpo T.length tc) n T l rs W (hp.below hW) (hr.below hW) (Sl.below ht hW) hl2 hok (by omega) hT (by omega)
          have HLW : Hid ((waysL (lgsOf l rs) (szsOf l rs) i.toNat T).length ≤ 140737488355328) := by
            unfold Hid
            have h7 : (waysL (lgsOf l rs) (szsOf l rs) i.toNat T).length ≤ axesL.length := List.length_filter_le _ _
            simp [axesL] at h7
            omega
          rw [h2] at HPW HG2
          clear hn i0 i1 hT hx hnd
          generalize blkL (lgsOf l rs) (szsOf l rs) x i.toNat T = RB at *
          generalize waysL (lgsOf l rs) (szsOf l rs) i.toNat T = RW at *
          generalize othE (lgsOf l rs).length i x T = c1 at *
          clear hok hp hr hf hl hlr hm wt ht h1 h2
          go_enter Tryz.func8, Tryz.ntmps8
          go_wp2_with fail
          refine (bawake_any _).mono ?_
          rintro e w1 ⟨rfl, hb1⟩
          have HW1 := Lib.hid hb1
          clear hb1
          go_wp2_with fail
          refine (HFW.out _ HW1.out).mono ?_
          rintro e w2 ⟨q, rfl, hb2, hq⟩
          have HW2 := Lib.hid (bstep HW1.out hb2)
          clear hb2 hq
          cases q
          · go_wp2
            go_ret
            exact ⟨rfl, HW2.out⟩
          · go_wp2_with fail
            refine (HPB.out _ HW2.out).mono ?_
            rintro e w3 ⟨o3, rfl, _, ho3, hb3⟩
            obtain rfl := ho3 HC1.out
            have HW3 := Lib.hid (bstep HW2.out hb3)
            clear hb3 ho3
            go_wp2_with fail
            refine (HPW.out _ HW3.out).mono ?_
            rintro e w4 ⟨o4, rfl, ho4, _, hb4⟩
            have HO4 := Lib.hid (Own.sl (ho4 rfl))
            obtain ⟨oa4, oc4, rfl⟩ := (ho4 rfl).shape
            have HW4 := Lib.hid (bstep HW3.out hb4)
            clear hb4 ho4
            go_wp2_with fail
            refine (HG1.out _ HW4.out).mono ?_
            rintro e w5 ⟨rfl, hb5⟩
            have HW5 := Lib.hid (bstep HW4.out hb5)
            have HO4c := Lib.hid (Sl.below HO4.out hb5)
            clear hb5
            go_wp2_with fail
            refine (HG2.out _ HW5.out).mono ?_
            rintro e w8 ⟨rfl, hb8⟩
            have HW8 := Lib.hid (bstep HW5.out hb8)
            have HO4f := Lib.hid (Sl.below HO4c.out hb8)
            clear hb8
            go_wp2_with fail
            refine (HRW.out _ HW8.out).mono ?_
            rintro e w9 ⟨o9, rfl, HO9, hb9⟩
            have HW9 := Lib.hid (bstep HW8.out hb9)
            have HEQ2 := Lib.hid (eqI_same _ o9 RW w9 (Sl.below HO4f.out hb9) (Own.sl HO9.out) HLW.out)
            clear hb9
            go_wp2_with fail
            refine HEQ2.out.mono ?_
            rintro e w10 ⟨rfl, hb10⟩
            have HW10 := Lib.hid (bstep HW9.out hb10)
            clear hb10
            go_wp2
            go_ret
            exact ⟨rfl, HW10.out⟩
        · skip
          have hc2b : (othE (lgsOf l rs).length i 1 T != 0) = true := bne_yes h2
          have HC2 := Lib.hid h2
          generalize blkL (lgsOf l rs) (szsOf l rs) x i.toNat T = RB at *
          generalize waysL (lgsOf l rs) (szsOf l rs) i.toNat T = RW at *
          generalize othE (lgsOf l rs).length i x T = c1 at *
          generalize othE (lgsOf l rs).length i 1 T = c2 at *
          clear hok hp hr hf hl hlr hm wt ht h1 h2
          go_enter Tryz.func8, Tryz.ntmps8
          go_wp2_with fail
          refine (bawake_any _).mono ?_
          rintro e w1 ⟨rfl, hb1⟩
          have HW1 := Lib.hid hb1
          clear hb1
          go_wp2_with fail
          refine (HFW.out _ HW1.out).mono ?_
          rintro e w2 ⟨q, rfl, hb2, hq⟩
          have HW2 := Lib.hid (bstep HW1.out hb2)
          clear hb2 hq
          cases q
          · go_wp2
            go_ret
            exact ⟨rfl, HW2.out⟩
          · go_wp2_with fail
            refine (HPB.out _ HW2.out).mono ?_
            rintro e w3 ⟨o3, rfl, _, ho3, hb3⟩
            obtain rfl := ho3 HC1.out
            have HW3 := Lib.hid (bstep HW2.out hb3)
            clear hb3 ho3
            go_wp2_with fail
            refine (HPW.out _ HW3.out).mono ?_
            rintro e w4 ⟨o4, rfl, _, ho4, hb4⟩
            obtain rfl := ho4 HC2.out
            have HW4 := Lib.hid (bstep HW3.out hb4)
            clear hb4 ho4
            go_wp2_with fail
            refine (HG1.out _ HW4.out).mono ?_
            rintro e w5 ⟨rfl, hb5⟩
            have HW5 := Lib.hid (bstep HW4.out hb5)
            clear hb5
            go_wp2_with fail
            refine (HG2.out _ HW5.out).mono ?_
            rintro e w8 ⟨rfl, hb8⟩
            have HW8 := Lib.hid (bstep HW5.out hb8)
            clear hb8
            go_wp2
            go_ret
            exact ⟨rfl, HW8.out⟩
end
end Go.Proofs.YtnlloecbjohfdaaGreat
