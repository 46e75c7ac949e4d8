/-
  The example of clash, and what each law of clash begins with: Need, example, awake, ready.
-/
import Derived.Test.YtpiigmhbbcjamaaGreatCso
import Derived.Test.YtpiigmhbbcjamaaGreatEqC
namespace Go.Proofs.YtpiigmhbbcjamaaGreat
section
open Go.RowKit
set_option linter.unusedVariables false
set_option linter.unusedSimpArgs false
attribute [local go_sem ↓] Go.wp_at_zero Go.wp_at_succ

/-! ### Need -/
def neE (d e c : Int) : Int := if szB d = true ∧ szB e = true then (if clrB c then 0 else 2) else 1
def neV (d e c : Int) : Int := if neE d e c = 0 then needN d e c else 0
theorem szB_bd {d : Int} (h : szB d = true) : 0 ≤ d ∧ d ≤ 10000 := by
  unfold szB at h
  rw [decide_eq_true_eq] at h
  simp only [szs, List.mem_cons, List.not_mem_nil, or_false] at h
  omega
set_option maxHeartbeats 2000000 in
theorem cneed_any (d e c : Int) (w : World) : Calls Tryz.prog 10 #[.int .i64 d, .int .i64 e, .int .i64 c] w fun en w' => en = .returned (.tuple #[.int .i64 (neV d e c), .int .i64 (neE d e c)]) ∧ Below w.heap.size w w' := by
  have HD := Lib.hid (fun W => size_any d W)
  have HE := Lib.hid (fun W => size_any e W)
  cases h1 : szB d with
  | false =>
    have HX : Hid (neE d e c = 1) := by unfold Hid neE; rw [h1]; rfl
    have HV : Hid (neV d e c = 0) := by unfold Hid neV; rw [HX.out]; rfl
    rw [h1] at HD
    rw [HX.out, HV.out]
    clear h1
    go_enter Tryz.func10, Tryz.ntmps10
    go_wp2_with fail
    refine (HD.out _).mono ?_
    rintro en w1 ⟨rfl, hb1⟩
    have HB1 := Lib.hid hb1
    clear hb1
    go_wp2
    go_ret2
    exact ⟨rfl, HB1.out⟩
  | true =>
    rw [h1] at HD
    cases h2 : szB e with
    | false =>
      have HX : Hid (neE d e c = 1) := by unfold Hid neE; rw [h1, h2]; rfl
      have HV : Hid (neV d e c = 0) := by unfold Hid neV; rw [HX.out]; rfl
      rw [h2] at HE
      rw [HX.out, HV.out]
      clear h1 h2
      go_enter Tryz.func10, Tryz.ntmps10
      go_wp2_with fail
      refine (HD.out _).mono ?_
      rintro en w1 ⟨rfl, hb1⟩
      have HB1 := Lib.hid hb1
      clear hb1
      go_wp2_with fail
      refine (HE.out _).mono ?_
      rintro en w2 ⟨rfl, hb2⟩
      have HB2 := Lib.hid (bstep HB1.out hb2)
      clear hb2
      go_wp2
      go_ret2
      exact ⟨rfl, HB2.out⟩
    | true =>
      rw [h2] at HE
      cases h3 : clrB c with
      | false =>
        have HX : Hid (neE d e c = 2) := by unfold Hid neE; rw [h1, h2, h3]; rfl
        have HV : Hid (neV d e c = 0) := by unfold Hid neV; rw [HX.out]; rfl
        rw [HX.out, HV.out]
        have hcc := clr_no h3
        clear h1 h2 h3
        by_cases h4 : c < 0
        · have d1 : decide (c < 0) = true := dec_yes h4
          clear hcc
          go_enter Tryz.func10, Tryz.ntmps10
          go_wp2_with fail
          refine (HD.out _).mono ?_
          rintro en w1 ⟨rfl, hb1⟩
          have HB1 := Lib.hid hb1
          clear hb1
          go_wp2_with fail
          refine (HE.out _).mono ?_
          rintro en w2 ⟨rfl, hb2⟩
          have HB2 := Lib.hid (bstep HB1.out hb2)
          clear hb2
          go_wp2
          go_ret2
          exact ⟨rfl, HB2.out⟩
        · have d1 : decide (c < 0) = false := dec_no h4
          have h5 : 1000 < c := by omega
          have d2 : decide (1000 < c) = true := dec_yes h5
          clear hcc
          go_enter Tryz.func10, Tryz.ntmps10
          go_wp2_with fail
          refine (HD.out _).mono ?_
          rintro en w1 ⟨rfl, hb1⟩
          have HB1 := Lib.hid hb1
          clear hb1
          go_wp2_with fail
          refine (HE.out _).mono ?_
          rintro en w2 ⟨rfl, hb2⟩
          have HB2 := Lib.hid (bstep HB1.out hb2)
          clear hb2
          go_wp2
          go_ret2
          exact ⟨rfl, HB2.out⟩
      | true =>
        have HX : Hid (neE d e c = 0) := by unfold Hid neE; rw [h1, h2, h3]; rfl
        have HV : Hid (neV d e c = needN d e c) := by unfold Hid neV; rw [HX.out]; rfl
        rw [HX.out, HV.out]
        obtain ⟨k1, k2⟩ := clr_yes h3
        have HN := Lib.hid (fun W => need_any d e c W (szB_bd h1) (szB_bd h2) ⟨k1, k2⟩)
        have d1 : decide (c < 0) = false := dec_no (by omega)
        have d2 : decide (1000 < c) = false := dec_no (by omega)
        have g1 : ¬ c < 0 := by omega
        have g2 : ¬ 1000 < c := by omega
        generalize needN d e c = nd at *
        clear h1 h2 h3 k1 k2
        go_enter Tryz.func10, Tryz.ntmps10
        go_wp2_with fail
        refine (HD.out _).mono ?_
        rintro en w1 ⟨rfl, hb1⟩
        have HB1 := Lib.hid hb1
        clear hb1
        go_wp2_with fail
        refine (HE.out _).mono ?_
        rintro en w2 ⟨rfl, hb2⟩
        have HB2 := Lib.hid (bstep HB1.out hb2)
        clear hb2
        go_wp2_with fail
        refine (HN.out _).mono ?_
        rintro en w3 ⟨rfl, hb3⟩
        have HB3 := Lib.hid (bstep HB2.out hb3)
        clear hb3
        go_wp2
        go_ret2
        exact ⟨rfl, HB3.out⟩

/-! ### the example -/
def cexBars : List BarD := [⟨⟨#[97]⟩, 16, 2, 0, [1000]⟩]
def cexRuns : List RunD := [⟨⟨#[97]⟩, 1, 2, ⟨0, 0, 0⟩, ⟨0, 50, 0⟩, 2⟩]
theorem cex_ok : laidOk cexBars cexRuns = true := by kernel_rfl
theorem cex_sqE : sqE (lgsOf cexBars cexRuns).length 0 1 = 0 := by kernel_rfl
theorem cex_sqV : sqV (lgsOf cexBars cexRuns) 0 1 = 2500 := by kernel_rfl
theorem cex_free : freeB (lgsOf cexBars cexRuns) (szsOf cexBars cexRuns) 33 = true := by kernel_rfl
theorem cex_len : (lgsOf cexBars cexRuns).length ≤ 14 := by
  have h : (lgsOf cexBars cexRuns).length = 2 := by kernel_rfl
  omega
theorem cex_all : allC (lgsOf cexBars cexRuns) (szsOf cexBars cexRuns) 35 (lgsOf cexBars cexRuns).length (lgsOf cexBars cexRuns).length = [⟨0, 1, ⟨0, 0, 0⟩, ⟨0, 50, 0⟩⟩] := by kernel_rfl
theorem cex_neE : neE 16 16 35 = 0 := by kernel_rfl
theorem cex_neV : neV 16 16 35 = 10404 := by kernel_rfl
theorem cex_fit : FitB cexBars := by
  intro b hb
  simp only [cexBars, List.mem_cons, List.not_mem_nil, or_false] at hb
  subst hb
  exact ⟨by unfold maxLen; decide, by decide⟩
def CexPost (w : World) (e : Ending) (w' : World) : Prop := ∃ v vr, e = .returned (.tuple #[v, vr]) ∧ Bars w' v cexBars ∧ Runs w' vr cexRuns ∧ Below w.heap.size w w'
theorem cex_bars {W : World} {g h : Nat} {n c : Nat} (hn : n = 1) (hd : BlkIs W h 3 #[.int .i64 1000]) (hb : BlkIs W g 87 #[.string ⟨#[97]⟩, .int .i64 16, .int .i64 2, .int .i64 0, .slice (some ⟨h, 0, none⟩) 1 1]) : Bars W (.slice (some ⟨g, 0, none⟩) n c) cexBars := by
  subst hn
  refine ⟨_, c, rfl, fun _ => ⟨g, 0, rfl, hb.lt, fun k x hk => ?_⟩⟩
  match k, hk with
  | 0, hk =>
    cases hk
    refine ⟨hb.cell 0, hb.cell 1, hb.cell 2, hb.cell 3, some ⟨h, 0, none⟩, 1, hb.cell 4, some ⟨h, 0, none⟩, 1, rfl, fun _ => ⟨h, 0, rfl, hd.lt, fun j y hj => ?_⟩⟩
    match j, hj with
    | 0, hj =>
      cases hj
      exact hd.cell 0
theorem cex_runs {W : World} {g : Nat} {n c : Nat} (hn : n = 1) (hb : BlkIs W g 75 #[.string ⟨#[97]⟩, .int .i64 1, .int .i64 2, .int .i64 0, .int .i64 0, .int .i64 0, .int .i64 0, .int .i64 50, .int .i64 0, .int .i64 2]) : Runs W (.slice (some ⟨g, 0, none⟩) n c) cexRuns := by
  subst hn
  refine ⟨_, c, rfl, fun _ => ⟨g, 0, rfl, hb.lt, fun k x hk j u hj => ?_⟩⟩
  match k, hk with
  | 0, hk =>
    cases hk
    rw [Nat.zero_mul, Nat.zero_add, hb.cell j]
    have hj2 := (List.getElem?_eq_some_iff.1 hj).1
    have : j < 10 := hj2
    rw [← hj]
    obtain rfl | rfl | rfl | rfl | rfl | rfl | rfl | rfl | rfl | rfl : j = 0 ∨ j = 1 ∨ j = 2 ∨ j = 3 ∨ j = 4 ∨ j = 5 ∨ j = 6 ∨ j = 7 ∨ j = 8 ∨ j = 9 := by omega
    all_goals rfl
set_option maxHeartbeats 2000000 in
theorem cexample_any (w : World) : Calls Tryz.prog 31 #[] w (CexPost w) := by
  have hx0 := (BlkIs.new w #[.int .i64 1000] 3).alloc (.cells #[.string ⟨#[97]⟩, .int .i64 16, .int .i64 2, .int .i64 0, .slice (some ⟨w.heap.size, 0, none⟩) 1 1] 87)
  have hx1 := BlkIs.new1 w (.cells #[.int .i64 1000] 3) #[.string ⟨#[97]⟩, .int .i64 16, .int .i64 2, .int .i64 0, .slice (some ⟨w.heap.size, 0, none⟩) 1 1] 87
  have HBA := Lib.hid (cex_bars (n := 1) (c := 1) rfl (hx0.below (below_new _ (.cells #[.string ⟨#[97]⟩, .int .i64 1, .int .i64 2, .int .i64 0, .int .i64 0, .int .i64 0, .int .i64 0, .int .i64 50, .int .i64 0, .int .i64 2] 75))) (hx1.below (below_new _ _)))
  have hx2 := BlkIs.new1 (w.alloc (.cells #[.int .i64 1000] 3)) (.cells #[.string ⟨#[97]⟩, .int .i64 16, .int .i64 2, .int .i64 0, .slice (some ⟨w.heap.size, 0, none⟩) 1 1] 87) #[.string ⟨#[97]⟩, .int .i64 1, .int .i64 2, .int .i64 0, .int .i64 0, .int .i64 0, .int .i64 0, .int .i64 50, .int .i64 0, .int .i64 2] 75
  simp only [World.size_alloc] at hx2
  have HRU := Lib.hid (cex_runs (n := 1) (c := 1) rfl hx2)
  have HB : Hid (Below w.heap.size w (((w.alloc (.cells #[.int .i64 1000] 3)).alloc (.cells #[.string ⟨#[97]⟩, .int .i64 16, .int .i64 2, .int .i64 0, .slice (some ⟨w.heap.size, 0, none⟩) 1 1] 87)).alloc (.cells #[.string ⟨#[97]⟩, .int .i64 1, .int .i64 2, .int .i64 0, .int .i64 0, .int .i64 0, .int .i64 0, .int .i64 50, .int .i64 0, .int .i64 2] 75))) := by unfold Hid; go_grown
  clear hx0 hx1 hx2
  go_enter Tryz.func31, Tryz.ntmps31
  go_wp2
  go_ret2
  exact ⟨_, _, rfl, HBA.out, HRU.out, HB.out⟩
theorem cls_lit (W : World) (cs : Array Value) (x : ClD) (h : cs = (clCells x).toArray) (n : Nat) (hn : n = 1) : Cls (W.alloc (.cells cs 45)) (.slice (some ⟨W.heap.size, 0, none⟩) n n) [x] := by
  subst h
  subst hn
  refine ⟨_, 1, rfl, fun _ => ⟨W.heap.size, 0, rfl, by simp, fun k y hk j u hj => ?_⟩⟩
  have hb := BlkIs.new W (clCells x).toArray 45
  match k, hk with
  | 0, hk =>
    cases hk
    rw [Nat.zero_mul, Nat.zero_add, hb.cell j]
    simpa using hj
set_option maxHeartbeats 2000000 in
theorem cawake_any (w : World) : Calls Tryz.prog 7 #[] w fun e w' => e = .returned (.bool true) ∧ Below w.heap.size w w' := by
  go_enter Tryz.func7, Tryz.ntmps7
  go_wp2_with fail
  refine (cexample_any _).mono ?_
  rintro e w1 ⟨v, vr, rfl, hv, hr, hb1⟩
  have HSQ := Lib.hid (fun W (hW : Below w1.heap.size w1 W) => csqI_good v vr 0 1 cexBars cexRuns W (hv.below hW) (hr.below hW) (by decide) (by decide) cex_fit cex_ok)
  have HFR := Lib.hid (fun W (hW : Below w1.heap.size w1 W) => cfree_good v vr 33 cexBars cexRuns W (hv.below hW) (hr.below hW) (by decide) (by decide) cex_fit cex_ok (by decide))
  have HPA := Lib.hid (fun W (hW : Below w1.heap.size w1 W) => cpairs_good v vr 35 cexBars cexRuns W (hv.below hW) (hr.below hW) (by decide) (by decide) cex_fit cex_ok (by decide) cex_len)
  have HND := Lib.hid (fun W => cneed_any 16 16 35 W)
  rw [cex_sqV, cex_sqE] at HSQ
  rw [cex_free] at HFR
  rw [cex_all] at HPA
  rw [cex_neV, cex_neE] at HND
  have HB1 := Lib.hid hb1
  clear hv hr hb1
  go_wp2_with fail
  refine (HSQ.out _ (Below.refl _ _)).mono ?_
  rintro e w2 ⟨rfl, hb2⟩
  have HB2 := Lib.hid hb2
  clear hb2
  go_wp2_with fail
  refine (HFR.out _ HB2.out).mono ?_
  rintro e w3 ⟨rfl, hb3⟩
  have HB3 := Lib.hid (bstep HB2.out hb3)
  clear hb3
  go_wp2_with fail
  refine (HPA.out _ HB3.out).mono ?_
  rintro e w4 ⟨o4, rfl, ho4, hb4⟩
  have HB4 := Lib.hid (bstep HB3.out hb4)
  have HO4 := Lib.hid (OwnN.fl cl_len ho4)
  clear hb4 ho4
  go_wp2_with fail
  refine (HND.out _).mono ?_
  rintro e w5 ⟨rfl, hb5⟩
  have HB5 := Lib.hid (bstep HB4.out hb5)
  have HO5 := Lib.hid (Fl.below HO4.out hb5)
  have HLT := Lib.hid (cls_lit w5 #[.int .i64 0, .int .i64 1, .int .i64 0, .int .i64 0, .int .i64 0, .int .i64 0, .int .i64 50, .int .i64 0] ⟨0, 1, ⟨0, 0, 0⟩, ⟨0, 50, 0⟩⟩ rfl 1 rfl)
  have HEQ := Lib.hid (eqCl_any o4 _ _ _ _ (Fl.below HO5.out (below_new w5 (.cells #[.int .i64 0, .int .i64 1, .int .i64 0, .int .i64 0, .int .i64 0, .int .i64 0, .int .i64 50, .int .i64 0] 45))) HLT.out (by decide) (by decide))
  rw [dec_yes rfl] at HEQ
  clear hb5 HO4 HSQ HFR HPA HND
  go_wp2_with fail
  refine HEQ.out.mono ?_
  rintro e w6 ⟨rfl, hb6⟩
  have HB6 := Lib.hid (bstep HB1.out (bstep (HB5.out.alloc HB5.out.size (.cells #[.int .i64 0, .int .i64 1, .int .i64 0, .int .i64 0, .int .i64 0, .int .i64 0, .int .i64 50, .int .i64 0] 45)) hb6))
  clear hb6 HEQ
  go_wp2
  go_ret
  exact ⟨rfl, HB6.out⟩

theorem rsmall19_any (v vr : Value) (l : List BarD) (rs : List RunD) (w : World) (hp : Bars w v l) (hr : Runs w vr rs) (hl : l.length ≤ 140737488355328) (hlr : rs.length ≤ 140737488355328) :
    Calls Tryz.prog 8 #[v, vr] w (SmB rs w) := by
  have H := Lib.hid (small6_any v vr l rs w hp hr hl hlr)
  clear hp hr
  go_enter Tryz.func8, Tryz.ntmps8
  go_wp2_with fail
  refine H.out.mono ?_
  rintro e w1 ⟨q, rfl, hb1, hq⟩
  have HB1 := Lib.hid hb1
  have HQ := Lib.hid hq
  clear hb1 hq
  go_wp2
  go_ret
  exact ⟨q, rfl, HB1.out, HQ.out⟩
/-- Ready: then the laid bars are valid, and few. -/
def RdB (l : List BarD) (rs : List RunD) (w : World) (e : Ending) (w' : World) : Prop := ∃ q : Bool, e = .returned (.bool q) ∧ Below w.heap.size w w' ∧ (q = true → laidOk l rs = true ∧ (lgsOf l rs).length ≤ 14)
theorem few_of {rs : List RunD} {l : List BarD} (h : laidOk l rs = true) (hq : (∀ r ∈ rs, 1 ≤ r.count ∧ r.count ≤ 2000) → rs.length ≤ 60 → sumC rs ≤ 14) : (lgsOf l rs).length ≤ 14 := by
  obtain ⟨s1, s2, s3, s4, s5⟩ := laid_sum h
  have := hq (fun r hr => by have := s3 r hr; omega) s2
  rw [lgsOf_len]
  omega
theorem ready_any (v vr : Value) (l : List BarD) (rs : List RunD) (w : World) (hp : Bars w v l) (hr : Runs w vr rs) (hl : l.length ≤ 140737488355328) (hlr : rs.length ≤ 140737488355328) (hf : FitB l) :
    Calls Tryz.prog 21 #[v, vr] w (RdB l rs w) := by
  have H := Lib.hid (rsmall19_any v vr l rs w hp hr hl hlr)
  have HV := Lib.hid (fun W (hW : Below w.heap.size w W) => rlaid_any v vr l rs W (hp.below hW) (hr.below hW) hl hlr hf)
  have HFW := Lib.hid (fun (h : laidOk l rs = true) hq => few_of h hq)
  obtain ⟨ok, hok⟩ : ∃ q, laidOk l rs = q := ⟨_, rfl⟩
  have HOK := Lib.hid hok
  rw [hok] at HV
  clear hp hr hok
  go_enter Tryz.func21, Tryz.ntmps21
  go_wp2_with fail
  refine H.out.mono ?_
  rintro e w1 ⟨q, rfl, hb1, hq⟩
  have HB1 := Lib.hid hb1
  have HQ := Lib.hid hq
  clear hb1 hq
  cases q
  · go_wp2
    go_ret
    exact ⟨_, rfl, HB1.out, fun h => by cases h⟩
  · go_wp2_with fail
    refine (HV.out _ HB1.out).mono ?_
    rintro e w2 ⟨rfl, hb2⟩
    have HB2 := Lib.hid (bstep HB1.out hb2)
    clear hb2
    go_wp2
    go_ret
    exact ⟨ok, rfl, HB2.out, fun h => by subst h; exact ⟨HOK.out, HFW.out HOK.out (HQ.out trivial)⟩⟩
end
end Go.Proofs.YtpiigmhbbcjamaaGreat
