/-
  Law 40: the example, awake, large.
-/
import Derived.Test.YtamogedpgkofjaaGreatCqe
import Derived.Test.YtamogedpgkofjaaGreatCqf
namespace Go.Proofs.YtamogedpgkofjaaGreat
section
open Go.RowKit
set_option linter.unusedVariables false
set_option linter.unusedSimpArgs false
attribute [local go_sem ↓] Go.wp_at_zero Go.wp_at_succ

def cqxBars : List BarD := [⟨⟨#[97]⟩, 12, 2, 0, [500]⟩]
def cqxRuns : List RunD := [⟨⟨#[97]⟩, 1, 2, ⟨0, 250, 0⟩, ⟨0, 0, 0⟩, 1⟩, ⟨⟨#[97]⟩, 2, 3, ⟨250, 0, 0⟩, ⟨0, 0, 0⟩, 1⟩]
theorem cqx_ok : laidOk cqxBars cqxRuns = true := by kernel_rfl
theorem cqx_fit : FitB cqxBars := by
  intro b hb
  simp only [cqxBars, List.mem_cons, List.not_mem_nil, or_false] at hb
  subst hb
  exact ⟨by unfold maxLen; decide, by decide⟩
def CqxPost (w : World) (e : Ending) (w' : World) : Prop := ∃ v vr, e = .returned (.tuple #[v, vr]) ∧ Bars w' v cqxBars ∧ Runs w' vr cqxRuns ∧ Below w.heap.size w w'
theorem cqx_bars {W : World} {g h : Nat} {n c : Nat} (hn : n = 1) (hd : BlkIs W h 3 #[.int .i64 500])
    (hb : BlkIs W g 104 #[.string ⟨#[97]⟩, .int .i64 12, .int .i64 2, .int .i64 0, .slice (some ⟨h, 0, none⟩) 1 1]) : Bars W (.slice (some ⟨g, 0, none⟩) n c) cqxBars := by
  subst hn
  refine ⟨_, c, rfl, fun _ => ⟨g, 0, rfl, hb.lt, fun k x hk => ?_⟩⟩
  match k, hk with
  | 0, hk =>
    cases hk
    refine ⟨hb.cell 0, hb.cell 1, hb.cell 2, hb.cell 3, some ⟨h, 0, none⟩, 1, hb.cell 4, some ⟨h, 0, none⟩, 1, rfl, fun _ => ⟨h, 0, rfl, hd.lt, fun j y hj => ?_⟩⟩
    match j, hj with
    | 0, hj =>
      cases hj
      exact hd.cell 0
abbrev cqxRc : Array Value := #[.string ⟨#[97]⟩, .int .i64 1, .int .i64 2, .int .i64 0, .int .i64 250, .int .i64 0, .int .i64 0, .int .i64 0, .int .i64 0, .int .i64 1, .string ⟨#[97]⟩, .int .i64 2, .int .i64 3, .int .i64 250, .int .i64 0, .int .i64 0, .int .i64 0, .int .i64 0, .int .i64 0, .int .i64 1]
theorem cqx_runs {W : World} {g : Nat} {n c : Nat} (hn : n = 2) (hb : BlkIs W g 90 cqxRc) : Runs W (.slice (some ⟨g, 0, none⟩) n c) cqxRuns := by
  subst hn
  refine ⟨_, c, rfl, fun _ => ⟨g, 0, rfl, hb.lt, fun k x hk j u hj => ?_⟩⟩
  match k, hk with
  | 0, hk =>
    cases hk
    rw [Nat.zero_mul, Nat.zero_add, hb.cell j]
    have hj2 := (List.getElem?_eq_some_iff.1 hj).1
    have : j < 10 := hj2
    rw [← hj]
    obtain rfl | rfl | rfl | rfl | rfl | rfl | rfl | rfl | rfl | rfl : j = 0 ∨ j = 1 ∨ j = 2 ∨ j = 3 ∨ j = 4 ∨ j = 5 ∨ j = 6 ∨ j = 7 ∨ j = 8 ∨ j = 9 := by omega
    all_goals rfl
  | 1, hk =>
    cases hk
    rw [Nat.one_mul, Nat.zero_add, hb.cell]
    have hj2 := (List.getElem?_eq_some_iff.1 hj).1
    have : j < 10 := hj2
    rw [← hj]
    obtain rfl | rfl | rfl | rfl | rfl | rfl | rfl | rfl | rfl | rfl : j = 0 ∨ j = 1 ∨ j = 2 ∨ j = 3 ∨ j = 4 ∨ j = 5 ∨ j = 6 ∨ j = 7 ∨ j = 8 ∨ j = 9 := by omega
    all_goals rfl
abbrev cqxBc (h : Nat) : Array Value := #[.string ⟨#[97]⟩, .int .i64 12, .int .i64 2, .int .i64 0, .slice (some ⟨h, 0, none⟩) 1 1]
set_option maxHeartbeats 2000000 in
theorem cqxample_any (w : World) : Calls Tryz.prog 32 #[] w (CqxPost w) := by
  have hx0 := ((BlkIs.new w #[.int .i64 500] 3).alloc (.cells (cqxBc w.heap.size) 104)).alloc (.cells cqxRc 90)
  have hx1 := (BlkIs.new1 w (.cells #[.int .i64 500] 3) (cqxBc w.heap.size) 104).alloc (.cells cqxRc 90)
  have hx2 := BlkIs.new ((w.alloc (.cells #[.int .i64 500] 3)).alloc (.cells (cqxBc w.heap.size) 104)) cqxRc 90
  simp only [World.size_alloc] at hx2
  have HBA := Lib.hid (cqx_bars (n := 1) (c := 1) rfl hx0 hx1)
  have HRU := Lib.hid (cqx_runs (n := 2) (c := 2) rfl hx2)
  have HB : Hid (Below w.heap.size w (((w.alloc (.cells #[.int .i64 500] 3)).alloc (.cells (cqxBc w.heap.size) 104)).alloc (.cells cqxRc 90))) := by
    unfold Hid
    go_grown
  clear hx0 hx1 hx2
  go_enter Tryz.func32, Tryz.ntmps32
  go_wp2
  go_ret2
  exact ⟨_, _, rfl, HBA.out, HRU.out, HB.out⟩
theorem cqx_c : sqC cqxBars cqxRuns [3, 3] = 0 := by kernel_rfl
theorem cqx_n : (lgsOf cqxBars cqxRuns).length = 2 := by kernel_rfl
theorem cqx_es : sqEs cqxBars cqxRuns [3, 3] = [(0, 1), (1, 0)] := by kernel_rfl
theorem cqx_need : needC 2 [(0, 1), (1, 0)] = [0] := by kernel_rfl
theorem cqx_ord : ordF 0 2 [(0, 1), (1, 0)] [0] = (0, [1]) := by kernel_rfl
def cqxD (i : Nat) : Int := if i = 0 then 0 else if i = 1 then 1 else -1
theorem cqx_far : IsFar [(0, 1), (1, 0)] 0 cqxD := by
  have k0 : cqxD 0 = 0 := rfl
  have k1 : cqxD 1 = 1 := rfl
  refine ⟨rfl, fun v => ?_, fun v hv i hi => ?_⟩
  · match v with
    | 0 => exact .inr (.inl ⟨rfl, rfl⟩)
    | 1 => exact .inr (.inr ⟨by rw [k1]; omega, 0, by decide, by rw [k1, k0]; rfl⟩)
    | v + 2 => exact .inl (by unfold cqxD; rw [if_neg (by omega), if_neg (by omega)])
  · simp only [List.mem_cons, Prod.mk.injEq, List.not_mem_nil, or_false] at hi
    rcases hi with ⟨rfl, rfl⟩ | ⟨rfl, rfl⟩
    · rw [k0, k1]; omega
    · rw [k0, k1]; omega
theorem cqx_loop : loopOf 2 [(0, 1), (1, 0)] = some [0, 1] := by
  refine loopFrom_some (k := 1) ?_ 2 (by omega)
  show loopAt 2 [(0, 1), (1, 0)] (farD [(0, 1), (1, 0)] 0) 0 = some [0, 1]
  rw [farD_eq cqx_far]
  decide +kernel
theorem cqx_lps : lpsC 2 [(0, 1), (1, 0)] = [[0, 1]] := by
  have h0 : lopC 2 [(0, 1), (1, 0)] (ntI (lpsK 2 [(0, 1), (1, 0)] 0).2) = some [0, 1] := by
    show lopC 2 [(0, 1), (1, 0)] [] = _
    unfold lopC
    rw [show (othN 2 []).length = 2 from by kernel_rfl, show subE [(0, 1), (1, 0)] (othN 2 []) = [(0, 1), (1, 0)] from by kernel_rfl, cqx_loop]
    kernel_rfl
  have h1 := lpsK_some h0
  have h2 : lopC 2 [(0, 1), (1, 0)] (ntI (lpsK 2 [(0, 1), (1, 0)] 1).2) = none := by
    rw [h1]
    show lopC 2 [(0, 1), (1, 0)] [0, 1] = none
    unfold lopC
    rw [show (othN 2 [0, 1]).length = 0 from by kernel_rfl]
    rfl
  rw [lps_done (by omega) h2, h1]
  rfl
theorem cqx_C {w : World} {v vr xv : Value} (hv : Bars w v cqxBars) (hr : Runs w vr cqxRuns) (hx : Ints w xv [3, 3]) : Cg w v vr xv [3, 3] cqxBars cqxRuns := ⟨⟨hv, hr, by decide, by decide, cqx_fit, fun _ => by rw [cqx_n]; omega⟩, hx, by decide⟩
theorem one_litN (W : World) (a : Nat) (n : Nat) (hn : n = 1) : Nats (W.alloc (.cells #[.int .i64 (a : Int)] 3)) (.slice (some ⟨W.heap.size, 0, none⟩) n n) [a] := sl_lit W _ [a] _ _ n rfl hn
set_option maxRecDepth 100000 in
set_option maxHeartbeats 8000000 in
theorem cqawake_any (w : World) : Calls Tryz.prog 9 #[] w fun e w' => e = .returned (.bool true) ∧ Below w.heap.size w w' := by
  have HN := Lib.hid (fun v vr xv W (hC : Cg W v vr xv [3, 3] cqxBars cqxRuns) => cneeded_any v vr xv [3, 3] cqxBars cqxRuns W hC)
  have HL := Lib.hid (fun v vr xv W (hC : Cg W v vr xv [3, 3] cqxBars cqxRuns) => cloops_any v vr xv [3, 3] cqxBars cqxRuns W hC)
  have HO := Lib.hid (fun v vr xv qv W (hC : Cg W v vr xv [3, 3] cqxBars cqxRuns) (hq : Ints W qv [0]) => corderF_any v vr xv qv [3, 3] [0] cqxBars cqxRuns W hC hq (by decide))
  rw [cqx_c, cqx_n, cqx_es] at HN HL HO
  rw [show ndF 0 2 [(0, 1), (1, 0)] = (0, [0]) from by unfold ndF; rw [if_pos rfl, if_neg (by omega), cqx_need]] at HN
  rw [show lpsF 0 2 [(0, 1), (1, 0)] = (0, [[0, 1]]) from by unfold lpsF; rw [if_pos rfl, cqx_lps]] at HL
  rw [cqx_ord] at HO
  go_enter Tryz.func9, Tryz.ntmps9
  go_wp2_with fail
  refine (cqxample_any _).mono ?_
  rintro e w1 ⟨v, vr, rfl, hv, hr, hb1⟩
  have HA := Lib.hid (fun W xv (hW : Below w1.heap.size w1 W) (hx : Ints W xv [3, 3]) => (cqx_C (hv.below hW) (hr.below hW) hx : Cg W v vr xv [3, 3] cqxBars cqxRuns))
  have HB1 := Lib.hid hb1
  clear hv hr hb1
  have HX2 := Lib.hid (two_lit w1 3 3 2 rfl)
  have HN2 := Lib.hid (below_new w1 (.cells #[.int .i64 3, .int .i64 3] 3))
  go_wp2_with fail
  refine (HN.out v vr _ _ (HA.out _ _ HN2.out HX2.out)).mono ?_
  rintro e w2 ⟨o1, rfl, h1, hb2⟩
  have HB2 := Lib.hid (bstep HN2.out hb2)
  have HR1 := Lib.hid (h1.sl : Nats w2 o1 [0])
  clear hb2 h1 HX2 HN2 HN
  have HX3 := Lib.hid (two_lit w2 3 3 2 rfl)
  have HN3 := Lib.hid (below_new w2 (.cells #[.int .i64 3, .int .i64 3] 3))
  go_wp2_with fail
  refine (HL.out v vr _ _ (HA.out _ _ (bstep HB2.out HN3.out) HX3.out)).mono ?_
  rintro e w3 ⟨o2, rfl, ⟨vals, h2⟩, hb3⟩
  have HB3 := Lib.hid (bstep HB2.out (bstep HN3.out hb3))
  have HR3 := Lib.hid (HR1.out.below (bstep HN3.out hb3))
  obtain ⟨u, hu⟩ : ∃ u, vals = [u] := by
    have := h2.1
    match vals, this with
    | [u], _ => exact ⟨u, rfl⟩
  subst hu
  obtain ⟨g2, c2, hv2, hg2, _⟩ := h2.2.1.form (Nat.zero_lt_one)
  subst hv2
  have HU3 := Lib.hid ((h2.2.2.1 0 u [0, 1] rfl rfl).sl : Nats w3 u [0, 1])
  have HC3 := Lib.hid (h2.2.1.cell (k := 0) rfl)
  have HG2 := Lib.hid hg2
  clear hb3 h2 HX3 HN3 HL HB2 HR1 hg2
  have HX4 := Lib.hid (two_lit w3 3 3 2 rfl)
  have HN4 := Lib.hid (below_new w3 (.cells #[.int .i64 3, .int .i64 3] 3))
  go_wp2_with fail
  refine (HO.out v vr _ _ _ (HA.out _ _ (bstep HB3.out HN4.out) HX4.out) ((HR3.out.below HN4.out).map_ (fun k : Nat => (k : Int)) (fun _ => rfl))).mono ?_
  rintro e w4 ⟨o3, rfl, h3, hb4⟩
  have HB4 := Lib.hid (bstep HB3.out (bstep HN4.out hb4))
  have HR4 := Lib.hid (HR3.out.below (bstep HN4.out hb4))
  have HU4 := Lib.hid (HU3.out.below (bstep HN4.out hb4))
  have HC4 := Lib.hid (((bstep HN4.out hb4).cell (p := ⟨g2, 0, none⟩) HG2.out).trans HC3.out)
  have HS4 := Lib.hid (h3.sl : Nats w4 o3 [1])
  have hg4 : g2 < w4.heap.size := Nat.lt_of_lt_of_le HG2.out (bstep HN4.out hb4).size
  clear hb4 h3 HX4 HN4 HO HB3 HR3 HU3 HC3 HG2
  have HE5 := Lib.hid (equalN_any o1 _ [0] [0] _ (HR4.out.below (below_new w4 (.cells #[.int .i64 0] 3))) (one_litN w4 0 1 rfl) (by decide) (by decide))
  have HN5 := Lib.hid (below_new w4 (.cells #[.int .i64 0] 3))
  rw [dec_yes rfl] at HE5
  go_wp2_with fail
  refine HE5.out.mono ?_
  rintro e w5 ⟨rfl, hb5⟩
  have HB5 := Lib.hid (bstep HB4.out (bstep HN5.out hb5))
  have HU5 := Lib.hid (HU4.out.below (bstep HN5.out hb5))
  have c5 := ((bstep HN5.out hb5).cell (p := ⟨g2, 0, none⟩) hg4).trans HC4.out
  have hg5 : g2 < w5.heap.size := Nat.lt_of_lt_of_le hg4 (bstep HN5.out hb5).size
  have HS5 := Lib.hid (HS4.out.below (bstep HN5.out hb5))
  unfold rowf at c5
  clear hb5 HE5 HN5 HB4 HR4 HU4 HC4 HS4
  have HE6 := Lib.hid (equalN_any u _ [0, 1] [0, 1] _ (HU5.out.below (below_new w5 (.cells #[.int .i64 0, .int .i64 1] 3))) (two_litN w5 0 1 2 rfl) (by decide) (by decide))
  have HN6 := Lib.hid (below_new w5 (.cells #[.int .i64 0, .int .i64 1] 3))
  rw [dec_yes rfl] at HE6
  obtain ⟨uo, uc, hue⟩ := Sl.at_ HU5.out
  subst hue
  go_wp2_with fail
  refine HE6.out.mono ?_
  rintro e w6 ⟨rfl, hb6⟩
  have HB6 := Lib.hid (bstep HB5.out (bstep HN6.out hb6))
  have HS6 := Lib.hid (HS5.out.below (bstep HN6.out hb6))
  clear hb6 HE6 HN6 HB5 HS5 HU5 c5
  have HE7 := Lib.hid (equalN_any o3 _ [1] [1] _ (HS6.out.below (below_new w6 (.cells #[.int .i64 1] 3))) (one_litN w6 1 1 rfl) (by decide) (by decide))
  have HN7 := Lib.hid (below_new w6 (.cells #[.int .i64 1] 3))
  rw [dec_yes rfl] at HE7
  go_wp2_with fail
  refine HE7.out.mono ?_
  rintro e w7 ⟨rfl, hb7⟩
  have HB7 := Lib.hid (bstep HB1.out (bstep HB6.out (bstep HN7.out hb7)))
  clear hb7
  go_wp2
  go_ret
  exact ⟨rfl, HB7.out⟩
/-- Not large: few bars laid, few axes. -/
def LgC (w : World) (v vr xv : Value) (l : List BarD) (rs : List RunD) (X : List Int) (e : Ending) (w' : World) : Prop := ∃ q : Bool, e = .returned (.bool q) ∧ Below w.heap.size w w' ∧ (q = false → Cg w v vr xv X l rs ∧ X.length ≤ 100)
set_option maxHeartbeats 2000000 in
theorem clarge_any (v vr xv : Value) (X : List Int) (l : List BarD) (rs : List RunD) (w : World) (hp : Bars w v l) (hr : Runs w vr rs) (hl : l.length ≤ 140737488355328) (hlr : rs.length ≤ 140737488355328) (hf : FitB l) (hx : Ints w xv X) (hlx : X.length ≤ 140737488355328) :
    Calls Tryz.prog 10 #[v, vr, xv] w (LgC w v vr xv l rs X) := by
  have H := Lib.hid (rsmall19_any v vr l rs w hp hr hl hlr)
  have HP := Lib.hid hp
  have HR := Lib.hid hr
  have HX := Lib.hid hx
  obtain ⟨xo, xc, rfl⟩ := Sl.at_ hx
  clear hp hr hx
  by_cases h100 : 100 < X.length
  · have d1 : decide ((100 : Int) < (X.length : Int)) = true := dec_yes (by omega)
    have d2 : decide (100 < X.length) = true := dec_yes h100
    go_enter Tryz.func10, Tryz.ntmps10
    go_wp2_with fail
    refine H.out.mono ?_
    rintro e w1 ⟨q, rfl, hb1, hq⟩
    have HB1 := Lib.hid hb1
    clear hb1 hq H
    cases q
    · go_wp2
      go_ret
      exact ⟨_, rfl, HB1.out, fun h => by cases h⟩
    · go_wp2
      go_ret
      exact ⟨_, rfl, HB1.out, fun h => by cases h⟩
  · have d1 : decide ((100 : Int) < (X.length : Int)) = false := dec_no (by omega)
    have d2 : decide (100 < X.length) = false := dec_no h100
    go_enter Tryz.func10, Tryz.ntmps10
    go_wp2_with fail
    refine H.out.mono ?_
    rintro e w1 ⟨q, rfl, hb1, hq⟩
    have HB1 := Lib.hid hb1
    have HQ := Lib.hid hq
    clear hb1 hq H
    cases q
    · go_wp2
      go_ret
      exact ⟨_, rfl, HB1.out, fun h => by cases h⟩
    · have HA : Hid (Cg w v vr (.slice xo X.length xc) X l rs ∧ X.length ≤ 100) := ⟨⟨⟨HP.out, HR.out, hl, hlr, hf, fun hok => fewN hok (HQ.out (by simp))⟩, HX.out, hlx⟩, by omega⟩
      go_wp2
      go_ret
      exact ⟨_, rfl, HB1.out, fun _ => HA.out⟩
end
end Go.Proofs.YtamogedpgkofjaaGreat
