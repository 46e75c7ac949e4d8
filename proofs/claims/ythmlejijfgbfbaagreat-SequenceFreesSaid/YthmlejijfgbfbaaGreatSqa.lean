/-
  Law 39: the example, awake, small, ready (printed by wip/gen_Sqa.py).
-/
import Derived.Test.YthmlejijfgbfbaaGreatSqr
namespace Go.Proofs.YthmlejijfgbfbaaGreat
open Go.RowKit
set_option linter.unusedVariables false
set_option linter.unusedSimpArgs false
attribute [local go_sem ↓] Go.wp_at_zero Go.wp_at_succ

def sqxBars : List BarD := [⟨⟨#[97]⟩, 10, 1, 0, [1000]⟩, ⟨⟨#[98]⟩, 10, 1, 0, [400]⟩]
def sqxRuns : List RunD := [⟨⟨#[97]⟩, 1, 2, ⟨0, 0, 0⟩, ⟨0, 0, 0⟩, 1⟩, ⟨⟨#[98]⟩, 2, -1, ⟨500, -200, 40⟩, ⟨0, 0, 0⟩, 1⟩]
theorem sqx_ok : laidOk sqxBars sqxRuns = true := by kernel_rfl
theorem sqx_fit : FitB sqxBars := by
  intro b hb
  simp only [sqxBars, List.mem_cons, List.not_mem_nil, or_false] at hb
  rcases hb with rfl | rfl
  · exact ⟨by unfold maxLen; decide, by decide⟩
  · exact ⟨by unfold maxLen; decide, by decide⟩

def SqxPost (w : World) (e : Ending) (w' : World) : Prop := ∃ v vr, e = .returned (.tuple #[v, vr]) ∧ Bars w' v sqxBars ∧ Runs w' vr sqxRuns ∧ Below w.heap.size w w'
theorem sqx_bars {W : World} {g h h2 : Nat} {n c : Nat} (hn : n = 2) (hd : BlkIs W h 3 #[.int .i64 1000]) (hd2 : BlkIs W h2 3 #[.int .i64 400])
    (hb : BlkIs W g 129 #[.string ⟨#[97]⟩, .int .i64 10, .int .i64 1, .int .i64 0, .slice (some ⟨h, 0, none⟩) 1 1, .string ⟨#[98]⟩, .int .i64 10, .int .i64 1, .int .i64 0, .slice (some ⟨h2, 0, none⟩) 1 1]) : Bars W (.slice (some ⟨g, 0, none⟩) n c) sqxBars := by
  subst hn
  refine ⟨_, c, rfl, fun _ => ⟨g, 0, rfl, hb.lt, fun k x hk => ?_⟩⟩
  match k, hk with
  | 0, hk =>
    cases hk
    refine ⟨hb.cell 0, hb.cell 1, hb.cell 2, hb.cell 3, some ⟨h, 0, none⟩, 1, hb.cell 4, some ⟨h, 0, none⟩, 1, rfl, fun _ => ⟨h, 0, rfl, hd.lt, fun j y hj => ?_⟩⟩
    match j, hj with
    | 0, hj =>
      cases hj
      exact hd.cell 0
  | 1, hk =>
    cases hk
    refine ⟨hb.cell 5, hb.cell 6, hb.cell 7, hb.cell 8, some ⟨h2, 0, none⟩, 1, hb.cell 9, some ⟨h2, 0, none⟩, 1, rfl, fun _ => ⟨h2, 0, rfl, hd2.lt, fun j y hj => ?_⟩⟩
    match j, hj with
    | 0, hj =>
      cases hj
      exact hd2.cell 0
theorem sqx_runs {W : World} {g : Nat} {n c : Nat} (hn : n = 2) (hb : BlkIs W g 114 #[.string ⟨#[97]⟩, .int .i64 1, .int .i64 2, .int .i64 0, .int .i64 0, .int .i64 0, .int .i64 0, .int .i64 0, .int .i64 0, .int .i64 1, .string ⟨#[98]⟩, .int .i64 2, .int .i64 (-1), .int .i64 500, .int .i64 (-200), .int .i64 40, .int .i64 0, .int .i64 0, .int .i64 0, .int .i64 1]) : Runs W (.slice (some ⟨g, 0, none⟩) n c) sqxRuns := by
  subst hn
  refine ⟨_, c, rfl, fun _ => ⟨g, 0, rfl, hb.lt, fun k x hk j u hj => ?_⟩⟩
  match k, hk with
  | 0, hk =>
    cases hk
    rw [Nat.zero_mul, Nat.zero_add, hb.cell j]
    have hj2 := (List.getElem?_eq_some_iff.1 hj).1
    have : j < 10 := hj2
    rw [← hj]
    obtain rfl | rfl | rfl | rfl | rfl | rfl | rfl | rfl | rfl | rfl : j = 0 ∨ j = 1 ∨ j = 2 ∨ j = 3 ∨ j = 4 ∨ j = 5 ∨ j = 6 ∨ j = 7 ∨ j = 8 ∨ j = 9 := by omega
    all_goals rfl
  | 1, hk =>
    cases hk
    rw [Nat.one_mul, Nat.zero_add, hb.cell]
    have hj2 := (List.getElem?_eq_some_iff.1 hj).1
    have : j < 10 := hj2
    rw [← hj]
    obtain rfl | rfl | rfl | rfl | rfl | rfl | rfl | rfl | rfl | rfl : j = 0 ∨ j = 1 ∨ j = 2 ∨ j = 3 ∨ j = 4 ∨ j = 5 ∨ j = 6 ∨ j = 7 ∨ j = 8 ∨ j = 9 := by omega
    all_goals rfl

abbrev sqxBc (h h2 : Nat) : Array Value := #[.string ⟨#[97]⟩, .int .i64 10, .int .i64 1, .int .i64 0, .slice (some ⟨h, 0, none⟩) 1 1, .string ⟨#[98]⟩, .int .i64 10, .int .i64 1, .int .i64 0, .slice (some ⟨h2, 0, none⟩) 1 1]
abbrev sqxRc : Array Value := #[.string ⟨#[97]⟩, .int .i64 1, .int .i64 2, .int .i64 0, .int .i64 0, .int .i64 0, .int .i64 0, .int .i64 0, .int .i64 0, .int .i64 1, .string ⟨#[98]⟩, .int .i64 2, .int .i64 (-1), .int .i64 500, .int .i64 (-200), .int .i64 40, .int .i64 0, .int .i64 0, .int .i64 0, .int .i64 1]
set_option maxHeartbeats 2000000 in
theorem sqxample_any (w : World) : Calls Tryz.prog 54 #[] w (SqxPost w) := by
  have hx0 := (((BlkIs.new w #[.int .i64 1000] 3).alloc (.cells #[.int .i64 400] 3)).alloc (.cells (sqxBc w.heap.size (w.heap.size + 1)) 129)).alloc (.cells sqxRc 114)
  have hx1 := ((BlkIs.new1 w (.cells #[.int .i64 1000] 3) #[.int .i64 400] 3).alloc (.cells (sqxBc w.heap.size (w.heap.size + 1)) 129)).alloc (.cells sqxRc 114)
  have hx2 := (BlkIs.new1 (w.alloc (.cells #[.int .i64 1000] 3)) (.cells #[.int .i64 400] 3) (sqxBc w.heap.size (w.heap.size + 1)) 129).alloc (.cells sqxRc 114)
  have hx3 := BlkIs.new ((((w.alloc (.cells #[.int .i64 1000] 3)).alloc (.cells #[.int .i64 400] 3)).alloc (.cells (sqxBc w.heap.size (w.heap.size + 1)) 129))) sqxRc 114
  simp only [World.size_alloc] at hx2 hx3
  have HBA := Lib.hid (sqx_bars (n := 2) (c := 2) rfl hx0 hx1 hx2)
  have HRU := Lib.hid (sqx_runs (n := 2) (c := 2) rfl hx3)
  have HB : Hid (Below w.heap.size w ((((w.alloc (.cells #[.int .i64 1000] 3)).alloc (.cells #[.int .i64 400] 3)).alloc (.cells (sqxBc w.heap.size (w.heap.size + 1)) 129)).alloc (.cells sqxRc 114))) := by
    unfold Hid
    go_grown
  clear hx0 hx1 hx2 hx3
  go_enter Tryz.func54, Tryz.ntmps54
  go_wp2
  go_ret2
  exact ⟨_, _, rfl, HBA.out, HRU.out, HB.out⟩

/-! ### awake -/
theorem sqx_c1 : sqC sqxBars sqxRuns [3, 3] = 0 := by kernel_rfl
theorem sqx_c2 : sqC sqxBars sqxRuns [3, -3] = 0 := by kernel_rfl
theorem sqx_c3 : sqC sqxBars sqxRuns [-3, 3] = 0 := by kernel_rfl
theorem sqx_ord : sqOrd 0 (lgsOf sqxBars sqxRuns).length (sqEs sqxBars sqxRuns [3, 3]) = (0, [1, 0]) := by kernel_rfl
theorem sqx_lay : sqLay 0 (lgsOf sqxBars sqxRuns).length (sqEs sqxBars sqxRuns [3, 3]) = (0, [1, 0]) := by kernel_rfl
theorem sqx_chk : sqChk 0 (lgsOf sqxBars sqxRuns).length (sqEs sqxBars sqxRuns [3, -3]) [0, 1] = (true, 0) := by kernel_rfl
theorem sqx_es : sqEs sqxBars sqxRuns [-3, 3] = [(0, 1), (1, 0)] := by kernel_rfl
theorem sqx_n : (lgsOf sqxBars sqxRuns).length = 2 := by kernel_rfl
def sqxD (i : Nat) : Int := if i = 0 then 0 else if i = 1 then 1 else -1
theorem sqx_far : IsFar [(0, 1), (1, 0)] 0 sqxD := by
  have k0 : sqxD 0 = 0 := rfl
  have k1 : sqxD 1 = 1 := rfl
  refine ⟨rfl, fun v => ?_, fun v hv i hi => ?_⟩
  · match v with
    | 0 => exact .inr (.inl ⟨rfl, rfl⟩)
    | 1 => exact .inr (.inr ⟨by rw [k1]; omega, 0, by decide, by rw [k1, k0]; rfl⟩)
    | v + 2 => exact .inl (by unfold sqxD; rw [if_neg (by omega), if_neg (by omega)])
  · simp only [List.mem_cons, Prod.mk.injEq, List.not_mem_nil, or_false] at hi
    rcases hi with ⟨rfl, rfl⟩ | ⟨rfl, rfl⟩
    · rw [k0, k1]; omega
    · rw [k0, k1]; omega
theorem sqx_loop : sqLop 0 (lgsOf sqxBars sqxRuns).length (sqEs sqxBars sqxRuns [-3, 3]) = (0, [0, 1]) := by
  have h : loopOf 2 [(0, 1), (1, 0)] = some [0, 1] := by
    refine loopFrom_some (k := 1) ?_ 2 (by omega)
    show loopAt 2 [(0, 1), (1, 0)] (farD [(0, 1), (1, 0)] 0) 0 = some [0, 1]
    rw [farD_eq sqx_far]
    decide +kernel
  rw [sqx_es, sqx_n]
  unfold sqLop
  rw [if_pos rfl, h]
theorem two_lit (W : World) (a b : Int) (n : Nat) (hn : n = 2) : Ints (W.alloc (.cells #[.int .i64 a, .int .i64 b] 3)) (.slice (some ⟨W.heap.size, 0, none⟩) n n) [a, b] := sl_lit W _ [a, b] _ _ n rfl hn
theorem two_litN (W : World) (a b : Nat) (n : Nat) (hn : n = 2) : Nats (W.alloc (.cells #[.int .i64 (a : Int), .int .i64 (b : Int)] 3)) (.slice (some ⟨W.heap.size, 0, none⟩) n n) [a, b] := sl_lit W _ [a, b] _ _ n rfl hn
theorem sqx_A {w : World} {v vr : Value} (hv : Bars w v sqxBars) (hr : Runs w vr sqxRuns) : SqA w v vr sqxBars sqxRuns := ⟨hv, hr, by decide, by decide, sqx_fit, fun _ => by rw [sqx_n]; omega⟩
set_option maxRecDepth 100000 in
set_option maxHeartbeats 8000000 in
theorem sawake_any (w : World) : Calls Tryz.prog 16 #[] w fun e w' => e = .returned (.bool true) ∧ Below w.heap.size w w' := by
  have HO := Lib.hid (fun v vr xv W (hA : SqA W v vr sqxBars sqxRuns) (hx : Ints W xv [3, 3]) => sorder_any v vr xv [3, 3] sqxBars sqxRuns W hA hx (by decide))
  have HY := Lib.hid (fun v vr xv W (hA : SqA W v vr sqxBars sqxRuns) (hx : Ints W xv [3, 3]) => slayers_any v vr xv [3, 3] sqxBars sqxRuns W hA hx (by decide))
  have HC := Lib.hid (fun v vr xv qv W (hA : SqA W v vr sqxBars sqxRuns) (hx : Ints W xv [3, -3]) (hq : Ints W qv [0, 1]) => scheck_any v vr xv qv [3, -3] [0, 1] sqxBars sqxRuns W hA hx (by decide) hq (by decide))
  have HL := Lib.hid (fun v vr xv W (hA : SqA W v vr sqxBars sqxRuns) (hx : Ints W xv [-3, 3]) => sloop_any v vr xv [-3, 3] sqxBars sqxRuns W hA hx (by decide))
  rw [sqx_c1, sqx_ord] at HO
  rw [sqx_c1, sqx_lay] at HY
  rw [sqx_c2, sqx_chk] at HC
  rw [sqx_c3, sqx_loop] at HL
  go_enter Tryz.func16, Tryz.ntmps16
  go_wp2_with fail
  refine (sqxample_any _).mono ?_
  rintro e w1 ⟨v, vr, rfl, hv, hr, hb1⟩
  have HA := Lib.hid (fun W (hW : Below w1.heap.size w1 W) => (sqx_A hv hr).below hW)
  have HB1 := Lib.hid hb1
  clear hv hr hb1
  have HX2 := Lib.hid (two_lit w1 3 3 2 rfl)
  have HN2 := Lib.hid (below_new w1 (.cells #[.int .i64 3, .int .i64 3] 3))
  go_wp2_with fail
  refine (HO.out v vr _ _ (HA.out _ HN2.out) HX2.out).mono ?_
  rintro e w2 ⟨o1, rfl, h1, hb2⟩
  have HB2 := Lib.hid (bstep HN2.out hb2)
  have HR1 := Lib.hid (h1.sl : Nats w2 o1 [1, 0])
  clear hb2 h1 HX2 HN2 HO
  have HX3 := Lib.hid ((two_lit w2 3 (-3) 2 rfl).below (below_new _ (.cells #[.int .i64 0, .int .i64 1] 3)))
  have HQ3 := Lib.hid (two_lit (w2.alloc (.cells #[.int .i64 3, .int .i64 (-3)] 3)) 0 1 2 rfl)
  have HN3 := Lib.hid (by go_grown : Below w2.heap.size w2 ((w2.alloc (.cells #[.int .i64 3, .int .i64 (-3)] 3)).alloc (.cells #[.int .i64 0, .int .i64 1] 3)))
  go_wp2_with fail
  refine (HC.out v vr _ _ _ (HA.out _ (bstep HB2.out HN3.out)) HX3.out (by have := HQ3.out; simpa using this)).mono ?_
  rintro e w3 ⟨rfl, hb3⟩
  have HB3 := Lib.hid (bstep HB2.out (bstep HN3.out hb3))
  have HR3 := Lib.hid (HR1.out.below (bstep HN3.out hb3))
  clear hb3 HX3 HQ3 HN3 HC HB2 HR1
  have HX4 := Lib.hid (two_lit w3 (-3) 3 2 rfl)
  have HN4 := Lib.hid (below_new w3 (.cells #[.int .i64 (-3), .int .i64 3] 3))
  go_wp2_with fail
  refine (HL.out v vr _ _ (HA.out _ (bstep HB3.out HN4.out)) HX4.out).mono ?_
  rintro e w4 ⟨o2, rfl, h2, hb4⟩
  have HB4 := Lib.hid (bstep HB3.out (bstep HN4.out hb4))
  have HR4 := Lib.hid (HR3.out.below (bstep HN4.out hb4))
  have HS4 := Lib.hid (h2.sl : Nats w4 o2 [0, 1])
  clear hb4 h2 HX4 HN4 HL HB3 HR3
  have HX5 := Lib.hid (two_lit w4 3 3 2 rfl)
  have HN5 := Lib.hid (below_new w4 (.cells #[.int .i64 3, .int .i64 3] 3))
  go_wp2_with fail
  refine (HY.out v vr _ _ (HA.out _ (bstep HB4.out HN5.out)) HX5.out).mono ?_
  rintro e w5 ⟨o3, rfl, h3, hb5⟩
  have HB5 := Lib.hid (bstep HB4.out (bstep HN5.out hb5))
  have HR5 := Lib.hid (HR4.out.below (bstep HN5.out hb5))
  have HS5 := Lib.hid (HS4.out.below (bstep HN5.out hb5))
  have HT5 := Lib.hid (h3.sl : Ints w5 o3 [1, 0])
  clear hb5 h3 HX5 HN5 HY HB4 HR4 HS4
  have HE6 := Lib.hid (equalN_any o1 _ [1, 0] [1, 0] _ (HR5.out.below (below_new w5 (.cells #[.int .i64 1, .int .i64 0] 3))) (two_litN w5 1 0 2 rfl) (by decide) (by decide))
  have HN6 := Lib.hid (below_new w5 (.cells #[.int .i64 1, .int .i64 0] 3))
  rw [dec_yes rfl] at HE6
  go_wp2_with fail
  refine HE6.out.mono ?_
  rintro e w6 ⟨rfl, hb6⟩
  have HB6 := Lib.hid (bstep HB5.out (bstep HN6.out hb6))
  have HS6 := Lib.hid (HS5.out.below (bstep HN6.out hb6))
  have HT6 := Lib.hid (HT5.out.below (bstep HN6.out hb6))
  clear hb6 HE6 HN6 HB5 HR5 HS5 HT5
  have HE7 := Lib.hid (equalN_any o2 _ [0, 1] [0, 1] _ (HS6.out.below (below_new w6 (.cells #[.int .i64 0, .int .i64 1] 3))) (two_litN w6 0 1 2 rfl) (by decide) (by decide))
  have HN7 := Lib.hid (below_new w6 (.cells #[.int .i64 0, .int .i64 1] 3))
  rw [dec_yes rfl] at HE7
  go_wp2_with fail
  refine HE7.out.mono ?_
  rintro e w7 ⟨rfl, hb7⟩
  have HB7 := Lib.hid (bstep HB6.out (bstep HN7.out hb7))
  have HT7 := Lib.hid (HT6.out.below (bstep HN7.out hb7))
  clear hb7 HE7 HN7 HB6 HS6 HT6
  have HE8 := Lib.hid (equal_any o3 _ [1, 0] [1, 0] _ (HT7.out.below (below_new w7 (.cells #[.int .i64 1, .int .i64 0] 3))) (two_lit w7 1 0 2 rfl) (by decide) (by decide))
  have HN8 := Lib.hid (below_new w7 (.cells #[.int .i64 1, .int .i64 0] 3))
  rw [dec_yes rfl] at HE8
  go_wp2_with fail
  refine HE8.out.mono ?_
  rintro e w8 ⟨rfl, hb8⟩
  have HB8 := Lib.hid (bstep HB1.out (bstep HB7.out (bstep HN8.out hb8)))
  clear hb8
  go_wp2
  go_ret
  exact ⟨rfl, HB8.out⟩
theorem ssmall_any (v vr : Value) (l : List BarD) (rs : List RunD) (w : World) (hp : Bars w v l) (hr : Runs w vr rs) (hl : l.length ≤ 140737488355328) (hlr : rs.length ≤ 140737488355328) :
    Calls Tryz.prog 17 #[v, vr] w (SmB rs w) := by
  have H := Lib.hid (small6_any v vr l rs w hp hr hl hlr)
  clear hp hr
  go_enter Tryz.func17, Tryz.ntmps17
  go_wp2_with fail
  refine H.out.mono ?_
  rintro e w1 ⟨q, rfl, hb1, hq⟩
  have HB1 := Lib.hid hb1
  have HQ := Lib.hid hq
  clear hb1 hq
  go_wp2
  go_ret
  exact ⟨q, rfl, HB1.out, HQ.out⟩
def RdS (w : World) (v vr : Value) (l : List BarD) (rs : List RunD) (X : List Int) (e : Ending) (w' : World) : Prop := ∃ q : Bool, e = .returned (.bool q) ∧ Below w.heap.size w w' ∧ (q = true → SqA w v vr l rs ∧ X.length ≤ 70 ∧ sqC l rs X = 0)
set_option maxHeartbeats 2000000 in
theorem sready_any (v vr xv : Value) (X : List Int) (l : List BarD) (rs : List RunD) (w : World) (hp : Bars w v l) (hr : Runs w vr rs) (hl : l.length ≤ 140737488355328) (hlr : rs.length ≤ 140737488355328) (hf : FitB l) (hx : Ints w xv X) (hlx : X.length ≤ 140737488355328) :
    Calls Tryz.prog 28 #[v, vr, xv] w (RdS w v vr l rs X) := by
  have H := Lib.hid (ssmall_any v vr l rs w hp hr hl hlr)
  have HP := Lib.hid hp
  have HR := Lib.hid hr
  have HX := Lib.hid hx
  obtain ⟨xo, xc, rfl⟩ := Sl.at_ hx
  clear hp hr hx
  by_cases h70 : X.length ≤ 70
  · have H70 := Lib.hid h70
    have d1 : decide ((X.length : Int) ≤ 70) = true := dec_yes (by omega)
    have d2 : decide (X.length ≤ 70) = true := dec_yes h70
    go_enter Tryz.func28, Tryz.ntmps28
    go_wp2_with fail
    refine H.out.mono ?_
    rintro e w1 ⟨q, rfl, hb1, hq⟩
    have HB1 := Lib.hid hb1
    have HQ := Lib.hid hq
    clear hb1 hq H
    cases q
    · go_wp2
      go_ret
      exact ⟨_, rfl, HB1.out, fun h => by cases h⟩
    · have HA : Hid (SqA w v vr l rs) := ⟨HP.out, HR.out, hl, hlr, hf, fun hok => fewN hok (HQ.out (by simp))⟩
      have HG := Lib.hid (rgvn39_any v vr (.slice xo X.length xc) X l rs w1 (HA.out.below HB1.out) (HX.out.below HB1.out) (by omega))
      obtain ⟨c, hc⟩ : ∃ c, sqC l rs X = c := ⟨_, rfl⟩
      have HCC := Lib.hid hc
      rw [hc] at HG
      clear hc
      go_wp2_with fail
      refine HG.out.mono ?_
      rintro e w2 ⟨rfl, hb2⟩
      have HB2 := Lib.hid (bstep HB1.out hb2)
      clear hb2 HG
      by_cases h0 : c = 0
      · subst h0
        go_wp2
        go_ret
        exact ⟨_, rfl, HB2.out, fun _ => ⟨HA.out, H70.out, HCC.out⟩⟩
      · have d3 : (c == 0) = false := beq_no h0
        go_wp2
        go_ret
        exact ⟨_, rfl, HB2.out, fun h => by cases h⟩
  · have d1 : decide ((X.length : Int) ≤ 70) = false := dec_no (by omega)
    have d2 : decide (X.length ≤ 70) = false := dec_no h70
    go_enter Tryz.func28, Tryz.ntmps28
    go_wp2_with fail
    refine H.out.mono ?_
    rintro e w1 ⟨q, rfl, hb1, hq⟩
    have HB1 := Lib.hid hb1
    clear hb1 hq H
    cases q
    all_goals
      go_wp2
      go_ret
      exact ⟨_, rfl, HB1.out, fun h => by cases h⟩
end Go.Proofs.YthmlejijfgbfbaaGreat
