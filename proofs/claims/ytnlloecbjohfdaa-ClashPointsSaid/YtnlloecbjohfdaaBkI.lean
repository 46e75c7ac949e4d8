/-
  The example of the chapter on blocks: awake returns true; few.
-/
import Derived.Test.YtnlloecbjohfdaaBkw
import Derived.Test.YtnlloecbjohfdaaSch
import Derived.Test.YtnlloecbjohfdaaRfx
namespace Go.Proofs.Ytnlloecbjohfdaa
open Go.RowKit
set_option linter.unusedVariables false
set_option linter.unusedSimpArgs false
attribute [local go_sem ↓] Go.wp_at_zero Go.wp_at_succ

theorem at_any (x y z : Int) (w : World) : Calls Try.prog 14 #[.int .i64 x, .int .i64 y, .int .i64 z] w fun e w' => e = .returned (ptv ⟨x, y, z⟩) ∧ Below w.heap.size w w' := by
  go_enter Try.func14, Try.ntmps14
  go_wp2
  exact bodyPost_ret (v := ptv _) (by simp [results, Try.results14, go_sem]) rfl ⟨rfl, by go_grown⟩

def bexBars : List BarD := [⟨⟨#[105]⟩, 10, 1, 0, [1000]⟩, ⟨⟨#[107]⟩, 10, 1, 0, [400]⟩]
def bexRuns : List RunD := [⟨⟨#[105]⟩, 1, 2, ⟨0, 0, 0⟩, ⟨0, 0, 0⟩, 1⟩, ⟨⟨#[107]⟩, 2, -1, ⟨500, -200, 40⟩, ⟨0, 0, 0⟩, 1⟩]
theorem bex_ok : laidOk bexBars bexRuns = true := by kernel_rfl
theorem bex_up : blkR (lgsOf bexBars bexRuns) (szsOf bexBars bexRuns) 0 1 3 = false := by kernel_rfl
theorem bex_upE : pairE (lgsOf bexBars bexRuns).length 0 1 3 = 0 := by kernel_rfl
theorem bex_down : blkR (lgsOf bexBars bexRuns) (szsOf bexBars bexRuns) 0 1 (-3) = true := by kernel_rfl
theorem bex_downE : pairE (lgsOf bexBars bexRuns).length 0 1 (-3) = 0 := by kernel_rfl
theorem bex_wit : witV (lgsOf bexBars bexRuns) (szsOf bexBars bexRuns) 0 1 (-3) = ⟨500, 0, 40⟩ := by kernel_rfl
theorem bex_witE : witE (lgsOf bexBars bexRuns) (szsOf bexBars bexRuns) 0 1 (-3) = 0 := by kernel_rfl
theorem bex_fit : FitB bexBars := by
  intro b hb
  simp only [bexBars, List.mem_cons, List.not_mem_nil, or_false] at hb
  rcases hb with rfl | rfl
  · exact ⟨by unfold maxLen; decide, by decide⟩
  · exact ⟨by unfold maxLen; decide, by decide⟩

def BexPost (w : World) (e : Ending) (w' : World) : Prop := ∃ v vr, e = .returned (.tuple #[v, vr]) ∧ Bars w' v bexBars ∧ Runs w' vr bexRuns ∧ Below w.heap.size w w'
theorem bex_bars {W : World} {g h h2 : Nat} {n c : Nat} (hn : n = 2) (hd : BlkIs W h 3 #[.int .i64 1000]) (hd2 : BlkIs W h2 3 #[.int .i64 400])
    (hb : BlkIs W g 100 #[.string ⟨#[105]⟩, .int .i64 10, .int .i64 1, .int .i64 0, .slice (some ⟨h, 0, none⟩) 1 1, .string ⟨#[107]⟩, .int .i64 10, .int .i64 1, .int .i64 0, .slice (some ⟨h2, 0, none⟩) 1 1]) : Bars W (.slice (some ⟨g, 0, none⟩) n c) bexBars := by
  subst hn
  refine ⟨_, c, rfl, fun _ => ⟨g, 0, rfl, hb.lt, fun k x hk => ?_⟩⟩
  match k, hk with
  | 0, hk =>
    cases hk
    refine ⟨hb.cell 0, hb.cell 1, hb.cell 2, hb.cell 3, some ⟨h, 0, none⟩, 1, hb.cell 4, some ⟨h, 0, none⟩, 1, rfl, fun _ => ⟨h, 0, rfl, hd.lt, fun j y hj => ?_⟩⟩
    match j, hj with
    | 0, hj =>
      cases hj
      exact hd.cell 0
  | 1, hk =>
    cases hk
    refine ⟨hb.cell 5, hb.cell 6, hb.cell 7, hb.cell 8, some ⟨h2, 0, none⟩, 1, hb.cell 9, some ⟨h2, 0, none⟩, 1, rfl, fun _ => ⟨h2, 0, rfl, hd2.lt, fun j y hj => ?_⟩⟩
    match j, hj with
    | 0, hj =>
      cases hj
      exact hd2.cell 0
theorem bex_runs {W : World} {g : Nat} {n c : Nat} (hn : n = 2) (hb : BlkIs W g 114 #[.string ⟨#[105]⟩, .int .i64 1, .int .i64 2, .int .i64 0, .int .i64 0, .int .i64 0, .int .i64 0, .int .i64 0, .int .i64 0, .int .i64 1, .string ⟨#[107]⟩, .int .i64 2, .int .i64 (-1), .int .i64 500, .int .i64 (-200), .int .i64 40, .int .i64 0, .int .i64 0, .int .i64 0, .int .i64 1]) : Runs W (.slice (some ⟨g, 0, none⟩) n c) bexRuns := by
  subst hn
  refine ⟨_, c, rfl, fun _ => ⟨g, 0, rfl, hb.lt, fun k x hk j u hj => ?_⟩⟩
  match k, hk with
  | 0, hk =>
    cases hk
    rw [Nat.zero_mul, Nat.zero_add, hb.cell j]
    have hj2 := (List.getElem?_eq_some_iff.1 hj).1
    have : j < 10 := hj2
    rw [← hj]
    obtain rfl | rfl | rfl | rfl | rfl | rfl | rfl | rfl | rfl | rfl : j = 0 ∨ j = 1 ∨ j = 2 ∨ j = 3 ∨ j = 4 ∨ j = 5 ∨ j = 6 ∨ j = 7 ∨ j = 8 ∨ j = 9 := by omega
    all_goals rfl
  | 1, hk =>
    cases hk
    rw [Nat.one_mul, Nat.zero_add, hb.cell]
    have hj2 := (List.getElem?_eq_some_iff.1 hj).1
    have : j < 10 := hj2
    rw [← hj]
    obtain rfl | rfl | rfl | rfl | rfl | rfl | rfl | rfl | rfl | rfl : j = 0 ∨ j = 1 ∨ j = 2 ∨ j = 3 ∨ j = 4 ∨ j = 5 ∨ j = 6 ∨ j = 7 ∨ j = 8 ∨ j = 9 := by omega
    all_goals rfl
set_option maxHeartbeats 2000000 in
theorem bexample_any (w : World) : Calls Try.prog 45 #[] w (BexPost w) := by
  go_enter Try.func45, Try.ntmps45
  go_wp2_with fail
  refine (at_any _ _ _ _).mono ?_
  rintro e w1 ⟨rfl, hb1⟩
  have hx0 := BlkIs.below (((BlkIs.new w #[.int .i64 1000] 3).alloc (.cells #[.int .i64 400] 3)).alloc (.cells #[.string ⟨#[105]⟩, .int .i64 10, .int .i64 1, .int .i64 0, .slice (some ⟨w.heap.size, 0, none⟩) 1 1, .string ⟨#[107]⟩, .int .i64 10, .int .i64 1, .int .i64 0, .slice (some ⟨w.heap.size + 1, 0, none⟩) 1 1] 100)) hb1
  have hx1 := BlkIs.below ((BlkIs.new1 w (.cells #[.int .i64 1000] 3) #[.int .i64 400] 3).alloc (.cells #[.string ⟨#[105]⟩, .int .i64 10, .int .i64 1, .int .i64 0, .slice (some ⟨w.heap.size, 0, none⟩) 1 1, .string ⟨#[107]⟩, .int .i64 10, .int .i64 1, .int .i64 0, .slice (some ⟨w.heap.size + 1, 0, none⟩) 1 1] 100)) hb1
  have hx2 := BlkIs.below (BlkIs.new1 (w.alloc (.cells #[.int .i64 1000] 3)) (.cells #[.int .i64 400] 3) #[.string ⟨#[105]⟩, .int .i64 10, .int .i64 1, .int .i64 0, .slice (some ⟨w.heap.size, 0, none⟩) 1 1, .string ⟨#[107]⟩, .int .i64 10, .int .i64 1, .int .i64 0, .slice (some ⟨w.heap.size + 1, 0, none⟩) 1 1] 100) hb1
  simp only [World.size_alloc] at hx2
  have HBA := Lib.hid (bex_bars (n := 2) (c := 2) rfl (hx0.below (below_new w1 _)) (hx1.below (below_new w1 _)) (hx2.below (below_new w1 (.cells #[.string ⟨#[105]⟩, .int .i64 1, .int .i64 2, .int .i64 0, .int .i64 0, .int .i64 0, .int .i64 0, .int .i64 0, .int .i64 0, .int .i64 1, .string ⟨#[107]⟩, .int .i64 2, .int .i64 (-1), .int .i64 500, .int .i64 (-200), .int .i64 40, .int .i64 0, .int .i64 0, .int .i64 0, .int .i64 1] 114))))
  have HRU := Lib.hid (bex_runs (n := 2) (c := 2) rfl (BlkIs.new w1 _ _))
  have HB := Lib.hid (bstep (by go_grown) hb1 : Below w.heap.size w w1)
  clear hx0 hx1 hx2 hb1
  go_wp2
  go_ret2
  exact ⟨_, _, rfl, HBA.out, HRU.out, by have := HB.out; exact this.alloc this.size _⟩

set_option maxHeartbeats 2000000 in
theorem bawake_any (w : World) : Calls Try.prog 10 #[] w fun e w' => e = .returned (.bool true) ∧ Below w.heap.size w w' := by
  go_enter Try.func10, Try.ntmps10
  go_wp2_with fail
  refine (bexample_any _).mono ?_
  rintro e w1 ⟨v, vr, rfl, hv, hr, hb1⟩
  have HU := Lib.hid (fun W (hW : Below w1.heap.size w1 W) => blocksI_good v vr 0 1 3 bexBars bexRuns W (hv.below hW) (hr.below hW) (by decide) (by decide) bex_fit bex_ok)
  have HD := Lib.hid (fun W (hW : Below w1.heap.size w1 W) => blocksI_good v vr 0 1 (-3) bexBars bexRuns W (hv.below hW) (hr.below hW) (by decide) (by decide) bex_fit bex_ok)
  have HWI := Lib.hid (fun W (hW : Below w1.heap.size w1 W) => witnessI_good v vr 0 1 (-3) bexBars bexRuns W (hv.below hW) (hr.below hW) (by decide) (by decide) bex_fit bex_ok)
  rw [bex_up, bex_upE] at HU
  rw [bex_down, bex_downE] at HD
  rw [bex_wit, bex_witE] at HWI
  have HB1 := Lib.hid hb1
  clear hv hr hb1
  go_wp2_with fail
  refine (HU.out _ (Below.refl _ _)).mono ?_
  rintro e w2 ⟨rfl, hb2⟩
  have HB2 := Lib.hid hb2
  clear hb2
  go_wp2_with fail
  refine (HD.out _ HB2.out).mono ?_
  rintro e w3 ⟨rfl, hb3⟩
  have HB3 := Lib.hid (bstep HB2.out hb3)
  clear hb3
  go_wp2_with fail
  refine (HWI.out _ HB3.out).mono ?_
  rintro e w4 ⟨rfl, hb4⟩
  have HB4 := Lib.hid (bstep HB1.out (bstep HB3.out hb4))
  have hx := BlkIs.new w4 #[.int .i64 500, .int .i64 0, .int .i64 40] 35
  have c0 := fun d os => cell_regrown (hx.cell 0) d os
  have c1 := fun d os => cell_regrown (hx.cell 1) d os
  have c2 := fun d os => cell_regrown (hx.cell 2) d os
  have hq : ∀ W, (Op.equalIn 10000 35 (.agg #[.int .i64 500, .int .i64 0, .int .i64 40]) (.agg #[.int .i64 500, .int .i64 0, .int .i64 40])).run Try.prog W = .ok true W := fun W => by
    have := run_eq_pt ⟨500, 0, 40⟩ ⟨500, 0, 40⟩ W
    rw [dec_yes rfl] at this
    exact this
  clear hb4 hx HU HD HWI
  go_wp2_with fail
  refine wp_region_quiet_below (by kernel_rfl) (by kernel_rfl) ?_
  repeat (go_big_quiet_step ((first
    | (go_at_call 14; exact Calls.regrown_of (at_any _ _ _ _)))))
  refine wpQuiet_nil ?_
  intro _ hw'
  obtain ⟨⟨nq, osq⟩, hw''⟩ := hw'
  subst hw''
  have HB5 := Lib.hid (bstep (HB4.out.alloc HB4.out.size (.cells #[.int .i64 500, .int .i64 0, .int .i64 40] 35)) (below_regrown _ nq osq))
  go_wp2
  go_ret
  exact ⟨rfl, HB5.out⟩

theorem few_any (v vr : Value) (l : List BarD) (rs : List RunD) (w : World) (hp : Bars w v l) (hr : Runs w vr rs) (hl : l.length ≤ 140737488355328) (hlr : rs.length ≤ 140737488355328) :
    Calls Try.prog 11 #[v, vr] w (SmB rs w) := by
  have H := Lib.hid (small6_any v vr l rs w hp hr hl hlr)
  go_enter Try.func11, Try.ntmps11
  go_wp2_with fail
  refine H.out.mono ?_
  rintro e w1 ⟨q, rfl, hb1, hq⟩
  have HB1 := Lib.hid hb1
  have HQ := Lib.hid hq
  clear hb1 hq
  go_wp2
  go_ret
  exact ⟨_, rfl, HB1.out, HQ.out⟩
end Go.Proofs.Ytnlloecbjohfdaa
