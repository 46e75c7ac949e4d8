/-
  The example of the chapter on blocks: awake returns true; few.
-/
import Derived.Test.YtpiigmhbbcjamaaGreatBkw
import Derived.Test.YtpiigmhbbcjamaaGreatSch
import Derived.Test.YtpiigmhbbcjamaaGreatRfx
namespace Go.Proofs.YtpiigmhbbcjamaaGreat
open Go.RowKit
set_option linter.unusedVariables false
set_option linter.unusedSimpArgs false
attribute [local go_sem ↓] Go.wp_at_zero Go.wp_at_succ

def bexBars : List BarD := [⟨⟨#[105]⟩, 10, 1, 0, [1000]⟩, ⟨⟨#[107]⟩, 10, 1, 0, [400]⟩]
def bexRuns : List RunD := [⟨⟨#[105]⟩, 1, 2, ⟨0, 0, 0⟩, ⟨0, 0, 0⟩, 1⟩, ⟨⟨#[107]⟩, 2, -1, ⟨500, -200, 40⟩, ⟨0, 0, 0⟩, 1⟩]
theorem bex_ok : laidOk bexBars bexRuns = true := by kernel_rfl
theorem bex_up : blkR (lgsOf bexBars bexRuns) (szsOf bexBars bexRuns) 0 1 3 = false := by kernel_rfl
theorem bex_upE : pairE (lgsOf bexBars bexRuns).length 0 1 3 = 0 := by kernel_rfl
theorem bex_down : blkR (lgsOf bexBars bexRuns) (szsOf bexBars bexRuns) 0 1 (-3) = true := by kernel_rfl
theorem bex_downE : pairE (lgsOf bexBars bexRuns).length 0 1 (-3) = 0 := by kernel_rfl
theorem bex_wit : witV (lgsOf bexBars bexRuns) (szsOf bexBars bexRuns) 0 1 (-3) = ⟨500, 0, 40⟩ := by kernel_rfl
theorem bex_witE : witE (lgsOf bexBars bexRuns) (szsOf bexBars bexRuns) 0 1 (-3) = 0 := by kernel_rfl
theorem bex_fit : FitB bexBars := by
  intro b hb
  simp only [bexBars, List.mem_cons, List.not_mem_nil, or_false] at hb
  rcases hb with rfl | rfl
  · exact ⟨by unfold maxLen; decide, by decide⟩
  · exact ⟨by unfold maxLen; decide, by decide⟩

def BexPost (w : World) (e : Ending) (w' : World) : Prop := ∃ v vr, e = .returned (.tuple #[v, vr]) ∧ Bars w' v bexBars ∧ Runs w' vr bexRuns ∧ Below w.heap.size w w'
theorem bex_bars {W : World} {g h h2 : Nat} {n c : Nat} (hn : n = 2) (hd : BlkIs W h 3 #[.int .i64 1000]) (hd2 : BlkIs W h2 3 #[.int .i64 400])
    (hb : BlkIs W g 87 #[.string ⟨#[105]⟩, .int .i64 10, .int .i64 1, .int .i64 0, .slice (some ⟨h, 0, none⟩) 1 1, .string ⟨#[107]⟩, .int .i64 10, .int .i64 1, .int .i64 0, .slice (some ⟨h2, 0, none⟩) 1 1]) : Bars W (.slice (some ⟨g, 0, none⟩) n c) bexBars := by
  subst hn
  refine ⟨_, c, rfl, fun _ => ⟨g, 0, rfl, hb.lt, fun k x hk => ?_⟩⟩
  match k, hk with
  | 0, hk =>
    cases hk
    refine ⟨hb.cell 0, hb.cell 1, hb.cell 2, hb.cell 3, some ⟨h, 0, none⟩, 1, hb.cell 4, some ⟨h, 0, none⟩, 1, rfl, fun _ => ⟨h, 0, rfl, hd.lt, fun j y hj => ?_⟩⟩
    match j, hj with
    | 0, hj =>
      cases hj
      exact hd.cell 0
  | 1, hk =>
    cases hk
    refine ⟨hb.cell 5, hb.cell 6, hb.cell 7, hb.cell 8, some ⟨h2, 0, none⟩, 1, hb.cell 9, some ⟨h2, 0, none⟩, 1, rfl, fun _ => ⟨h2, 0, rfl, hd2.lt, fun j y hj => ?_⟩⟩
    match j, hj with
    | 0, hj =>
      cases hj
      exact hd2.cell 0
theorem bex_runs {W : World} {g : Nat} {n c : Nat} (hn : n = 2) (hb : BlkIs W g 75 #[.string ⟨#[105]⟩, .int .i64 1, .int .i64 2, .int .i64 0, .int .i64 0, .int .i64 0, .int .i64 0, .int .i64 0, .int .i64 0, .int .i64 1, .string ⟨#[107]⟩, .int .i64 2, .int .i64 (-1), .int .i64 500, .int .i64 (-200), .int .i64 40, .int .i64 0, .int .i64 0, .int .i64 0, .int .i64 1]) : Runs W (.slice (some ⟨g, 0, none⟩) n c) bexRuns := by
  subst hn
  refine ⟨_, c, rfl, fun _ => ⟨g, 0, rfl, hb.lt, fun k x hk j u hj => ?_⟩⟩
  match k, hk with
  | 0, hk =>
    cases hk
    rw [Nat.zero_mul, Nat.zero_add, hb.cell j]
    have hj2 := (List.getElem?_eq_some_iff.1 hj).1
    have : j < 10 := hj2
    rw [← hj]
    obtain rfl | rfl | rfl | rfl | rfl | rfl | rfl | rfl | rfl | rfl : j = 0 ∨ j = 1 ∨ j = 2 ∨ j = 3 ∨ j = 4 ∨ j = 5 ∨ j = 6 ∨ j = 7 ∨ j = 8 ∨ j = 9 := by omega
    all_goals rfl
  | 1, hk =>
    cases hk
    rw [Nat.one_mul, Nat.zero_add, hb.cell]
    have hj2 := (List.getElem?_eq_some_iff.1 hj).1
    have : j < 10 := hj2
    rw [← hj]
    obtain rfl | rfl | rfl | rfl | rfl | rfl | rfl | rfl | rfl | rfl : j = 0 ∨ j = 1 ∨ j = 2 ∨ j = 3 ∨ j = 4 ∨ j = 5 ∨ j = 6 ∨ j = 7 ∨ j = 8 ∨ j = 9 := by omega
    all_goals rfl
end Go.Proofs.YtpiigmhbbcjamaaGreat
