/-
  The walk of BlockShows.
-/
import Derived.Test.YtnlloecbjohfdaaBkS
namespace Go.Proofs.Ytnlloecbjohfdaa
open Go.RowKit
set_option linter.unusedVariables false
set_option linter.unusedSimpArgs false
attribute [local go_sem ↓] Go.wp_at_zero Go.wp_at_succ

theorem witE_zero {L : List (List Bx)} {Z : List Int} {i k x : Int} (h : witE L Z i k x = 0) : pairE L.length i k x = 0 ∧ ∃ q, witAt L Z x i.toNat k.toNat = some q ∧ witV L Z i k x = q := by
  unfold witE at h
  by_cases hc : pairE L.length i k x = 0
  · rw [if_pos hc] at h
    cases hw : witAt L Z x i.toNat k.toNat with
    | none => rw [hw] at h; simp at h
    | some q =>
      refine ⟨hc, q, rfl, ?_⟩
      unfold witV
      rw [if_pos hc, hw]
      rfl
  · rw [if_neg hc] at h
    exact absurd h hc
theorem witV_err {L : List (List Bx)} {Z : List Int} {i k x : Int} (h : witE L Z i k x ≠ 0) : witV L Z i k x = pt0 := by
  unfold witV
  by_cases hc : pairE L.length i k x = 0
  · rw [if_pos hc]
    unfold witE at h
    rw [if_pos hc] at h
    cases hw : witAt L Z x i.toNat k.toNat with
    | none => rfl
    | some q => rw [hw] at h; simp at h
  · rw [if_neg hc]
/-- The legs of a laid bar. -/
theorem legsI_good (v vr : Value) (l : List BarD) (rs : List RunD) (i : Nat) (w : World) (hp : Bars w v l) (hr : Runs w vr rs) (hl : l.length ≤ 140737488355328) (hlr : rs.length ≤ 140737488355328) (hf : FitB l) (h : laidOk l rs = true) (hi : i < (lgsOf l rs).length) :
    Calls Try.prog 13 #[v, vr, .int .i64 (i : Int)] w fun e w' => ∃ o, e = .returned (.tuple #[o, .int .i64 0]) ∧ OwnBxs w' w.heap.size o ((lgsOf l rs).getD i []) ∧ Below w.heap.size w w' := by
  rw [lgsOf_len] at hi
  obtain ⟨q, b, hF⟩ := laid_fact h hi
  refine (legs_good v vr (i : Int) l rs w hp hr hl hlr hf h).mono fun e w' hp => ?_
  rcases hp with ⟨q2, o, _, hq2, he, ho, hb⟩ | ⟨hi2, _, _⟩
  · rw [Int.toNat_natCast] at hq2
    obtain rfl : q = q2 := Option.some.inj (hF.pts.symm.trans hq2)
    have := hF.lat
    unfold legsAt at this
    rw [this]
    exact ⟨o, he, ho, hb⟩
  · omega

set_option maxRecDepth 100000 in
theorem shows1_any (g : Nat) (q : Pt) (x : Bx) (w : World) (hg : BlkIs w g 39 (bxCellsA ⟨q, q⟩)) (hx : bxOk x = true) (hq : bxOk ⟨q, q⟩ = true) :
    Calls Try.prog 20 #[bxv x, .pointer (some ⟨g, 0, none⟩)] w fun e w' => e = .returned (.bool (inclB x ⟨q, q⟩)) ∧ Below w.heap.size w w' := by
  have HC := Lib.hid (fun W => contains_box x ⟨q, q⟩ W hx hq)
  have c0 := hg.cell 0
  have c1 := hg.cell 1
  have c2 := hg.cell 2
  have c3 := hg.cell 3
  have c4 := hg.cell 4
  have c5 := hg.cell 5
  have gz := hg.lt
  generalize inclB x ⟨q, q⟩ = ok at *
  clear hg hx hq
  go_enter Try.func20, Try.ntmps20
  go_wp2_with fail
  refine (HC.out _).mono ?_
  rintro e w1 ⟨rfl, hb1⟩
  have HB1 := Lib.hid (bstep (by go_grown) hb1 : Below w.heap.size w w1)
  clear hb1
  go_wp2
  go_ret
  exact ⟨rfl, HB1.out⟩
set_option maxRecDepth 100000 in
theorem shows2_any (g0 g1 g2 g3 g : Nat) (v vr : Value) (l : List BarD) (rs : List RunD) (i k : Nat) (q : Pt) (x : Bx) (w : World) (hg : BlkIs w g 39 (bxCellsA ⟨q, q⟩)) (h0 : BlkIs w g0 22 #[v]) (h1 : BlkIs w g1 23 #[vr]) (h2 : BlkIs w g2 3 #[.int .i64 (i : Int)]) (h3 : BlkIs w g3 3 #[.int .i64 (k : Int)])
    (hx : bxOk x = true) (hq : bxOk ⟨q, q⟩ = true) (hp : Bars w v l) (hr : Runs w vr rs) (hl : l.length ≤ 140737488355328) (h : laidOk l rs = true) (hi : i < (lgsOf l rs).length) (hk : k < (lgsOf l rs).length) :
    Calls Try.prog 22 #[bxv x, .pointer (some ⟨g0, 0, none⟩), .pointer (some ⟨g1, 0, none⟩), .pointer (some ⟨g2, 0, none⟩), .pointer (some ⟨g3, 0, none⟩), .pointer (some ⟨g, 0, none⟩)] w fun e w' =>
      e = .returned (.bool (tooNear (((szsOf l rs).getD i 0 + (szsOf l rs).getD k 0) * ((szsOf l rs).getD i 0 + (szsOf l rs).getD k 0)) x ⟨q, q⟩)) ∧ Below w.heap.size w w' := by
  have hb0 := below_new w (.cells (bxCellsA x) 39)
  have HB0 := Lib.hid hb0
  have HC := Lib.hid (bnear_any v vr l rs i k x ⟨q, q⟩ _ (hp.below hb0) (hr.below hb0) hl h hi hk hx hq)
  have c0 := hg.cell 0
  have c1 := hg.cell 1
  have c2 := hg.cell 2
  have c3 := hg.cell 3
  have c4 := hg.cell 4
  have c5 := hg.cell 5
  have gz := hg.lt
  have e0 := h0.cell 0
  have e1 := h1.cell 0
  have e2 := h2.cell 0
  have e3 := h3.cell 0
  have z0 := h0.lt
  have z1 := h1.lt
  have z2 := h2.lt
  have z3 := h3.lt
  generalize tooNear (((szsOf l rs).getD i 0 + (szsOf l rs).getD k 0) * ((szsOf l rs).getD i 0 + (szsOf l rs).getD k 0)) x ⟨q, q⟩ = ok at *
  obtain ⟨ao, ac, rfl⟩ := hp.at_
  obtain ⟨ro, rc, rfl⟩ := hr.at_
  clear hg h0 h1 h2 h3 hx hq hb0 hp hr h
  go_enter Try.func22, Try.ntmps22
  go_wp2_with fail
  refine HC.out.mono ?_
  rintro e w1 ⟨rfl, hb1⟩
  have HB1 := Lib.hid (bstep HB0.out hb1)
  clear hb1
  go_wp2
  go_ret
  exact ⟨rfl, HB1.out⟩
end Go.Proofs.Ytnlloecbjohfdaa
