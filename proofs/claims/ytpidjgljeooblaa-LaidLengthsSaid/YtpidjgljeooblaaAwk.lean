/-
  The example of the chapter: awake returns true.
-/
import Derived.Test.YtpidjgljeooblaaEqS
import Derived.Test.YtpidjgljeooblaaRmL
namespace Go.Proofs.Ytpidjgljeooblaa
open Go.RowKit
set_option linter.unusedVariables false
set_option linter.unusedSimpArgs false

def exBars : List BarD := [⟨⟨#[97]⟩, 12, 2, 0, [100]⟩]
def exRuns : List RunD := [⟨⟨#[97]⟩, 2, -1, ⟨5, 5, 5⟩, ⟨0, 0, 10⟩, 2⟩]
theorem ex_ok : laidOk exBars exRuns = true := by kernel_rfl
theorem ex_pts0 : (laidPts exBars exRuns)[0]? = some [⟨5, 5, 5⟩, ⟨5, 105, 5⟩] := by kernel_rfl
theorem ex_pts1 : (laidPts exBars exRuns)[1]? = some [⟨5, 5, 15⟩, ⟨5, 105, 15⟩] := by kernel_rfl
theorem ex_bal : balOf exBars exRuns = [] := by kernel_rfl
theorem ex_legs0 : legsN [⟨5, 5, 5⟩, ⟨5, 105, 5⟩] 1 = [⟨⟨5, 5, 5⟩, ⟨5, 105, 5⟩⟩] := by kernel_rfl
theorem ex_legs1 : legsN [⟨5, 5, 15⟩, ⟨5, 105, 15⟩] 1 = [⟨⟨5, 5, 15⟩, ⟨5, 105, 15⟩⟩] := by kernel_rfl
theorem ex_cum : cumN exRuns = 2 := by kernel_rfl
theorem ex_fit : FitB exBars := by
  intro b hb
  simp only [exBars, List.mem_singleton] at hb
  subst hb
  exact ⟨by unfold maxLen; decide, by decide⟩

def ExPost (w : World) (e : Ending) (w' : World) : Prop := ∃ v vr, e = .returned (.tuple #[v, vr]) ∧ Bars w' v exBars ∧ Runs w' vr exRuns ∧ Below w.heap.size w w'
theorem ex_bars {W : World} {g h : Nat} {n c : Nat} (hn : n = 1) (hd : BlkIs W h 3 #[.int .i64 100]) (hb : BlkIs W g 54 #[.string ⟨#[97]⟩, .int .i64 12, .int .i64 2, .int .i64 0, .slice (some ⟨h, 0, none⟩) 1 1]) : Bars W (.slice (some ⟨g, 0, none⟩) n c) exBars := by
  subst hn
  refine ⟨_, c, rfl, fun _ => ⟨g, 0, rfl, hb.lt, fun k x hk => ?_⟩⟩
  match k, hk with
  | 0, hk =>
    cases hk
    refine ⟨hb.cell 0, hb.cell 1, hb.cell 2, hb.cell 3, some ⟨h, 0, none⟩, 1, hb.cell 4, some ⟨h, 0, none⟩, 1, rfl, fun _ => ⟨h, 0, rfl, hd.lt, fun j y hj => ?_⟩⟩
    match j, hj with
    | 0, hj =>
      cases hj
      exact hd.cell 0
theorem ex_runs {W : World} {g : Nat} {n c : Nat} (hn : n = 1) (hb : BlkIs W g 60 #[.string ⟨#[97]⟩, .int .i64 2, .int .i64 (-1), .int .i64 5, .int .i64 5, .int .i64 5, .int .i64 0, .int .i64 0, .int .i64 10, .int .i64 2]) : Runs W (.slice (some ⟨g, 0, none⟩) n c) exRuns := by
  subst hn
  refine ⟨_, c, rfl, fun _ => ⟨g, 0, rfl, hb.lt, fun k x hk j u hj => ?_⟩⟩
  match k, hk with
  | 0, hk =>
    cases hk
    rw [Nat.zero_mul, Nat.zero_add, hb.cell j]
    simpa [runCells] using hj
theorem example_any (w : World) : Calls Try.prog 40 #[] w (ExPost w) := by
  go_enter Try.func40, Try.ntmps40
  go_wp2
  go_ret2
  refine ⟨_, _, rfl, ?_, ?_, by go_grown⟩
  · exact ex_bars rfl (((BlkIs.new w _ _).alloc _).alloc _) ((BlkIs.new1 w _ _ _).alloc _)
  · have h := BlkIs.new1 (w.alloc (.cells #[.int .i64 100] 3)) (.cells #[.string ⟨#[97]⟩, .int .i64 12, .int .i64 2, .int .i64 0, .slice (some ⟨w.heap.size, 0, none⟩) 1 1] 54) #[.string ⟨#[97]⟩, .int .i64 2, .int .i64 (-1), .int .i64 5, .int .i64 5, .int .i64 5, .int .i64 0, .int .i64 0, .int .i64 10, .int .i64 2] 60
    rw [World.size_alloc] at h
    exact ex_runs rfl h

theorem ex_leg {w w' : World} {i : Int} {e : Ending} (hi : i = 0 ∨ i = 1) (h : LegsPost w exBars exRuns i e w') :
    ∃ v, e = .returned (.tuple #[v, .int .i64 0]) ∧ OwnBxs w' w.heap.size v [⟨⟨5, 5, 5 + 10 * i⟩, ⟨5, 105, 5 + 10 * i⟩⟩] ∧ Below w.heap.size w w' := by
  rcases h with ⟨q, v, h0, hq, he, ho, hb⟩ | ⟨h0, _⟩
  · refine ⟨v, he, ?_, hb⟩
    rcases hi with rfl | rfl
    · obtain rfl : [⟨5, 5, 5⟩, ⟨5, 105, 5⟩] = q := Option.some.inj (ex_pts0.symm.trans hq)
      exact ho
    · obtain rfl : [⟨5, 5, 15⟩, ⟨5, 105, 15⟩] = q := Option.some.inj (ex_pts1.symm.trans hq)
      exact ho
  · rw [ex_cum] at h0
    omega

set_option maxHeartbeats 2000000 in
theorem awake_any (w : World) : Calls Try.prog 10 #[] w fun e w' => e = .returned (.bool true) ∧ Below w.heap.size w w' := by
  go_enter Try.func10, Try.ntmps10
  go_wp2_with fail
  refine (example_any _).mono ?_
  rintro e w1 ⟨v, vr, rfl, hv, hr, hb1⟩
  have HL0 := Lib.hid (legs_good v vr 0 exBars exRuns w1 hv hr (by decide) (by decide) ex_fit ex_ok)
  have HL1 := Lib.hid (fun W (hW : Below w1.heap.size w1 W) => legs_good v vr 1 exBars exRuns W (hv.below hW) (hr.below hW) (by decide) (by decide) ex_fit ex_ok)
  have HBA := Lib.hid (fun W (hW : Below w1.heap.size w1 W) => balance_good v vr exBars exRuns W (hv.below hW) (hr.below hW) (by decide) (by decide) ex_fit ex_ok (fun r hr => by
    simp only [exRuns, List.mem_singleton] at hr
    subst hr
    unfold maxLen; decide) (fun b hb => by
    simp only [exBars, List.mem_singleton] at hb
    subst hb
    exact ⟨by decide, by decide⟩) (by decide))
  have HB1 := Lib.hid hb1
  clear hv hr hb1
  go_wp2_with fail
  refine HL0.out.mono ?_
  intro e w2 h2
  obtain ⟨l, rfl, ho2, hb2⟩ := ex_leg (.inl rfl) h2
  have HO2 := Lib.hid ho2
  have HB2 := Lib.hid hb2
  clear h2 ho2 hb2
  go_wp2_with fail
  refine (HL1.out w2 HB2.out).mono ?_
  intro e w3 h3
  obtain ⟨m, rfl, ho3, hb3⟩ := ex_leg (.inr rfl) h3
  have HO3 := Lib.hid ho3
  have HO23 := Lib.hid (OwnN.below HO2.out hb3)
  have HB3 := Lib.hid (bstep HB2.out hb3)
  clear h3 ho3 hb3 HO2
  go_wp2_with fail
  refine (HBA.out w3 HB3.out).mono ?_
  rintro e w4 ⟨o, rfl, ho4, hb4⟩
  rw [ex_bal] at ho4
  obtain ⟨oo, oc, rfl⟩ := OwnN.shape ho4
  have HM4 := Lib.hid (OwnN.below HO3.out hb4)
  have HL4 := Lib.hid (OwnN.below HO23.out hb4)
  have HB4 := Lib.hid (bstep HB3.out hb4)
  clear ho4 hb4 HO3 HO23
  go_wp2_with fail
  have HE1 := Lib.hid (eqBx_any l (.slice (some ⟨w4.heap.size, 0, none⟩) 1 1) [⟨⟨5, 5, 5⟩, ⟨5, 105, 5⟩⟩] [⟨⟨5, 5, 5⟩, ⟨5, 105, 5⟩⟩] (w4.alloc (.cells (bxCellsA ⟨⟨5, 5, 5⟩, ⟨5, 105, 5⟩⟩) 33)) (OwnN.fl bx_len (OwnN.alloc HL4.out _)) (OwnN.fl bx_len (own_lit w4 33 6 bxCells [⟨⟨5, 5, 5⟩, ⟨5, 105, 5⟩⟩] _ 1 0 (Nat.zero_le _) rfl rfl bx_len (by decide))) (by decide) (by decide))
  rw [dec_yes rfl] at HE1
  refine HE1.out.mono ?_
  rintro e w5 ⟨rfl, hb5⟩
  have HB5 := Lib.hid (bstep (HB4.out.alloc HB4.out.size (.cells (bxCellsA ⟨⟨5, 5, 5⟩, ⟨5, 105, 5⟩⟩) 33)) hb5)
  have HM5 := Lib.hid (OwnN.below (OwnN.alloc HM4.out (.cells (bxCellsA ⟨⟨5, 5, 5⟩, ⟨5, 105, 5⟩⟩) 33)) hb5)
  clear hb5
  go_wp2_with fail
  have HE2 := Lib.hid (eqBx_any m (.slice (some ⟨w5.heap.size, 0, none⟩) 1 1) [⟨⟨5, 5, 15⟩, ⟨5, 105, 15⟩⟩] [⟨⟨5, 5, 15⟩, ⟨5, 105, 15⟩⟩] (w5.alloc (.cells (bxCellsA ⟨⟨5, 5, 15⟩, ⟨5, 105, 15⟩⟩) 33)) (OwnN.fl bx_len (OwnN.alloc HM5.out _)) (OwnN.fl bx_len (own_lit w5 33 6 bxCells [⟨⟨5, 5, 15⟩, ⟨5, 105, 15⟩⟩] _ 1 0 (Nat.zero_le _) rfl rfl bx_len (by decide))) (by decide) (by decide))
  rw [dec_yes rfl] at HE2
  refine HE2.out.mono ?_
  rintro e w6 ⟨rfl, hb6⟩
  have HB6 := Lib.hid (bstep (HB5.out.alloc HB5.out.size (.cells (bxCellsA ⟨⟨5, 5, 15⟩, ⟨5, 105, 15⟩⟩) 33)) hb6)
  have HBZ := Lib.hid (bstep HB1.out HB6.out)
  clear hb6
  go_wp2
  go_ret
  exact ⟨rfl, HBZ.out⟩
end Go.Proofs.Ytpidjgljeooblaa
