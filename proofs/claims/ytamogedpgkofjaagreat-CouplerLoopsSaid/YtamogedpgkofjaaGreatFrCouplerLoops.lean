/-
  'stirruplaw40.CouplerLoops': for every input the call returns true, and each argument reads afterwards as it read before.
-/
import Derived.Test.YtamogedpgkofjaaGreatRows
import Derived.Test.YtamogedpgkofjaaGreatClo
import Derived.Test.YtamogedpgkofjaaGreatLaw
import Derived.Test.YtamogedpgkofjaaGreatJnd
import Derived.Test.YtamogedpgkofjaaGreatOpB
namespace Go.Proofs.YtamogedpgkofjaaGreat.couplerLoops
open Go.ChangeShapes Go.WideShapes Go.ChangeAt Go.RowKit
set_option linter.unusedVariables false


theorem own : ownKnob Tryz.prog.godebug = none := by kernel_rfl

set_option maxRecDepth 100000 in
theorem lifted (os : Os) (started : os.Started) (H : Type) (enc : TypeId × Value → H) :
    ReturnsInHanded {} Tryz.checked os 4 .any (Rows.couplerLoopsSpec.pre6 enc Tryz.prog Tryz.f4 Rows.couplerLoopsRow.domain false) (Rows.couplerLoopsSpec.post enc Tryz.prog Tryz.f4 false true false false) := by
  refine returnsInHanded_of_change_sized (C := Tryz.checked) own started (by kernel_rfl) Tryz.func4
    (ChangeSpec.witness6 (enc := enc) (C := Tryz.checked) false ⟨#[], #[.slice none 0 0, .slice none 0 0, .slice none 0 0], []⟩ 8 (by kernel_rfl) (by kernel_rfl) (by kernel_rfl) (by kernel_rfl)) ?_
  intro W base args ds gs before hval0 hW hcnd hsz0 _
  have hval : ∀ (j : Nat) t v, Tryz.f4.params[j]? = some t → args[j]? = some v → Value.okWide Tryz.prog W .any base t v := hval0
  have hsz : (DataW.weightsEach Tryz.prog (Tryz.f4.params.toList ++ Rows.couplerLoopsSpec.plain.varTypes Tryz.prog) (ds ++ gs)).all (· ≤ reachBytes) = true := hsz0
  have hW' := hW
  obtain ⟨p, q, hA0, hV, rfl, hfz, hnd⟩ := hW
  have hA : DataW.TrodAll enc Tryz.prog W 0 (fun _ => true) true Tryz.f4.params.toList args.toList ds p := hA0
  rw [Tryz.params4] at hA hval hsz
  obtain ⟨v0, vs0, d0, ds0, p0, q0, hargs, rfl, rfl, h0, r0⟩ := trodAll_cons hA
  obtain ⟨v1, vs1, d1, ds1, p1, q1, rfl, rfl, rfl, h1, r1⟩ := trodAll_cons r0
  obtain ⟨v2, vs2, d2, ds2, p2, q2, rfl, rfl, rfl, h2, r2⟩ := trodAll_cons r1
  obtain ⟨rfl, rfl, rfl⟩ := trodAll_nil r2
  obtain rfl : args = #[v0, v1, v2] := by cases args; simp_all
  obtain ⟨rfl, rfl⟩ := trodVars_none hV
  obtain ⟨l0, s0, el0, f0⟩ := open_bars (okWide_slice Tryz.underlying22 (hval 0 22 v0 rfl rfl)) h0 hsz (j := 0) rfl rfl
  have b0 := el0.le hsz 0 22 104 64 rfl rfl Tryz.underlying22 (by kernel_rfl) (by omega)
  obtain ⟨l1, s1, el1, f1⟩ := open_runs (okWide_slice Tryz.underlying23 (hval 1 23 v1 rfl rfl)) h1
  have b1 := el1.le hsz 1 23 90 88 rfl rfl Tryz.underlying23 (by kernel_rfl) (by omega)
  obtain ⟨l2, s2, el2, w2⟩ := open_sl Tryz.underlying24 Tryz.underlying3 (by kernel_rfl) (okWide_slice Tryz.underlying24 (hval 2 24 v2 rfl rfl)) h2
  have b2 := el2.le hsz 2 24 3 8 rfl rfl Tryz.underlying24 (by kernel_rfl) (by omega)
  clear hA0 hval0 hsz0

  refine (couplerLoops_walk W v0 l0 s0 f0 b0 v1 l1 s1 f1 b1 v2 l2 s2 b2 w2).mono fun e W' ⟨he, hg⟩ => ?_
  subst he
  exact ⟨_, rfl, law_done jndLaid hW' rfl rfl (by kernel_rfl) rfl Tryz.underlying4 hg⟩

theorem jWf : Rows.couplerLoopsRow.wf (OpenSpec.ofChange Rows.couplerLoopsSpec) = true := by kernel_rfl
theorem jIn : (Rows.couplerLoopsRow.inPlace == Tryz.prog.inPlace 4) = true := by kernel_rfl
theorem jUn : (Rows.couplerLoopsRow.unfollowed == Tryz.prog.unfollowed 4) = true := by kernel_rfl
theorem jRe : (Rows.couplerLoopsRow.recurses == Tryz.prog.recurses 4) = true := by kernel_rfl
theorem jNa : (Rows.couplerLoopsRow.named == Tryz.prog.varsNamed 4) = true := by kernel_rfl
theorem jPk : (Rows.couplerLoopsRow.plainKeys == Tryz.prog.plainKeys) = true := by kernel_rfl
theorem jLi : (Rows.couplerLoopsRow.lifted == Tryz.prog.liftsFinal) = true := by kernel_rfl
theorem jFn : Tryz.prog.funcNamed Rows.couplerLoopsRow.func = some 4 := by kernel_rfl
set_option maxRecDepth 100000 in
theorem closed : joinedFacts Tryz.prog 4 Tryz.f4 Rows.couplerLoopsSpec Rows.couplerLoopsRow = true := by
  unfold joinedFacts
  rw [jWf, jIn, jUn, jRe, jNa, jPk, jLi, jndStops, jndKnobs, jndMaps, jndHeard, jndEnter, jndLaid]
  kernel_rfl
theorem over : Rows.couplerLoopsRow.holds Tryz.pinned (OpenSpec.ofChange Rows.couplerLoopsSpec) :=
  OpenClaim.holds_of_wide 4 Tryz.f4 rfl rfl rfl rfl rfl rfl rfl ⟨rfl, rfl, rfl, rfl, rfl⟩ rfl rfl rfl rfl rfl jFn Tryz.func4 closed
    (of_decide_eq_true (by kernel_rfl)) (by unfold Func.isWrapper; first | (rw [if_pos (by decide +kernel)]; kernel_rfl) | (rw [if_neg (by decide +kernel)]; exact ⟨rfl, rfl⟩))
    (fun os started H enc _ => lifted os started H enc)

theorem proved : Rows.CouplerLoopsSaid :=
  over
end Go.Proofs.YtamogedpgkofjaaGreat.couplerLoops
