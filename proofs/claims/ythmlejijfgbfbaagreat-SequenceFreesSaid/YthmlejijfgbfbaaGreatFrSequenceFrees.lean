/-
  'stirruplaw39.SequenceFrees': for every input the call returns true, and each argument reads afterwards as it read before.
-/
import Derived.Test.YthmlejijfgbfbaaGreatRows
import Derived.Test.YthmlejijfgbfbaaGreatSqs
import Derived.Test.YthmlejijfgbfbaaGreatLaw
import Derived.Test.YthmlejijfgbfbaaGreatJnd
import Derived.Test.YthmlejijfgbfbaaGreatOpB
namespace Go.Proofs.YthmlejijfgbfbaaGreat.sequenceFrees
open Go.ChangeShapes Go.WideShapes Go.ChangeAt Go.RowKit
set_option linter.unusedVariables false


theorem own : ownKnob Tryz.prog.godebug = none := by kernel_rfl

set_option maxRecDepth 100000 in
theorem lifted (os : Os) (started : os.Started) (H : Type) (enc : TypeId × Value → H) :
    ReturnsInHanded {} Tryz.checked os 11 .any (Rows.sequenceFreesSpec.pre6 enc Tryz.prog Tryz.f11 Rows.sequenceFreesRow.domain false) (Rows.sequenceFreesSpec.post enc Tryz.prog Tryz.f11 false true false false) := by
  refine returnsInHanded_of_change_sized (C := Tryz.checked) own started (by kernel_rfl) Tryz.func11
    (ChangeSpec.witness6 (enc := enc) (C := Tryz.checked) false ⟨#[], #[.slice none 0 0, .slice none 0 0], []⟩ 8 (by kernel_rfl) (by kernel_rfl) (by kernel_rfl) (by kernel_rfl)) ?_
  intro W base args ds gs before hval0 hW hcnd hsz0 _
  have hval : ∀ (j : Nat) t v, Tryz.f11.params[j]? = some t → args[j]? = some v → Value.okWide Tryz.prog W .any base t v := hval0
  have hsz : (DataW.weightsEach Tryz.prog (Tryz.f11.params.toList ++ Rows.sequenceFreesSpec.plain.varTypes Tryz.prog) (ds ++ gs)).all (· ≤ reachBytes) = true := hsz0
  have hW' := hW
  obtain ⟨p, q, hA0, hV, rfl, hfz, hnd⟩ := hW
  have hA : DataW.TrodAll enc Tryz.prog W 0 (fun _ => true) true Tryz.f11.params.toList args.toList ds p := hA0
  rw [Tryz.params11] at hA hval hsz
  obtain ⟨v0, vs0, d0, ds0, p0, q0, hargs, rfl, rfl, h0, r0⟩ := trodAll_cons hA
  obtain ⟨v1, vs1, d1, ds1, p1, q1, rfl, rfl, rfl, h1, r1⟩ := trodAll_cons r0
  obtain ⟨rfl, rfl, rfl⟩ := trodAll_nil r1
  obtain rfl : args = #[v0, v1] := by cases args; simp_all
  obtain ⟨rfl, rfl⟩ := trodVars_none hV
  obtain ⟨l0, s0, el0, f0⟩ := open_bars (okWide_slice Tryz.underlying22 (hval 0 22 v0 rfl rfl)) h0 hsz (j := 0) rfl rfl
  have b0 := el0.le hsz 0 22 129 64 rfl rfl Tryz.underlying22 (by kernel_rfl) (by omega)
  obtain ⟨l1, s1, el1, f1⟩ := open_runs (okWide_slice Tryz.underlying23 (hval 1 23 v1 rfl rfl)) h1
  have b1 := el1.le hsz 1 23 114 88 rfl rfl Tryz.underlying23 (by kernel_rfl) (by omega)
  clear hA0 hval0 hsz0

  refine (sequenceFrees_walk W v0 l0 s0 f0 b0 v1 l1 s1 f1 b1).mono fun e W' ⟨he, hg⟩ => ?_
  subst he
  exact ⟨_, rfl, law_done jndLaid hW' rfl rfl (by kernel_rfl) rfl Tryz.underlying4 hg⟩

theorem jWf : Rows.sequenceFreesRow.wf (OpenSpec.ofChange Rows.sequenceFreesSpec) = true := by kernel_rfl
theorem jIn : (Rows.sequenceFreesRow.inPlace == Tryz.prog.inPlace 11) = true := by kernel_rfl
theorem jUn : (Rows.sequenceFreesRow.unfollowed == Tryz.prog.unfollowed 11) = true := by kernel_rfl
theorem jRe : (Rows.sequenceFreesRow.recurses == Tryz.prog.recurses 11) = true := by kernel_rfl
theorem jNa : (Rows.sequenceFreesRow.named == Tryz.prog.varsNamed 11) = true := by kernel_rfl
theorem jPk : (Rows.sequenceFreesRow.plainKeys == Tryz.prog.plainKeys) = true := by kernel_rfl
theorem jLi : (Rows.sequenceFreesRow.lifted == Tryz.prog.liftsFinal) = true := by kernel_rfl
theorem jFn : Tryz.prog.funcNamed Rows.sequenceFreesRow.func = some 11 := by kernel_rfl
set_option maxRecDepth 100000 in
theorem closed : joinedFacts Tryz.prog 11 Tryz.f11 Rows.sequenceFreesSpec Rows.sequenceFreesRow = true := by
  unfold joinedFacts
  rw [jWf, jIn, jUn, jRe, jNa, jPk, jLi, jndStops, jndKnobs, jndMaps, jndHeard, jndEnter, jndLaid]
  kernel_rfl
theorem over : Rows.sequenceFreesRow.holds Tryz.pinned (OpenSpec.ofChange Rows.sequenceFreesSpec) :=
  OpenClaim.holds_of_wide 11 Tryz.f11 rfl rfl rfl rfl rfl rfl rfl ⟨rfl, rfl, rfl, rfl, rfl⟩ rfl rfl rfl rfl rfl jFn Tryz.func11 closed
    (of_decide_eq_true (by kernel_rfl)) (by unfold Func.isWrapper; first | (rw [if_pos (by decide +kernel)]; kernel_rfl) | (rw [if_neg (by decide +kernel)]; exact ⟨rfl, rfl⟩))
    (fun os started H enc _ => lifted os started H enc)

theorem proved : Rows.SequenceFreesSaid :=
  over
end Go.Proofs.YthmlejijfgbfbaaGreat.sequenceFrees
