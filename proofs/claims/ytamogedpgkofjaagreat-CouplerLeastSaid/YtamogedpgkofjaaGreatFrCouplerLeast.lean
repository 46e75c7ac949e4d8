/-
  'stirruplaw40.CouplerLeast': for every input the call returns true, and each argument reads afterwards as it read before.
-/
import Derived.Test.YtamogedpgkofjaaGreatRows
import Derived.Test.YtamogedpgkofjaaGreatCle
import Derived.Test.YtamogedpgkofjaaGreatLaw
import Derived.Test.YtamogedpgkofjaaGreatJnd
import Derived.Test.YtamogedpgkofjaaGreatOpB
namespace Go.Proofs.YtamogedpgkofjaaGreat.couplerLeast
open Go.ChangeShapes Go.WideShapes Go.ChangeAt Go.RowKit
set_option linter.unusedVariables false


theorem own : ownKnob Tryz.prog.godebug = none := by kernel_rfl

set_option maxRecDepth 100000 in
theorem lifted (os : Os) (started : os.Started) (H : Type) (enc : TypeId × Value → H) :
    ReturnsInHanded {} Tryz.checked os 7 .any (Rows.couplerLeastSpec.pre6 enc Tryz.prog Tryz.f7 Rows.couplerLeastRow.domain false) (Rows.couplerLeastSpec.post enc Tryz.prog Tryz.f7 false true false false) := by
  refine returnsInHanded_of_change_sized (C := Tryz.checked) own started (by kernel_rfl) Tryz.func7
    (ChangeSpec.witness6 (enc := enc) (C := Tryz.checked) false ⟨#[], #[.slice none 0 0, .slice none 0 0, .slice none 0 0, .slice none 0 0, .int .u8 0], []⟩ 8 (by kernel_rfl) (by kernel_rfl) (by kernel_rfl) (by kernel_rfl)) ?_
  intro W base args ds gs before hval0 hW hcnd hsz0 _
  have hval : ∀ (j : Nat) t v, Tryz.f7.params[j]? = some t → args[j]? = some v → Value.okWide Tryz.prog W .any base t v := hval0
  have hsz : (DataW.weightsEach Tryz.prog (Tryz.f7.params.toList ++ Rows.couplerLeastSpec.plain.varTypes Tryz.prog) (ds ++ gs)).all (· ≤ reachBytes) = true := hsz0
  have hW' := hW
  obtain ⟨p, q, hA0, hV, rfl, hfz, hnd⟩ := hW
  have hA : DataW.TrodAll enc Tryz.prog W 0 (fun _ => true) true Tryz.f7.params.toList args.toList ds p := hA0
  rw [Tryz.params7] at hA hval hsz
  obtain ⟨v0, vs0, d0, ds0, p0, q0, hargs, rfl, rfl, h0, r0⟩ := trodAll_cons hA
  obtain ⟨v1, vs1, d1, ds1, p1, q1, rfl, rfl, rfl, h1, r1⟩ := trodAll_cons r0
  obtain ⟨v2, vs2, d2, ds2, p2, q2, rfl, rfl, rfl, h2, r2⟩ := trodAll_cons r1
  obtain ⟨v3, vs3, d3, ds3, p3, q3, rfl, rfl, rfl, h3, r3⟩ := trodAll_cons r2
  obtain ⟨v4, vs4, d4, ds4, p4, q4, rfl, rfl, rfl, h4, r4⟩ := trodAll_cons r3
  obtain ⟨rfl, rfl, rfl⟩ := trodAll_nil r4
  obtain rfl : args = #[v0, v1, v2, v3, v4] := by cases args; simp_all
  obtain ⟨rfl, rfl⟩ := trodVars_none hV
  obtain ⟨l0, s0, el0, f0⟩ := open_bars (okWide_slice Tryz.underlying22 (hval 0 22 v0 rfl rfl)) h0 hsz (j := 0) rfl rfl
  have b0 := el0.le hsz 0 22 104 64 rfl rfl Tryz.underlying22 (by kernel_rfl) (by omega)
  obtain ⟨l1, s1, el1, f1⟩ := open_runs (okWide_slice Tryz.underlying23 (hval 1 23 v1 rfl rfl)) h1
  have b1 := el1.le hsz 1 23 90 88 rfl rfl Tryz.underlying23 (by kernel_rfl) (by omega)
  obtain ⟨l2, s2, el2, w2⟩ := open_sl Tryz.underlying24 Tryz.underlying3 (by kernel_rfl) (okWide_slice Tryz.underlying24 (hval 2 24 v2 rfl rfl)) h2
  have b2 := el2.le hsz 2 24 3 8 rfl rfl Tryz.underlying24 (by kernel_rfl) (by omega)
  obtain ⟨l3, s3, el3, w3⟩ := open_sl Tryz.underlying24 Tryz.underlying3 (by kernel_rfl) (okWide_slice Tryz.underlying24 (hval 3 24 v3 rfl rfl)) h3
  have b3 := el3.le hsz 3 24 3 8 rfl rfl Tryz.underlying24 (by kernel_rfl) (by omega)
  obtain ⟨a4, rfl, rfl, rfl, w4⟩ := open_int Tryz.underlying5 (hval 4 5 v4 rfl rfl) h4
  clear hA0 hval0 hsz0

  refine (couplerLeast_walk W v0 l0 s0 f0 b0 v1 l1 s1 f1 b1 v2 l2 s2 b2 w2 v3 l3 s3 b3 w3 a4 w4).mono fun e W' ⟨he, hg⟩ => ?_
  subst he
  exact ⟨_, rfl, law_done jndLaid hW' rfl rfl (by kernel_rfl) rfl Tryz.underlying4 hg⟩

theorem jWf : Rows.couplerLeastRow.wf (OpenSpec.ofChange Rows.couplerLeastSpec) = true := by kernel_rfl
theorem jIn : (Rows.couplerLeastRow.inPlace == Tryz.prog.inPlace 7) = true := by kernel_rfl
theorem jUn : (Rows.couplerLeastRow.unfollowed == Tryz.prog.unfollowed 7) = true := by kernel_rfl
theorem jRe : (Rows.couplerLeastRow.recurses == Tryz.prog.recurses 7) = true := by kernel_rfl
theorem jNa : (Rows.couplerLeastRow.named == Tryz.prog.varsNamed 7) = true := by kernel_rfl
theorem jPk : (Rows.couplerLeastRow.plainKeys == Tryz.prog.plainKeys) = true := by kernel_rfl
theorem jLi : (Rows.couplerLeastRow.lifted == Tryz.prog.liftsFinal) = true := by kernel_rfl
theorem jFn : Tryz.prog.funcNamed Rows.couplerLeastRow.func = some 7 := by kernel_rfl
set_option maxRecDepth 100000 in
theorem closed : joinedFacts Tryz.prog 7 Tryz.f7 Rows.couplerLeastSpec Rows.couplerLeastRow = true := by
  unfold joinedFacts
  rw [jWf, jIn, jUn, jRe, jNa, jPk, jLi, jndStops, jndKnobs, jndMaps, jndHeard, jndEnter, jndLaid]
  kernel_rfl
theorem over : Rows.couplerLeastRow.holds Tryz.pinned (OpenSpec.ofChange Rows.couplerLeastSpec) :=
  OpenClaim.holds_of_wide 7 Tryz.f7 rfl rfl rfl rfl rfl rfl rfl ⟨rfl, rfl, rfl, rfl, rfl⟩ rfl rfl rfl rfl rfl jFn Tryz.func7 closed
    (of_decide_eq_true (by kernel_rfl)) (by unfold Func.isWrapper; first | (rw [if_pos (by decide +kernel)]; kernel_rfl) | (rw [if_neg (by decide +kernel)]; exact ⟨rfl, rfl⟩))
    (fun os started H enc _ => lifted os started H enc)

theorem proved : Rows.CouplerLeastSaid :=
  over
end Go.Proofs.YtamogedpgkofjaaGreat.couplerLeast
