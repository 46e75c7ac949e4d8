/-
  'stirruplaw38.BlockEdges': for every input the call returns true, and each argument reads afterwards as it read before.
-/
import Derived.Test.YtnlloecbjohfdaaGreatRows
import Derived.Test.YtnlloecbjohfdaaGreatBeL
import Derived.Test.YtnlloecbjohfdaaGreatLaw
import Derived.Test.YtnlloecbjohfdaaGreatOpB
namespace Go.Proofs.YtnlloecbjohfdaaGreat.blockEdges
open Go.ChangeShapes Go.WideShapes Go.ChangeAt Go.RowKit
set_option linter.unusedVariables false

theorem Tryz.laidOut : laidOutB Tryz.prog = true := by kernel_rfl

theorem own : ownKnob Tryz.prog.godebug = none := by kernel_rfl

set_option maxRecDepth 100000 in
theorem lifted (os : Os) (started : os.Started) (H : Type) (enc : TypeId × Value → H) :
    ReturnsInHanded {} Tryz.checked os 6 .any (Rows.blockEdgesSpec.pre6 enc Tryz.prog Tryz.f6 Rows.blockEdgesRow.domain false) (Rows.blockEdgesSpec.post enc Tryz.prog Tryz.f6 false true false false) := by
  refine returnsInHanded_of_change_sized (C := Tryz.checked) own started (by kernel_rfl) Tryz.func6
    (ChangeSpec.witness6 (enc := enc) (C := Tryz.checked) false ⟨#[], #[.slice none 0 0, .slice none 0 0, .slice none 0 0], []⟩ 8 (by kernel_rfl) (by kernel_rfl) (by kernel_rfl) (by kernel_rfl)) ?_
  intro W base args ds gs before hval0 hW hcnd hsz0 _
  have hval : ∀ (j : Nat) t v, Tryz.f6.params[j]? = some t → args[j]? = some v → Value.okWide Tryz.prog W .any base t v := hval0
  have hsz : (DataW.weightsEach Tryz.prog (Tryz.f6.params.toList ++ Rows.blockEdgesSpec.plain.varTypes Tryz.prog) (ds ++ gs)).all (· ≤ reachBytes) = true := hsz0
  have hW' := hW
  obtain ⟨p, q, hA0, hV, rfl, hfz, hnd⟩ := hW
  have hA : DataW.TrodAll enc Tryz.prog W 0 (fun _ => true) true Tryz.f6.params.toList args.toList ds p := hA0
  rw [Tryz.params6] at hA hval hsz
  obtain ⟨v0, vs0, d0, ds0, p0, q0, hargs, rfl, rfl, h0, r0⟩ := trodAll_cons hA
  obtain ⟨v1, vs1, d1, ds1, p1, q1, rfl, rfl, rfl, h1, r1⟩ := trodAll_cons r0
  obtain ⟨v2, vs2, d2, ds2, p2, q2, rfl, rfl, rfl, h2, r2⟩ := trodAll_cons r1
  obtain ⟨rfl, rfl, rfl⟩ := trodAll_nil r2
  obtain rfl : args = #[v0, v1, v2] := by cases args; simp_all
  obtain ⟨rfl, rfl⟩ := trodVars_none hV
  obtain ⟨l0, s0, el0, f0⟩ := open_bars (okWide_slice Tryz.underlying23 (hval 0 23 v0 rfl rfl)) h0 hsz (j := 0) rfl rfl
  have b0 := el0.le hsz 0 23 105 64 rfl rfl Tryz.underlying23 (by kernel_rfl) (by omega)
  obtain ⟨l1, s1, el1, f1⟩ := open_runs (okWide_slice Tryz.underlying24 (hval 1 24 v1 rfl rfl)) h1
  have b1 := el1.le hsz 1 24 123 88 rfl rfl Tryz.underlying24 (by kernel_rfl) (by omega)
  obtain ⟨l2, s2, el2, w2⟩ := open_sl Tryz.underlying43 Tryz.underlying3 (by kernel_rfl) (okWide_slice Tryz.underlying43 (hval 2 43 v2 rfl rfl)) h2
  have b2 := el2.le hsz 2 43 3 8 rfl rfl Tryz.underlying43 (by kernel_rfl) (by omega)
  clear hA0 hval0 hsz0

  refine (blockEdges_walk W v0 l0 s0 f0 b0 v1 l1 s1 f1 b1 v2 l2 s2 b2 w2).mono fun e W' ⟨he, hg⟩ => ?_
  subst he
  exact ⟨_, rfl, law_done Tryz.laidOut hW' rfl rfl (by kernel_rfl) rfl Tryz.underlying4 hg⟩

theorem over : Rows.blockEdgesRow.holds Tryz.pinned (OpenSpec.ofChange Rows.blockEdgesSpec) :=
  OpenClaim.holds_of_wide 6 Tryz.f6 rfl rfl rfl rfl rfl rfl rfl ⟨rfl, rfl, rfl, rfl, rfl⟩ rfl rfl rfl rfl rfl (by kernel_rfl) Tryz.func6 (by kernel_rfl)
    (of_decide_eq_true (by kernel_rfl)) (by unfold Func.isWrapper; first | (rw [if_pos (by decide +kernel)]; kernel_rfl) | (rw [if_neg (by decide +kernel)]; exact ⟨rfl, rfl⟩))
    (fun os started H enc _ => lifted os started H enc)

theorem proved : Rows.BlockEdgesSaid :=
  over
end Go.Proofs.YtnlloecbjohfdaaGreat.blockEdges
