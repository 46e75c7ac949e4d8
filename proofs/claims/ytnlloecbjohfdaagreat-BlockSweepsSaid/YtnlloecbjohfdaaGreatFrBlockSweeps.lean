/-
  'stirruplaw38.BlockSweeps': for every input the call returns true, and each argument reads afterwards as it read before.
-/
import Derived.Test.YtnlloecbjohfdaaGreatRows
import Derived.Test.YtnlloecbjohfdaaGreatBwL
import Derived.Test.YtnlloecbjohfdaaGreatLaw
import Derived.Test.YtnlloecbjohfdaaGreatOpx
namespace Go.Proofs.YtnlloecbjohfdaaGreat.blockSweeps
open Go.ChangeShapes Go.WideShapes Go.ChangeAt Go.RowKit
set_option linter.unusedVariables false

theorem Tryz.laidOut : laidOutB Tryz.prog = true := by kernel_rfl

theorem own : ownKnob Tryz.prog.godebug = none := by kernel_rfl

set_option maxRecDepth 100000 in
theorem lifted (os : Os) (started : os.Started) (H : Type) (enc : TypeId × Value → H) :
    ReturnsInHanded {} Tryz.checked os 3 .any (Rows.blockSweepsSpec.pre6 enc Tryz.prog Tryz.f3 Rows.blockSweepsRow.domain false) (Rows.blockSweepsSpec.post enc Tryz.prog Tryz.f3 false true false false) := by
  refine returnsInHanded_of_change_sized (C := Tryz.checked) own started (by kernel_rfl) Tryz.func3
    (ChangeSpec.witness6 (enc := enc) (C := Tryz.checked) false ⟨#[], #[.slice none 0 0, .slice none 0 0, .slice none 0 0, .int .i64 0, .int .i64 0, .int .i64 0], []⟩ 8 (by kernel_rfl) (by kernel_rfl) (by kernel_rfl) (by kernel_rfl)) ?_
  intro W base args ds gs before hval0 hW hcnd hsz0 _
  have hval : ∀ (j : Nat) t v, Tryz.f3.params[j]? = some t → args[j]? = some v → Value.okWide Tryz.prog W .any base t v := hval0
  have hsz : (DataW.weightsEach Tryz.prog (Tryz.f3.params.toList ++ Rows.blockSweepsSpec.plain.varTypes Tryz.prog) (ds ++ gs)).all (· ≤ reachBytes) = true := hsz0
  have hW' := hW
  obtain ⟨p, q, hA0, hV, rfl, hfz, hnd⟩ := hW
  have hA : DataW.TrodAll enc Tryz.prog W 0 (fun _ => true) true Tryz.f3.params.toList args.toList ds p := hA0
  rw [Tryz.params3] at hA hval hsz
  obtain ⟨v0, vs0, d0, ds0, p0, q0, hargs, rfl, rfl, h0, r0⟩ := trodAll_cons hA
  obtain ⟨v1, vs1, d1, ds1, p1, q1, rfl, rfl, rfl, h1, r1⟩ := trodAll_cons r0
  obtain ⟨v2, vs2, d2, ds2, p2, q2, rfl, rfl, rfl, h2, r2⟩ := trodAll_cons r1
  obtain ⟨v3, vs3, d3, ds3, p3, q3, rfl, rfl, rfl, h3, r3⟩ := trodAll_cons r2
  obtain ⟨v4, vs4, d4, ds4, p4, q4, rfl, rfl, rfl, h4, r4⟩ := trodAll_cons r3
  obtain ⟨v5, vs5, d5, ds5, p5, q5, rfl, rfl, rfl, h5, r5⟩ := trodAll_cons r4
  obtain ⟨rfl, rfl, rfl⟩ := trodAll_nil r5
  obtain rfl : args = #[v0, v1, v2, v3, v4, v5] := by cases args; simp_all
  obtain ⟨rfl, rfl⟩ := trodVars_none hV
  obtain ⟨l0, s0, el0⟩ := open_boxes (okWide_slice Tryz.underlying22 (hval 0 22 v0 rfl rfl)) h0
  have b0 := el0.le hsz 0 22 36 48 rfl rfl Tryz.underlying22 (by kernel_rfl) (by omega)
  obtain ⟨l1, s1, el1, f1⟩ := open_bars (okWide_slice Tryz.underlying23 (hval 1 23 v1 rfl rfl)) h1 hsz (j := 1) rfl rfl
  have b1 := el1.le hsz 1 23 105 64 rfl rfl Tryz.underlying23 (by kernel_rfl) (by omega)
  obtain ⟨l2, s2, el2, f2⟩ := open_runs (okWide_slice Tryz.underlying24 (hval 2 24 v2 rfl rfl)) h2
  have b2 := el2.le hsz 2 24 123 88 rfl rfl Tryz.underlying24 (by kernel_rfl) (by omega)
  obtain ⟨a3, rfl, rfl, rfl, w3⟩ := open_int Tryz.underlying3 (hval 3 3 v3 rfl rfl) h3
  obtain ⟨a4, rfl, rfl, rfl, w4⟩ := open_int Tryz.underlying3 (hval 4 3 v4 rfl rfl) h4
  obtain ⟨a5, rfl, rfl, rfl, w5⟩ := open_int Tryz.underlying3 (hval 5 3 v5 rfl rfl) h5
  clear hA0 hval0 hsz0

  refine (blockSweeps_walk W v0 l0 s0 b0 v1 l1 s1 f1 b1 v2 l2 s2 f2 b2 a3 w3 a4 w4 a5 w5).mono fun e W' ⟨he, hg⟩ => ?_
  subst he
  exact ⟨_, rfl, law_done Tryz.laidOut hW' rfl rfl (by kernel_rfl) rfl Tryz.underlying4 hg⟩

theorem over : Rows.blockSweepsRow.holds Tryz.pinned (OpenSpec.ofChange Rows.blockSweepsSpec) :=
  OpenClaim.holds_of_wide 3 Tryz.f3 rfl rfl rfl rfl rfl rfl rfl ⟨rfl, rfl, rfl, rfl, rfl⟩ rfl rfl rfl rfl rfl (by kernel_rfl) Tryz.func3 (by kernel_rfl)
    (of_decide_eq_true (by kernel_rfl)) (by unfold Func.isWrapper; first | (rw [if_pos (by decide +kernel)]; kernel_rfl) | (rw [if_neg (by decide +kernel)]; exact ⟨rfl, rfl⟩))
    (fun os started H enc _ => lifted os started H enc)

theorem proved : Rows.BlockSweepsSaid :=
  over
end Go.Proofs.YtnlloecbjohfdaaGreat.blockSweeps
