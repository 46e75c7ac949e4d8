/-
  Within a round of a range over a function: a region that draws its order, by the plain calculus of regions.
-/
import Derived.Test.YthmlejijfgbfbaaGreatSqg
namespace Go.Proofs.YthmlejijfgbfbaaGreat
section
open Go.RowKit Go.Shelf
set_option linter.unusedVariables false
variable {P : Program} {ops : Array Oper} {md : Region.Mode} {Q : Exit → Act → World → Prop} {S : World → Prop} {n r : Nat}

theorem opIn_of {o : Oper} {a : Act} {w : World} {K : Act → World → Prop} (hd : ∀ c, o.op ≠ .defer c) (h : o.wp P a w K Q) : o.wpIn (Fence.wide.inRound r) n P a w K Q := by
  refine ⟨fun _ _ => trivial, ?_⟩
  rw [Oper.semAt_plain _ _ _ hd]
  unfold Oper.wp at h
  revert h
  cases (execOp a.eval o).run P w with
  | halt x w' => cases x <;> exact id
  | ok nx w' =>
    cases nx with
    | value v => exact id
    | skip => exact id
    | defer d => exact id
    | enter f args => exact fun h => ⟨fun h => by simp [Fence.wide] at h, callsIn_wide.2 h⟩
    | row row args => exact fun h => ⟨fun h => by simp [Fence.wide] at h, fun c cs _ => by obtain ⟨v, w', q, t⟩ := h c cs; exact ⟨v, w', q, stepsIn_wide.2 t⟩⟩
    | _ => exact fun h => h.elim
theorem anyIn_of (hQ : ¬ LetsOut Q) (hd : ∀ (i : Nat) (o : Oper), ops[i]? = some o → ∀ c, o.op ≠ .defer c) : ∀ (f : Nat) (listed : Array Bool) (a : Act) (w : World), wpAny P md ops Q f listed a w → wpAnyIn (Fence.wide.inRound r) n P md ops Q f listed a w
  | 0, _, _, _, h => h
  | f + 1, listed, a, w, h => ⟨h.1, fun i hi => by
    have h1 := wpOp_mono (fun a' w' h' => anyIn_of hQ hd f _ a' w' h') (h.2 i hi)
    unfold wpOp at h1
    unfold wpOpIn
    cases ho : ops[i]? with
    | none => rw [ho] at h1; exact h1
    | some o =>
      rw [ho] at h1
      simp only at h1 ⊢
      split
      · rename_i hw; rw [if_pos hw] at h1; exact opIn_of (hd i o ho) (h1.resolve_right fun h => hQ h.2)
      · rename_i hw; rw [if_neg hw] at h1; exact ⟨fun _ _ => trivial, h1⟩⟩
def noDefer (ops : Array Oper) : Bool := (List.range ops.size).all fun i => ((ops[i]?).map fun o => (match o.op with | .defer _ => false | _ => true)).getD true
theorem noDefer_of (h : noDefer ops = true) : ∀ (i : Nat) (o : Oper), ops[i]? = some o → ∀ c, o.op ≠ .defer c := fun i o ho c hc => by
  unfold noDefer at h
  rw [List.all_eq_true] at h
  have := h i (List.mem_range.2 (Array.getElem?_eq_some_iff.1 ho).1)
  rw [ho] at this
  simp only [Option.map_some, Option.getD_some, hc] at this
  cases this
/-- The same, but it does not outgrow. -/
def noOut (Q : Exit → Act → World → Prop) : Exit → Act → World → Prop
  | .outgrown, _, _ => False
  | e, a, w => Q e a w
theorem noOut_lets (Q : Exit → Act → World → Prop) : ¬ LetsOut (noOut Q) := by
  rintro ⟨a, w, h⟩
  exact h
theorem noOut_to : ∀ (e : Exit) (a : Act) (w : World), noOut Q e a w → Q e a w := by
  intro e a w h
  cases e <;> first | exact h | exact h.elim
theorem region_round_H {id : Nat} {a : Act} {w : World} (S : World → Prop) (hm : P.follows .mixedOrders = true) (hd : noDefer ops = true) (hS : S w.drew) (h : S w.drew → wpAnyH P .any ops (noOut Q) S ops.size (Array.replicate ops.size false) a w.drew) :
    (Code.region id ops true).wpIn (Fence.wide.inRound r) n P Q a w :=
  wpIn_mono (wpIn_region_any hm (anyIn_of (noOut_lets Q) (noDefer_of hd) _ _ _ _ (wpAny_of_held _ _ _ _ (h hS)))) noOut_to
/-- A store into one cell. -/
theorem step_store1 {o : Oper} {a : Act} {K : Act → World → Prop} {E : Prop} {W : World} (hgd : o.guard = none) (u : Value) (p : Addr) (hd : o.dst = none) (hx : (execOp a.eval o).run P W = .ok .skip (W.setCell p u)) (hK : K (a.put none undef) (W.setCell p u)) :
    if Region.wanted o (yielded ops a.tmps) = true then Oper.wp P o a W K Q else E := by
  have hw : Region.wanted o (yielded ops a.tmps) = true := by simp [Region.wanted, hgd]
  rw [if_pos hw]
  unfold Oper.wp
  rw [hx, Oper.upon_skip, hd]
  exact hK
end
end Go.Proofs.YthmlejijfgbfbaaGreat
