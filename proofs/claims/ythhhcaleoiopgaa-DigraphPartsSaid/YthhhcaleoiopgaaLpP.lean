/-
  Directed graphs: a loop, plain.
-/
import Derived.Test.YthhhcaleoiopgaaFaP
namespace Go.Proofs.Ythhhcaleoiopgaa
set_option linter.unusedVariables false

open Classical in
/-- How far each node is from b (the one function that is). -/
noncomputable def farD (es : List (Nat × Nat)) (b : Nat) : Nat → Int := if h : ∃ d, IsFar es b d then h.choose else fun _ => -1
theorem farD_eq {es : List (Nat × Nat)} {b : Nat} {d : Nat → Int} (h : IsFar es b d) : farD es b = d := by
  unfold farD
  rw [dif_pos ⟨d, h⟩]
  exact IsFar.unique (Exists.choose_spec (⟨d, h⟩ : ∃ d, IsFar es b d)) h

def leastStep (d : Nat → Int) (m : Int) (k : Nat) : Int := if 0 ≤ d k ∧ (m < 0 ∨ d k < m) then d k else m
def leastM (d : Nat → Int) (l : List Nat) : Int := l.foldl (leastStep d) (-1)
def loopWalk (n : Nat) (es : List (Nat × Nat)) (d : Nat → Int) : Nat → Nat → List Nat
  | 0, _ => []
  | f + 1, at_ => match (nextsS n es at_).find? (fun k => d k == ((f + 1 : Nat) : Int)) with
    | some k => k :: loopWalk n es d f k
    | none => []
def loopAt (n : Nat) (es : List (Nat × Nat)) (d : Nat → Int) (s : Nat) : Option (List Nat) :=
  if leastM d (nextsS n es s) < 0 then none else some (s :: loopWalk n es d (leastM d (nextsS n es s)).toNat s)
noncomputable def loopFrom (n : Nat) (es : List (Nat × Nat)) : Nat → Option (List Nat)
  | 0 => none
  | k + 1 => match loopFrom n es k with
    | some l => some l
    | none => loopAt n es (farD es k) k
noncomputable def loopOf (n : Nat) (es : List (Nat × Nat)) : Option (List Nat) := loopFrom n es n
theorem loopFrom_some {n : Nat} {es : List (Nat × Nat)} {k : Nat} {l : List Nat} (h : loopFrom n es k = some l) : ∀ m, k ≤ m → loopFrom n es m = some l := by
  intro m
  induction m with
  | zero => intro hk; have : k = 0 := by omega
            subst this; exact h
  | succ m ih =>
    intro hk
    rcases Nat.lt_or_ge m k with hlt | hge
    · have : k = m + 1 := by omega
      subst this; exact h
    · rw [loopFrom, ih hge]

theorem leastM_snoc (d : Nat → Int) (l : List Nat) (k : Nat) : leastM d (l ++ [k]) = leastStep d (leastM d l) k := by
  unfold leastM
  rw [List.foldl_append]; rfl
/-- The least is -1, or it is reached. -/
theorem leastM_is (d : Nat → Int) : ∀ l : List Nat, leastM d l = -1 ∨ (0 ≤ leastM d l ∧ ∃ k ∈ l, d k = leastM d l) := by
  intro l
  refine snoc_ind (p := fun l => leastM d l = -1 ∨ (0 ≤ leastM d l ∧ ∃ k ∈ l, d k = leastM d l)) (.inl rfl) (fun l k ih => ?_) l
  rw [leastM_snoc]
  unfold leastStep
  split
  · next h => exact .inr ⟨h.1, k, by simp, rfl⟩
  · rcases ih with h | ⟨h1, x, hx, h2⟩
    · exact .inl h
    · exact .inr ⟨h1, x, by simp [hx], h2⟩
theorem loopWalk_step {n : Nat} {es : List (Nat × Nat)} {d : Nat → Int} {f x k : Nat} (hf : (nextsS n es x).find? (fun k => d k == ((f + 1 : Nat) : Int)) = some k) : loopWalk n es d (f + 1) x = k :: loopWalk n es d f k := by
  rw [loopWalk, hf]
theorem find_at {l : List Nat} {p : Nat → Bool} (h : ∃ k ∈ l, p k = true) : ∃ (j k : Nat), l[j]? = some k ∧ p k = true ∧ (∀ (i y : Nat), i < j → l[i]? = some y → p y = false) ∧ l.find? p = some k := by
  cases hf : l.find? p with
  | none =>
    obtain ⟨k, hk, hp⟩ := h
    have := List.find?_eq_none.1 hf k hk
    exact absurd hp this
  | some k =>
    obtain ⟨hp, i, hi, rfl, hno⟩ := List.find?_eq_some_iff_getElem.1 hf
    refine ⟨i, _, List.getElem?_eq_getElem hi, hp, fun i' y hi' hy => ?_, rfl⟩
    have := hno i' hi'
    obtain ⟨h1, rfl⟩ := List.getElem?_eq_some_iff.1 hy
    simpa using this
end Go.Proofs.Ythhhcaleoiopgaa
