/-
  Directed graphs: what a node reaches, plain.
-/
import Derived.Test.YthhhcaleoiopgaaRdA
namespace Go.Proofs.Ythhhcaleoiopgaa
set_option linter.unusedVariables false

inductive Rch (es : List (Nat × Nat)) : Nat → Nat → Prop
  | refl (x : Nat) : Rch es x x
  | step {x y z : Nat} : Rch es x y → (y, z) ∈ es → Rch es x z
theorem Rch.trans {es : List (Nat × Nat)} {x y z : Nat} (h : Rch es x y) (k : Rch es y z) : Rch es x z := by
  induction k with
  | refl => exact h
  | step _ he ih => exact .step ih he
theorem Rch.one {es : List (Nat × Nat)} {x y : Nat} (h : (x, y) ∈ es) : Rch es x y := .step (.refl x) h
theorem Rch.lt {n : Nat} {es : List (Nat × Nat)} (he : EndsD n es) {x y : Nat} (h : Rch es x y) (hx : x < n) : y < n := by
  cases h with
  | refl => exact hx
  | step _ hm => exact (he.mem hm).2

open Classical in
noncomputable def reaB (es : List (Nat × Nat)) (a x : Nat) : Bool := decide (Rch es a x)
theorem reaB_iff {es : List (Nat × Nat)} {a x : Nat} : reaB es a x = true ↔ Rch es a x := by
  unfold reaB
  exact @decide_eq_true_iff _ (Classical.propDecidable _)

def falses (R : List Bool) : Nat := R.countP fun b => !b
theorem falses_set (R : List Bool) (k : Nat) (hx : R[k]? = some false) : falses (R.set k true) + 1 = falses R := by
  induction R generalizing k with
  | nil => cases hx
  | cons a R ih =>
    cases k with
    | zero =>
      simp at hx
      subst hx
      simp [falses]
    | succ k =>
      have := ih k (by simpa using hx)
      unfold falses at this ⊢
      rw [List.set_cons_succ, List.countP_cons, List.countP_cons]
      omega
theorem falses_mono : ∀ (R R' : List Bool), R'.length = R.length → (∀ x : Nat, R[x]? = some true → R'[x]? = some true) → falses R' ≤ falses R
  | [], R', h, _ => by
    have : R' = [] := List.eq_nil_of_length_eq_zero (by simpa using h)
    subst this; exact Nat.le_refl _
  | a :: R, [], h, _ => by simp at h
  | a :: R, b :: R', h, hk => by
    have ih := falses_mono R R' (by simpa using h) (fun x hx => by have := hk (x + 1) (by simpa using hx); simpa using this)
    have h0 := hk 0
    unfold falses at ih ⊢
    rw [List.countP_cons, List.countP_cons]
    cases a
    · cases b <;> simp <;> omega
    · have hb : b = true := by simpa using h0 rfl
      subst hb
      simpa using ih

structure VisRel (es : List (Nat × Nat)) (i : Nat) (R R' : List Bool) : Prop where
  len : R'.length = R.length
  keep : ∀ x : Nat, R[x]? = some true → R'[x]? = some true
  at_ : R'[i]? = some true
  from_ : ∀ x : Nat, R'[x]? = some true → R[x]? ≠ some true → Rch es i x
  shut : ∀ x : Nat, R'[x]? = some true → R[x]? ≠ some true → ∀ y, (x, y) ∈ es → R'[y]? = some true
theorem VisRel.old {es : List (Nat × Nat)} {i : Nat} {R : List Bool} (h : R[i]? = some true) : VisRel es i R R :=
  ⟨rfl, fun _ h => h, h, fun x h1 h2 => absurd h1 h2, fun x h1 h2 => absurd h1 h2⟩
structure MidRel (es : List (Nat × Nat)) (l : List Nat) (i : Nat) (R : List Bool) (t : Nat) (S : List Bool) : Prop where
  len : S.length = R.length
  keep : ∀ x : Nat, R[x]? = some true → S[x]? = some true
  at_ : S[i]? = some true
  from_ : ∀ x : Nat, S[x]? = some true → R[x]? ≠ some true → Rch es i x
  shut : ∀ x : Nat, S[x]? = some true → R[x]? ≠ some true → x ≠ i → ∀ y, (x, y) ∈ es → S[y]? = some true
  first : ∀ (j k : Nat), j < t → l[j]? = some k → S[k]? = some true
theorem MidRel.start {es : List (Nat × Nat)} {l : List Nat} {i : Nat} {R : List Bool} (h : R[i]? = some false) : MidRel es l i R 0 (R.set i true) := by
  have hi := (List.getElem?_eq_some_iff.1 h).1
  refine ⟨by simp, fun x hx => ?_, by rw [List.getElem?_set_self hi], fun x hx hno => ?_, fun x hx hno hne => ?_, fun j k hj => by omega⟩
  · rw [List.getElem?_set_ne (fun e => by subst e; rw [h] at hx; cases hx)]; exact hx
  · by_cases e : i = x
    · subst e; exact .refl _
    · rw [List.getElem?_set_ne e] at hx; exact absurd hx hno
  · rw [List.getElem?_set_ne (fun e => hne e.symm)] at hx; exact absurd hx hno
theorem MidRel.next {es : List (Nat × Nat)} {l : List Nat} {i k t : Nat} {R S S' : List Bool} (h : MidRel es l i R t S) (hk : l[t]? = some k) (he : (i, k) ∈ es) (v : VisRel es k S S') : MidRel es l i R (t + 1) S' := by
  refine ⟨v.len.trans h.len, fun x hx => v.keep x (h.keep x hx), v.keep i h.at_, fun x hx hno => ?_, fun x hx hno hne y hy => ?_, fun j q hj hq => ?_⟩
  · by_cases hs : S[x]? = some true
    · exact h.from_ x hs hno
    · exact (Rch.one he).trans (v.from_ x hx hs)
  · by_cases hs : S[x]? = some true
    · exact v.keep y (h.shut x hs hno hne y hy)
    · exact v.shut x hx hs y hy
  · by_cases e : j = t
    · subst e
      rw [hk] at hq
      cases hq
      exact v.at_
    · exact v.keep q (h.first j q (by omega) hq)
theorem MidRel.done {es : List (Nat × Nat)} {l : List Nat} {i t : Nat} {R S : List Bool} (h : MidRel es l i R t S) (ht : l.length ≤ t) (hl : ∀ y, (i, y) ∈ es → y ∈ l) : VisRel es i R S := by
  refine ⟨h.len, h.keep, h.at_, h.from_, fun x hx hno y hy => ?_⟩
  by_cases e : x = i
  · subst e
    obtain ⟨j, hj⟩ := List.mem_iff_getElem?.1 (hl y hy)
    exact h.first j y (by have := (List.getElem?_eq_some_iff.1 hj).1; omega) hj
  · exact h.shut x hx hno e y hy
theorem VisRel.all {es : List (Nat × Nat)} {n i : Nat} {R : List Bool} (h : VisRel es i (List.replicate n false) R) : R = fl n (reaB es i) := by
  have hno : ∀ x : Nat, (List.replicate n false)[x]? ≠ some true := fun x hx => by
    rw [List.getElem?_replicate] at hx
    split at hx <;> simp at hx
  have hl : R.length = n := by rw [h.len]; simp
  refine List.ext_getElem? fun x => ?_
  by_cases hx : x < n
  · rw [fl_get _ hx]
    obtain ⟨b, hb⟩ : ∃ b, R[x]? = some b := ⟨_, List.getElem?_eq_getElem (by omega)⟩
    rw [hb]
    congr 1
    cases b
    · cases hr : reaB es i x
      · rfl
      · have hr := reaB_iff.1 hr
        have key : ∀ y, Rch es i y → R[y]? = some true := fun y hy => by
          induction hy with
          | refl => exact h.at_
          | step _ he ih => exact h.shut _ ih (hno _) _ he
        rw [key x hr] at hb
        cases hb
    · exact (reaB_iff.2 (h.from_ x hb (hno x))).symm
  · rw [fl_out _ hx, List.getElem?_eq_none (by omega)]
end Go.Proofs.Ythhhcaleoiopgaa
