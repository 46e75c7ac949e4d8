/-
  Directed graphs, plain: validity, the order.
-/
import Derived.Test.YthhhcaleoiopgaaNp
namespace Go.Proofs.Ythhhcaleoiopgaa
set_option linter.unusedVariables false

/-- All ends are nodes. -/
def EndsD (n : Nat) (es : List (Nat × Nat)) : Prop := ∀ (k : Nat) e, es[k]? = some e → e.1 < n ∧ e.2 < n
theorem EndsD.mem {n : Nat} {es : List (Nat × Nat)} (h : EndsD n es) {e : Nat × Nat} (he : e ∈ es) : e.1 < n ∧ e.2 < n := by
  obtain ⟨k, hk, rfl⟩ := List.getElem_of_mem he
  exact h k _ (List.getElem?_eq_getElem hk)

/-! ### the order -/
/-- A node that is not done, and to which only done nodes lead. -/
def avail (es : List (Nat × Nat)) (D : List Nat) (i : Nat) : Bool := decide (i ∉ D) && es.all fun e => decide (e.2 = i → e.1 ∈ D)
theorem avail_iff {es : List (Nat × Nat)} {D : List Nat} {i : Nat} : avail es D i = true ↔ i ∉ D ∧ ∀ e ∈ es, e.2 = i → e.1 ∈ D := by
  unfold avail
  simp only [Bool.and_eq_true, decide_eq_true_eq, List.all_eq_true]
def nextFree (n : Nat) (es : List (Nat × Nat)) (D : List Nat) : Option Nat := (List.range n).find? (avail es D)
def ordTo (n : Nat) (es : List (Nat × Nat)) : Nat → Option (List Nat)
  | 0 => some []
  | k + 1 => match ordTo n es k with
    | none => none
    | some D => match nextFree n es D with
      | none => none
      | some i => some (D ++ [i])
def orderOf (n : Nat) (es : List (Nat × Nat)) : Option (List Nat) := ordTo n es n

theorem nextFree_some {n : Nat} {es : List (Nat × Nat)} {D : List Nat} {i : Nat} (h : nextFree n es D = some i) : i < n ∧ avail es D i = true ∧ ∀ j, j < i → avail es D j = false := by
  unfold nextFree at h
  rw [List.find?_eq_some_iff_append] at h
  obtain ⟨h1, l1, l2, h2, h3⟩ := h
  have hlen : l1.length < n := by
    have := congrArg List.length h2
    simp at this; omega
  have hget : (List.range n)[l1.length]? = some i := by rw [h2]; simp
  have hi : i = l1.length := by
    rw [List.getElem?_range hlen] at hget
    injection hget with hget; exact hget.symm
  refine ⟨by omega, h1, fun j hj => ?_⟩
  have hj1 : j ∈ l1 := by
    have : (List.range n)[j]? = some j := List.getElem?_range (by omega)
    rw [h2, List.getElem?_append_left (by omega)] at this
    exact List.mem_of_getElem? this
  simpa using h3 j hj1
theorem nextFree_none {n : Nat} {es : List (Nat × Nat)} {D : List Nat} (h : nextFree n es D = none) : ∀ i, i < n → avail es D i = false := by
  intro i hi
  unfold nextFree at h
  rw [List.find?_eq_none] at h
  simpa using h i (List.mem_range.2 hi)
theorem nextFree_eq {n : Nat} {es : List (Nat × Nat)} {D : List Nat} {i : Nat} (hi : i < n) (h : avail es D i = true) (hno : ∀ j, j < i → avail es D j = false) : nextFree n es D = some i := by
  cases hf : nextFree n es D with
  | none => rw [nextFree_none hf i hi] at h; cases h
  | some k =>
    obtain ⟨h1, h2, h3⟩ := nextFree_some hf
    rcases Nat.lt_trichotomy k i with hc | hc | hc
    · rw [hno k hc] at h2; cases h2
    · rw [hc]
    · rw [h3 i hc] at h; cases h
theorem nextFree_no {n : Nat} {es : List (Nat × Nat)} {D : List Nat} (hno : ∀ j, j < n → avail es D j = false) : nextFree n es D = none := by
  cases hf : nextFree n es D with
  | none => rfl
  | some k =>
    obtain ⟨h1, h2, _⟩ := nextFree_some hf
    rw [hno k h1] at h2; cases h2

theorem ordTo_none {n : Nat} {es : List (Nat × Nat)} {k : Nat} (h : ordTo n es k = none) : ∀ m, k ≤ m → ordTo n es m = none := by
  intro m hm
  induction m with
  | zero => have : k = 0 := by omega
            subst this; exact h
  | succ m ih =>
    by_cases e : k = m + 1
    · subst e; exact h
    · rw [ordTo, ih (by omega)]

/-- What is known of the nodes that are done. -/
structure Ordd (n : Nat) (es : List (Nat × Nat)) (D : List Nat) : Prop where
  nodup : D.Nodup
  lt : ∀ i ∈ D, i < n
  pre : ∀ e ∈ es, e.2 ∈ D → e.1 ∈ D ∧ D.idxOf e.1 < D.idxOf e.2
theorem ordTo_ok {n : Nat} {es : List (Nat × Nat)} : ∀ (k : Nat) D, ordTo n es k = some D → D.length = k ∧ Ordd n es D := by
  intro k
  induction k with
  | zero =>
    intro D h
    cases h
    exact ⟨rfl, by simp, by simp, by simp⟩
  | succ k ih =>
    intro D h
    rw [ordTo] at h
    cases h1 : ordTo n es k with
    | none => rw [h1] at h; cases h
    | some D0 =>
      rw [h1] at h
      simp only at h
      cases h2 : nextFree n es D0 with
      | none => rw [h2] at h; cases h
      | some i =>
        rw [h2] at h
        cases h
        obtain ⟨l1, l2⟩ := ih D0 h1
        obtain ⟨f1, f2, _⟩ := nextFree_some h2
        obtain ⟨a1, a2⟩ := avail_iff.1 f2
        refine ⟨by simp [l1], ?_, fun j hj => ?_, fun e he hm => ?_⟩
        · rw [List.nodup_append]
          exact ⟨l2.nodup, by simp, fun x hx y hy e => by rw [List.mem_singleton.1 hy] at e; subst e; exact a1 hx⟩
        · rcases List.mem_append.1 hj with hj | hj
          · exact l2.lt j hj
          · rw [List.mem_singleton.1 hj]; exact f1
        · by_cases hd : e.2 ∈ D0
          · obtain ⟨p1, p2⟩ := l2.pre e he hd
            refine ⟨List.mem_append.2 (.inl p1), ?_⟩
            rw [List.idxOf_append, List.idxOf_append, if_pos p1, if_pos hd]; exact p2
          · have hi : e.2 = i := by
              rcases List.mem_append.1 hm with h | h
              · exact absurd h hd
              · exact List.mem_singleton.1 h
            have p1 := a2 e he hi
            refine ⟨List.mem_append.2 (.inl p1), ?_⟩
            rw [List.idxOf_append, List.idxOf_append, if_pos p1, if_neg hd]
            have := List.idxOf_lt_length_of_mem p1
            omega

/-- How many edges lead to a node from nodes that are not done. -/
def waitN (es : List (Nat × Nat)) (D : List Nat) (i : Nat) : Nat := es.countP fun e => decide (e.2 = i) && decide (e.1 ∉ D)
def waitI (es : List (Nat × Nat)) (D : List Nat) (i : Nat) : Int := if i ∈ D then -1 else (waitN es D i : Int)
theorem waitI_zero {es : List (Nat × Nat)} {D : List Nat} {i : Nat} : waitI es D i = 0 ↔ avail es D i = true := by
  rw [avail_iff]
  unfold waitI waitN
  by_cases h : i ∈ D
  · rw [if_pos h]
    constructor
    · intro h2; omega
    · intro h2; exact absurd h h2.1
  · rw [if_neg h]
    have h0 : ((es.countP fun e => decide (e.2 = i) && decide (e.1 ∉ D) : Nat) : Int) = 0 ↔ es.countP (fun e => decide (e.2 = i) && decide (e.1 ∉ D)) = 0 := by omega
    rw [h0, List.countP_eq_zero]
    constructor
    · intro h2
      refine ⟨h, fun e he hi => ?_⟩
      have := h2 e he
      simp only [Bool.and_eq_true, decide_eq_true_eq, not_and, Classical.not_not] at this
      exact this hi
    · intro h2 e he
      simp only [Bool.and_eq_true, decide_eq_true_eq, not_and, Classical.not_not]
      exact h2.2 e he
theorem waitN_le (es : List (Nat × Nat)) (D : List Nat) (i : Nat) : waitN es D i ≤ es.length := List.countP_le_length
/-- The nodes to which edges lead from a node, as often as they do. -/
def nextsM (es : List (Nat × Nat)) (i : Nat) : List Nat := (es.filter fun e => e.1 == i).map (·.2)
theorem nextsM_count (e : Nat × Nat) (es : List (Nat × Nat)) (i j : Nat) : (nextsM (e :: es) i).count j = (nextsM es i).count j + (if e.1 = i ∧ e.2 = j then 1 else 0) := by
  unfold nextsM
  rw [List.filter_cons]
  by_cases h1 : e.1 = i
  · rw [if_pos (by simpa using h1), List.map_cons, List.count_cons]
    by_cases h2 : e.2 = j
    · simp [h1, h2]
    · simp [h2]
  · rw [if_neg (by simpa using h1)]
    simp [h1]
theorem waitN_done {es : List (Nat × Nat)} {D : List Nat} {i j : Nat} (hi : i ∉ D) : waitN es D j = waitN es (D ++ [i]) j + (nextsM es i).count j := by
  induction es with
  | nil => rfl
  | cons e es ih =>
    have key : (if (decide (e.2 = j) && decide (e.1 ∉ D)) = true then 1 else 0) = (if (decide (e.2 = j) && decide (e.1 ∉ D ++ [i])) = true then 1 else 0) + (if e.1 = i ∧ e.2 = j then 1 else 0) := by
      by_cases h2 : e.2 = j
      · by_cases h1 : e.1 = i
        · simp [h1, h2, hi]
        · by_cases h3 : e.1 ∈ D <;> simp [h1, h2, h3]
      · simp [h2]
    have h1 : waitN (e :: es) D j = waitN es D j + (if (decide (e.2 = j) && decide (e.1 ∉ D)) = true then 1 else 0) := List.countP_cons
    have h2 : waitN (e :: es) (D ++ [i]) j = waitN es (D ++ [i]) j + (if (decide (e.2 = j) && decide (e.1 ∉ D ++ [i])) = true then 1 else 0) := List.countP_cons
    rw [h1, h2, nextsM_count, ih, key]
    omega
end Go.Proofs.Ythhhcaleoiopgaa
