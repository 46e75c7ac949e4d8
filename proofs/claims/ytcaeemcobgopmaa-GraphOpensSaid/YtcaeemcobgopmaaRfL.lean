/-
  Reference 05, plain: what Labels computes.
-/
import Derived.Test.YtcaeemcobgopmaaBrd
namespace Go.Proofs.Ytcaeemcobgopmaa
set_option linter.unusedVariables false

/-- The first edges, but one. -/
def sel (ns : List (Nat × Nat)) (most : Nat) (but : Int) : List (Nat × Nat) := ((List.range most).filter fun k : Nat => decide ((k : Int) ≠ but)).filterMap fun k => ns[k]?
theorem mem_sel {ns : List (Nat × Nat)} {most : Nat} {but : Int} {e : Nat × Nat} : e ∈ sel ns most but ↔ ∃ k, k < most ∧ (k : Int) ≠ but ∧ ns[k]? = some e := by
  unfold sel
  rw [List.mem_filterMap]
  constructor
  · rintro ⟨k, h1, h2⟩
    rw [List.mem_filter, List.mem_range, decide_eq_true_eq] at h1
    exact ⟨k, h1.1, h1.2, h2⟩
  · rintro ⟨k, h1, h2, h3⟩
    exact ⟨k, by rw [List.mem_filter, List.mem_range, decide_eq_true_eq]; exact ⟨h1, h2⟩, h3⟩
theorem lbl_mem {es es' : List (Nat × Nat)} (h : ∀ e, e ∈ es ↔ e ∈ es') : lbl es = lbl es' :=
  lbl_ext (fun e he => lbl_edge _ _ ((h e).1 he)) (fun e he => lbl_edge _ _ ((h e).2 he))
theorem lbl_sel_take (ns : List (Nat × Nat)) (k : Nat) : lbl (sel ns k (-1)) = lbl (ns.take k) := by
  refine lbl_mem fun e => ?_
  rw [mem_sel]
  constructor
  · rintro ⟨j, h1, h2, h3⟩
    exact List.mem_of_getElem? (i := j) (by rw [List.getElem?_take_of_lt h1]; exact h3)
  · intro h
    obtain ⟨j, hj, rfl⟩ := List.getElem_of_mem h
    have hj' : j < k ∧ j < ns.length := by simp at hj; omega
    exact ⟨j, hj'.1, by omega, by rw [List.getElem_take, List.getElem?_eq_getElem hj'.2]⟩
theorem lbl_sel_without (ns : List (Nat × Nat)) (j : Nat) : lbl (sel ns ns.length j) = lbl (without ns j) := by
  refine lbl_mem fun e => ?_
  rw [mem_sel]
  constructor
  · rintro ⟨k, h1, h2, h3⟩
    exact mem_without h3 (by omega)
  · intro h
    obtain ⟨k, h1, h2⟩ := of_mem_without h
    exact ⟨k, (List.getElem?_eq_some_iff.1 h2).1, by omega, h2⟩

def labelsOf (n : Nat) (es : List (Nat × Nat)) : List Nat := (List.range n).map (lbl es)

theorem sum_set (l : List Nat) (k x y : Nat) (h : l[k]? = some y) : (l.set k x).sum + y = l.sum + x := by
  induction l generalizing k with
  | nil => cases h
  | cons a l ih =>
    cases k with
    | zero =>
      simp only [List.getElem?_cons_zero, Option.some.injEq] at h
      subst h
      simp only [List.set_cons_zero, List.sum_cons]; omega
    | succ k =>
      simp only [List.getElem?_cons_succ] at h
      have := ih k h
      simp only [List.set_cons_succ, List.sum_cons]; omega

/-- A list that leads to no greater node of the same part. -/
structure Lab (n : Nat) (f : Nat → Nat) (L : List Nat) : Prop where
  len : L.length = n
  le : ∀ (i x : Nat), L[i]? = some x → x ≤ i ∧ f x = f i
theorem Lab.start (n : Nat) (f : Nat → Nat) : Lab n f (List.range n) := by
  refine ⟨by simp, fun i x h => ?_⟩
  have : x = i := by
    have h1 := (List.getElem?_eq_some_iff.1 h).2
    simpa using h1.symm
  subst this
  exact ⟨Nat.le_refl _, rfl⟩
theorem Lab.set {n : Nat} {f : Nat → Nat} {L : List Nat} (h : Lab n f L) {a b x y : Nat} (hx : L[a]? = some x) (hy : L[b]? = some y) (hlt : x < y) (hab : f a = f b) : Lab n f (L.set b x) ∧ (L.set b x).sum < L.sum := by
  have hb : b < L.length := (List.getElem?_eq_some_iff.1 hy).1
  refine ⟨⟨by rw [List.length_set]; exact h.len, fun i z hz => ?_⟩, ?_⟩
  · by_cases e : b = i
    · subst e
      rw [List.getElem?_set_self hb] at hz
      cases hz
      have h1 := h.le a x hx
      have h2 := h.le b y hy
      exact ⟨by omega, h1.2.trans hab⟩
    · rw [List.getElem?_set_ne e] at hz
      exact h.le i z hz
  · have := sum_set L b x y hy
    omega
theorem Lab.done {n : Nat} {es : List (Nat × Nat)} {L : List Nat} (h : Lab n (lbl es) L) (he : ∀ e ∈ es, ∃ x, L[e.1]? = some x ∧ L[e.2]? = some x) : L = labelsOf n es := by
  have hg := lbl_const' es (fun i => L.getD i 0) (fun e hm => by
    obtain ⟨x, h1, h2⟩ := he e hm
    simp [List.getD, h1, h2])
  refine List.ext_getElem (by rw [h.len]; simp [labelsOf]) fun i h1 h2 => ?_
  have hi : i < n := by rw [← h.len]; exact h1
  have e1 : (labelsOf n es)[i] = lbl es i := by simp [labelsOf]
  rw [e1]
  have h3 := h.le i L[i] (List.getElem?_eq_getElem h1)
  have hr : lbl es i < L.length := by rw [h.len]; exact lbl_lt es hi
  have h4 := h.le (lbl es i) L[lbl es i] (List.getElem?_eq_getElem hr)
  have h5 := hg i
  simp only [List.getD, List.getElem?_eq_getElem hr, List.getElem?_eq_getElem h1, Option.getD_some] at h5
  have h6 := lbl_le es L[i]
  omega
theorem sum_range_le (n : Nat) : (List.range n).sum ≤ n * n := by
  induction n with
  | zero => simp
  | succ n ih =>
    rw [List.range_succ, List.sum_append]
    have : (n + 1) * (n + 1) = n * n + n + n + 1 := by rw [Nat.succ_mul, Nat.mul_succ]; omega
    simp only [List.sum_cons, List.sum_nil]
    omega
end Go.Proofs.Ytcaeemcobgopmaa
