/-
  Directed graphs: Parts, plain and walked.
-/
import Derived.Test.YthhhcaleoiopgaaRcB
import Derived.Test.YthhhcaleoiopgaaApp
namespace Go.Proofs.Ythhhcaleoiopgaa
open Go.RowKit
set_option linter.unusedVariables false
attribute [local go_sem ↓] Go.wp_at_zero Go.wp_at_succ

/-! ### plain -/
noncomputable def mutl (es : List (Nat × Nat)) (i k : Nat) : Bool := reaB es i k && reaB es k i
theorem mutl_iff {es : List (Nat × Nat)} {i k : Nat} : mutl es i k = true ↔ Rch es i k ∧ Rch es k i := by
  unfold mutl
  rw [Bool.and_eq_true, reaB_iff, reaB_iff]
theorem mutl_refl (es : List (Nat × Nat)) (i : Nat) : mutl es i i = true := mutl_iff.2 ⟨.refl i, .refl i⟩
theorem mutl_symm {es : List (Nat × Nat)} {i k : Nat} (h : mutl es i k = true) : mutl es k i = true := mutl_iff.2 (mutl_iff.1 h).symm
theorem mutl_trans {es : List (Nat × Nat)} {i k j : Nat} (h : mutl es i k = true) (h2 : mutl es k j = true) : mutl es i j = true :=
  mutl_iff.2 ⟨(mutl_iff.1 h).1.trans (mutl_iff.1 h2).1, (mutl_iff.1 h2).2.trans (mutl_iff.1 h).2⟩
noncomputable def anyB (es : List (Nat × Nat)) (t k : Nat) : Bool := (List.range t).any fun j => mutl es j k
theorem anyB_iff {es : List (Nat × Nat)} {t k : Nat} : anyB es t k = true ↔ ∃ j, j < t ∧ mutl es j k = true := by
  unfold anyB
  rw [List.any_eq_true]
  constructor
  · rintro ⟨j, hj, h⟩; exact ⟨j, List.mem_range.1 hj, h⟩
  · rintro ⟨j, hj, h⟩; exact ⟨j, List.mem_range.2 hj, h⟩
theorem anyB_succ (es : List (Nat × Nat)) (t k : Nat) : anyB es (t + 1) k = (anyB es t k || mutl es t k) := by
  unfold anyB
  rw [List.range_succ, List.any_append]; simp
/-- The class of a node; the classes, each at its least node. -/
noncomputable def cls (n : Nat) (es : List (Nat × Nat)) (i : Nat) : List Nat := (List.range n).filter (mutl es i)
noncomputable def partsTo (n : Nat) (es : List (Nat × Nat)) (t : Nat) : List (List Nat) := ((List.range t).filter fun i => !anyB es i i).map (cls n es)
noncomputable def partsOf (n : Nat) (es : List (Nat × Nat)) : List (List Nat) := partsTo n es n
theorem partsTo_succ (n : Nat) (es : List (Nat × Nat)) (t : Nat) : partsTo n es (t + 1) = partsTo n es t ++ (if anyB es t t then [] else [cls n es t]) := by
  unfold partsTo
  rw [filt_succ, List.map_append]
  cases anyB es t t <;> simp
theorem partsTo_len (n : Nat) (es : List (Nat × Nat)) (t : Nat) : (partsTo n es t).length ≤ t := by
  unfold partsTo
  rw [List.length_map]
  have := List.length_filter_le (fun i => !anyB es i i) (List.range t)
  rw [List.length_range] at this
  exact this
theorem cls_len (n : Nat) (es : List (Nat × Nat)) (i : Nat) : (cls n es i).length ≤ n := by
  have := List.length_filter_le (mutl es i) (List.range n)
  rw [List.length_range] at this
  exact this
/-- The inner loop's state: the part and the flags when k has been come to. -/
noncomputable def prtK (es : List (Nat × Nat)) (i k : Nat) : List Nat := (List.range k).filter fun q => decide (i ≤ q) && mutl es i q
noncomputable def flgK (es : List (Nat × Nat)) (i k q : Nat) : Bool := anyB es i q || (decide (i ≤ q ∧ q < k) && mutl es i q)
theorem prtK_start (es : List (Nat × Nat)) (i : Nat) : prtK es i i = [] := by
  unfold prtK
  rw [List.filter_eq_nil_iff]
  intro q hq
  have := List.mem_range.1 hq
  simp; omega
theorem prtK_succ {es : List (Nat × Nat)} {i k : Nat} (h : i ≤ k) : prtK es i (k + 1) = prtK es i k ++ (if mutl es i k then [k] else []) := by
  unfold prtK
  rw [filt_succ]
  simp [h]
theorem prtK_len (es : List (Nat × Nat)) (i k : Nat) : (prtK es i k).length ≤ k := by
  have := List.length_filter_le (fun q => decide (i ≤ q) && mutl es i q) (List.range k)
  rw [List.length_range] at this
  exact this
theorem flgK_start (es : List (Nat × Nat)) (i q : Nat) : flgK es i i q = anyB es i q := by
  unfold flgK
  rw [dec_no (by omega)]; simp
theorem flgK_succ {es : List (Nat × Nat)} {i k : Nat} (h : i ≤ k) (q : Nat) : flgK es i (k + 1) q = if q = k ∧ mutl es i k = true then true else flgK es i k q := by
  unfold flgK
  by_cases e : q = k
  · subst e
    rw [dec_yes ⟨h, by omega⟩, dec_no (by omega)]
    cases hm : mutl es i q <;> simp
  · rw [if_neg (fun h => e h.1)]
    have : decide (i ≤ q ∧ q < k + 1) = decide (i ≤ q ∧ q < k) := decide_eq_decide.2 (by omega)
    rw [this]
/-- A node that leads its class: its class begins with it. -/
theorem prtK_all {n : Nat} {es : List (Nat × Nat)} {i : Nat} (h : anyB es i i = false) : prtK es i n = cls n es i := by
  unfold prtK cls
  refine List.filter_congr fun q _ => ?_
  by_cases hq : i ≤ q
  · simp [hq]
  · cases hm : mutl es i q
    · simp
    · have : anyB es i i = true := anyB_iff.2 ⟨q, by omega, mutl_symm hm⟩
      rw [h] at this; cases this
theorem flgK_all {n : Nat} {es : List (Nat × Nat)} {i q : Nat} (hq : q < n) : flgK es i n q = anyB es (i + 1) q := by
  rw [anyB_succ]
  unfold flgK
  by_cases h : i ≤ q
  · rw [dec_yes ⟨h, hq⟩]; simp
  · have : anyB es i q = true := anyB_iff.2 ⟨q, by omega, mutl_refl es q⟩
    rw [this]; simp
theorem anyB_old {es : List (Nat × Nat)} {i : Nat} (h : anyB es i i = true) (q : Nat) : anyB es (i + 1) q = anyB es i q := by
  rw [anyB_succ]
  cases hm : mutl es i q
  · simp
  · obtain ⟨j, hj, hj2⟩ := anyB_iff.1 h
    rw [anyB_iff.2 ⟨j, hj, mutl_trans hj2 hm⟩]; rfl

/-! ### rows of flags -/
theorem elemBRow : Elem Try.prog 74 54 24 := elem_of (z := .slice none 0 0) Try.underlying74 (by kernel_rfl) rfl
structure BM (base : Nat) (n : Nat) (es : List (Nat × Nat)) (v : Value) (vals : List Value) (wr : World) : Prop where
  own : Own wr base 54 rowf v vals
  rows : ∀ (j : Nat) u, vals[j]? = some u → Own wr base 4 boolf u (fl n (reaB es j))
theorem BM.below {base n : Nat} {es : List (Nat × Nat)} {v : Value} {vals : List Value} {wr w1 : World} (h : BM base n es v vals wr) (hb : Below wr.heap.size wr w1) : BM base n es v vals w1 :=
  ⟨h.own.below hb, fun j u hu => (h.rows j u hu).below hb⟩
theorem BM.push {base n : Nat} {es : List (Nat × Nat)} {v v1 u : Value} {vals : List Value} {wr w1 : World} (h : BM base n es v vals wr) (hu : Own wr base 4 boolf u (fl n (reaB es vals.length))) (hg : wr.grownBy w1 v.ownBlock) (ho : Own w1 base 54 rowf v1 (vals ++ [u])) : BM base n es v1 (vals ++ [u]) w1 := by
  refine ⟨ho, fun j x hx => ?_⟩
  have key : ∀ {x : Value} {l : List Bool}, Own wr base 4 boolf x l → Own w1 base 4 boolf x l := fun hx => hx.only hg (fun g e e2 => (hx.apart h.own (by decide)) g e e2)
  by_cases hj : j < vals.length
  · rw [List.getElem?_append_left hj] at hx
    exact key (h.rows j x hx)
  · rw [List.getElem?_append_right (by omega)] at hx
    have hk : j - vals.length = 0 := by
      have := (List.getElem?_eq_some_iff.1 hx).1
      simp at this; omega
    rw [hk] at hx
    cases hx
    have : j = vals.length := by omega
    subst this
    exact key hu
end Go.Proofs.Ythhhcaleoiopgaa
