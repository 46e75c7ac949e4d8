/-
  Graph, plain: the parts, and the edges at each node; no program in sight.
-/
import Derived.Test.YtcaeemcobgopmaaGrW
namespace Go.Proofs.Ytcaeemcobgopmaa
set_option linter.unusedVariables false

def rootsTo (f : Nat → Nat) (i : Nat) : List Nat := (List.range i).filter fun r => f r == r
def prt (f : Nat → Nat) (i : Nat) : List (List Nat) := (rootsTo f i).map fun r => (List.range i).filter fun k => f k == r
def rootIdx (f : Nat → Nat) (i : Nat) : Nat → Option Nat := fun r => if r < i ∧ f r = r then some (rootsTo f r).length else none

theorem rootsTo_root {f : Nat → Nat} {i : Nat} (h : f i = i) : rootsTo f (i + 1) = rootsTo f i ++ [i] := by
  unfold rootsTo; rw [List.range_succ, List.filter_append]; simp [h]
theorem rootsTo_not {f : Nat → Nat} {i : Nat} (h : f i ≠ i) : rootsTo f (i + 1) = rootsTo f i := by
  unfold rootsTo; rw [List.range_succ, List.filter_append]; simp [h]
theorem rootsTo_le (f : Nat → Nat) (i : Nat) : (rootsTo f i).length ≤ i := by
  unfold rootsTo; refine Nat.le_trans (List.length_filter_le _ _) ?_; simp
theorem rootsTo_get {f : Nat → Nat} {r : Nat} (h : f r = r) : ∀ i, r < i → (rootsTo f i)[(rootsTo f r).length]? = some r := by
  intro i
  induction i with
  | zero => intro h; omega
  | succ i ih =>
    intro hr
    have step : ∀ l, (rootsTo f i)[(rootsTo f r).length]? = some r → (rootsTo f i ++ l)[(rootsTo f r).length]? = some r := by
      intro l hl
      rw [List.getElem?_append_left (List.getElem?_eq_some_iff.1 hl).1]; exact hl
    by_cases e : r = i
    · subst e
      rw [rootsTo_root h]; simp
    · have := ih (by omega)
      by_cases hi : f i = i
      · rw [rootsTo_root hi]; exact step _ this
      · rw [rootsTo_not hi]; exact this
theorem rootsTo_mem {f : Nat → Nat} {i r : Nat} : r ∈ rootsTo f i ↔ r < i ∧ f r = r := by
  unfold rootsTo; simp
theorem rootsTo_nodup (f : Nat → Nat) (i : Nat) : (rootsTo f i).Nodup := List.Pairwise.filter _ List.nodup_range
theorem nodup_idx {α : Type} {l : List α} (h : l.Nodup) {i j : Nat} {x : α} (hi : l[i]? = some x) (hj : l[j]? = some x) : i = j := by
  obtain ⟨h1, e1⟩ := List.getElem?_eq_some_iff.1 hi
  obtain ⟨h2, e2⟩ := List.getElem?_eq_some_iff.1 hj
  have hp := List.pairwise_iff_getElem.1 h
  rcases Nat.lt_trichotomy i j with hlt | heq | hgt
  · exact absurd (e1.trans e2.symm) (hp i j h1 h2 hlt)
  · exact heq
  · exact absurd (e2.trans e1.symm) (hp j i h2 h1 hgt)

/-- The row of a root, before and behind node i. -/
theorem prt_row {f : Nat → Nat} {i r : Nat} (h : f r = r) (hr : r < i) : (prt f i)[(rootsTo f r).length]? = some ((List.range i).filter fun k => f k == r) := by
  unfold prt; rw [List.getElem?_map, rootsTo_get h i hr]; rfl
theorem prt_len (f : Nat → Nat) (i : Nat) : (prt f i).length = (rootsTo f i).length := by simp [prt]

theorem prt_old {f : Nat → Nat} (hf : Least f) {i : Nat} (h : f i ≠ i) :
    prt f (i + 1) = (prt f i).set (rootsTo f (f i)).length (((List.range i).filter fun k => f k == f i) ++ [i]) := by
  have hlt : f i < i := by have := (hf i).1; omega
  have hroot : f (f i) = f i := (hf i).2
  have hget := rootsTo_get hroot i hlt
  apply List.ext_getElem?
  intro j
  unfold prt
  rw [rootsTo_not h, List.getElem?_map]
  by_cases e : (rootsTo f (f i)).length = j
  · subst e
    rw [hget, List.getElem?_set_self (by simpa using (List.getElem?_eq_some_iff.1 hget).1)]
    simp only [Option.map_some]
    rw [List.range_succ, List.filter_append]
    simp
  · rw [List.getElem?_set_ne e, List.getElem?_map]
    cases hj : (rootsTo f i)[j]? with
    | none => rfl
    | some r =>
      simp only [Option.map_some, Option.some.injEq]
      rw [List.range_succ, List.filter_append]
      have : f i ≠ r := by
        rintro rfl
        exact e (nodup_idx (rootsTo_nodup f i) hget hj)
      simp [this]

theorem prt_new {f : Nat → Nat} (hf : Least f) {i : Nat} (h : f i = i) : prt f (i + 1) = (prt f i ++ [[]]).set (rootsTo f i).length [i] := by
  have hs : (prt f i ++ [[]]).set (rootsTo f i).length [i] = prt f i ++ [[i]] := by
    rw [← prt_len f i]; simp
  rw [hs]
  unfold prt
  rw [rootsTo_root h, List.map_append]
  congr 1
  · refine List.map_congr_left fun r hr => ?_
    rw [List.range_succ, List.filter_append]
    have : f i ≠ r := by have := (rootsTo_mem.1 hr).1; omega
    simp [this]
  · simp only [List.map_cons, List.map_nil]
    rw [List.range_succ, List.filter_append]
    have : (List.range i).filter (fun k => f k == i) = [] := by
      rw [List.filter_eq_nil_iff]
      intro k hk
      have h1 := List.mem_range.1 hk
      have h2 := (hf k).1
      simp; omega
    rw [this]; simp [h]

theorem rootIdx_new {f : Nat → Nat} {i : Nat} (h : f i = i) : rootIdx f (i + 1) = fun k => if k = i then some (rootsTo f i).length else rootIdx f i k := by
  funext k
  unfold rootIdx
  by_cases e : k = i
  · subst e; simp [h]
  · rw [if_neg e]
    by_cases h1 : k < i ∧ f k = k
    · rw [if_pos ⟨by omega, h1.2⟩, if_pos h1]
    · rw [if_neg (fun h2 => h1 ⟨by omega, h2.2⟩), if_neg h1]
theorem rootIdx_old {f : Nat → Nat} {i : Nat} (h : f i ≠ i) : rootIdx f (i + 1) = rootIdx f i := by
  funext k
  unfold rootIdx
  by_cases h1 : k < i ∧ f k = k
  · rw [if_pos ⟨by omega, h1.2⟩, if_pos h1]
  · rw [if_neg (fun h2 => h1 ⟨by
      rcases Nat.lt_or_ge k i with h3 | h3
      · exact h3
      · have : k = i := by omega
        subst this; exact absurd h2.2 h, h2.2⟩), if_neg h1]

def partsOf (n : Nat) (ns : List (Nat × Nat)) : List (List Nat) := prt (lbl ns) n
def forestOf (ns : List (Nat × Nat)) : List Nat := idxs (inF ns) true
def otherOf (ns : List (Nat × Nat)) : List Nat := idxs (inF ns) false

end Go.Proofs.Ytcaeemcobgopmaa
