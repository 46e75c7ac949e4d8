/-
  Couplers (plain): the others, the edges between them, names.
-/
import Derived.Test.YtamogedpgkofjaaGreatKsg
namespace Go.Proofs.YtamogedpgkofjaaGreat
section
open Go.RowKit
set_option linter.unusedVariables false
set_option linter.unusedSimpArgs false

/-- The numbers below n that are not in l. -/
def othN (n : Nat) (l : List Int) : List Nat := (List.range n).filter fun i => decide ((i : Int) ∉ l)
theorem othN_mem {n : Nat} {l : List Int} {x : Nat} : x ∈ othN n l ↔ x < n ∧ (x : Int) ∉ l := by unfold othN; simp
theorem othN_sort (n : Nat) (l : List Int) : (othN n l).Pairwise (· < ·) := List.pairwise_lt_range.sublist List.filter_sublist
theorem othN_nodup (n : Nat) (l : List Int) : (othN n l).Nodup := List.nodup_range.sublist List.filter_sublist
theorem othN_len (n : Nat) (l : List Int) : (othN n l).length ≤ n := by
  have := List.length_filter_le (fun i : Nat => decide ((i : Int) ∉ l)) (List.range n)
  unfold othN
  simpa using this
/-- The edges between nodes, by places. -/
def subE (es : List (Nat × Nat)) (nodes : List Nat) : List (Nat × Nat) :=
  (es.filter fun e => decide (e.1 ∈ nodes) && decide (e.2 ∈ nodes)).map fun e => (nodes.idxOf e.1, nodes.idxOf e.2)
theorem subE_ends (es : List (Nat × Nat)) (nodes : List Nat) : EndsD nodes.length (subE es nodes) := by
  intro i e he
  have he := List.mem_of_getElem? he
  unfold subE at he
  obtain ⟨x, hx, rfl⟩ := List.mem_map.1 he
  obtain ⟨_, h⟩ := List.mem_filter.1 hx
  rw [Bool.and_eq_true, decide_eq_true_eq, decide_eq_true_eq] at h
  exact ⟨List.idxOf_lt_length_of_mem h.1, List.idxOf_lt_length_of_mem h.2⟩
theorem subE_len (es : List (Nat × Nat)) (nodes : List Nat) : (subE es nodes).length ≤ es.length := by
  unfold subE
  rw [List.length_map]
  exact List.length_filter_le _ _
theorem subE_mem {es : List (Nat × Nat)} {nodes : List Nat} (hn : nodes.Nodup) {a b x y : Nat} (ha : nodes[a]? = some x) (hb : nodes[b]? = some y) : (a, b) ∈ subE es nodes ↔ (x, y) ∈ es := by
  have hal := (List.getElem?_eq_some_iff.1 ha).1
  have hbl := (List.getElem?_eq_some_iff.1 hb).1
  have hax : nodes.idxOf x = a := by rw [← (List.getElem?_eq_some_iff.1 ha).2]; exact List.Nodup.idxOf_getElem hn a hal
  have hby : nodes.idxOf y = b := by rw [← (List.getElem?_eq_some_iff.1 hb).2]; exact List.Nodup.idxOf_getElem hn b hbl
  unfold subE
  rw [List.mem_map]
  constructor
  · rintro ⟨e, he, heq⟩
    obtain ⟨h1, h2⟩ := List.mem_filter.1 he
    rw [Bool.and_eq_true, decide_eq_true_eq, decide_eq_true_eq] at h2
    obtain ⟨e1, e2⟩ := e
    simp only [Prod.mk.injEq] at heq
    have h3 : nodes[nodes.idxOf e1]? = some e1 := by rw [List.getElem?_eq_getElem (List.idxOf_lt_length_of_mem h2.1)]; exact congrArg some (List.getElem_idxOf _)
    have h4 : nodes[nodes.idxOf e2]? = some e2 := by rw [List.getElem?_eq_getElem (List.idxOf_lt_length_of_mem h2.2)]; exact congrArg some (List.getElem_idxOf _)
    rw [heq.1, ha] at h3
    rw [heq.2, hb] at h4
    cases h3; cases h4
    exact h1
  · intro h
    refine ⟨(x, y), List.mem_filter.2 ⟨h, ?_⟩, by rw [hax, hby]⟩
    rw [Bool.and_eq_true, decide_eq_true_eq, decide_eq_true_eq]
    exact ⟨List.mem_of_getElem? ha, List.mem_of_getElem? hb⟩
/-- The nodes at places. -/
def namN (nodes places : List Nat) : List Nat := places.map fun i => nodes.getD i 0
theorem namN_snoc {nodes places : List Nat} {k i : Nat} (h : places[k]? = some i) : namN nodes (places.take (k + 1)) = namN nodes (places.take k) ++ [nodes.getD i 0] := by
  have hk := (List.getElem?_eq_some_iff.1 h).1
  unfold namN
  rw [List.take_succ_eq_append_getElem hk, (List.getElem?_eq_some_iff.1 h).2, List.map_append]; rfl
theorem namN_len (nodes places : List Nat) : (namN nodes places).length = places.length := List.length_map ..
/-- The order of the others; the loop of the others. -/
def ordC (n : Nat) (es : List (Nat × Nat)) (l : List Int) : Option (List Nat) := (orderOf (othN n l).length (subE es (othN n l))).map (namN (othN n l))
noncomputable def lopC (n : Nat) (es : List (Nat × Nat)) (l : List Int) : Option (List Nat) := (loopOf (othN n l).length (subE es (othN n l))).map (namN (othN n l))
end
end Go.Proofs.YtamogedpgkofjaaGreat
