/-
  Sequences: the graph of the laid bars, and what the functions answer (plain).
-/
import Derived.Test.YthmlejijfgbfbaaGreatKbk
import Derived.Test.YthmlejijfgbfbaaGreatKcy
namespace Go.Proofs.YthmlejijfgbfbaaGreat
open Go.RowKit
set_option linter.unusedVariables false
set_option linter.unusedSimpArgs false

/-- The graph of the laid bars. -/
def edN (L : List (List Bx)) (Z : List Int) (X : List Int) (n : Nat) : List (Nat × Nat) :=
  (List.range n).flatMap fun j => ((List.range n).filter fun k => decide (j ≠ k) && blkAt L Z (X.getD j 0) j k).map fun k => (j, k)
theorem edN_cst (L : List (List Bx)) (Z : List Int) (X : List Int) (n : Nat) : cst (edN L Z X n) = edgL L Z X n n := by
  unfold cst edN edgL edgR
  rw [List.map_flatMap]
  congr 1
  funext j
  rw [List.map_map]
  rfl
theorem edN_mem {L : List (List Bx)} {Z : List Int} {X : List Int} {n i k : Nat} : (i, k) ∈ edN L Z X n ↔ i < n ∧ k < n ∧ i ≠ k ∧ blkAt L Z (X.getD i 0) i k = true := by
  unfold edN
  simp only [List.mem_flatMap, List.mem_range, List.mem_map, List.mem_filter, Bool.and_eq_true, decide_eq_true_eq, Prod.mk.injEq]
  constructor
  · rintro ⟨j, hj, k', ⟨hk, hne, hb⟩, rfl, rfl⟩
    exact ⟨hj, hk, hne, hb⟩
  · rintro ⟨hi, hk, hne, hb⟩
    exact ⟨i, hi, k, ⟨hk, hne, hb⟩, rfl, rfl⟩
theorem edN_ends (L : List (List Bx)) (Z : List Int) (X : List Int) (n : Nat) : EndsD n (edN L Z X n) := by
  intro k e h
  have hm := List.mem_of_getElem? h
  obtain ⟨a, b⟩ := e
  have := edN_mem.1 hm
  exact ⟨this.1, this.2.1⟩
theorem edN_len (L : List (List Bx)) (Z : List Int) (X : List Int) (n : Nat) : (edN L Z X n).length ≤ n * n := by
  have h := edgL_len L Z X n n
  rw [← edN_cst, cst_len] at h
  exact h
theorem edN_self {L : List (List Bx)} {Z : List Int} {X : List Int} {n i : Nat} : (i, i) ∉ edN L Z X n := fun h => (edN_mem.1 h).2.2.1 rfl

/-! ### the first bar that is blocked -/
/-- The first node that has an edge to one ahead of it, and this one: of the rows below m. -/
def fstE (es : List (Nat × Nat)) (q : List Nat) : Nat → Option (Nat × Nat)
  | 0 => none
  | m + 1 => match fstE es q m with
    | some r => some r
    | none => match (List.range m).find? fun k => decide ((q.getD m 0, q.getD k 0) ∈ es) with
      | some k => some (q.getD m 0, q.getD k 0)
      | none => none
theorem fstE_none {es : List (Nat × Nat)} {q : List Nat} : ∀ m, fstE es q m = none ↔ ∀ i k, k < i → i < m → (q.getD i 0, q.getD k 0) ∉ es
  | 0 => ⟨fun _ i k _ h => by omega, fun _ => rfl⟩
  | m + 1 => by
    have ih := fstE_none (es := es) (q := q) m
    constructor
    · intro h i k hk hi
      unfold fstE at h
      cases hf : fstE es q m with
      | some r => rw [hf] at h; cases h
      | none =>
        rw [hf] at h
        by_cases e : i = m
        · subst e
          simp only at h
          cases hg : (List.range i).find? (fun k => decide ((q.getD i 0, q.getD k 0) ∈ es)) with
          | some r => rw [hg] at h; cases h
          | none =>
            rw [List.find?_eq_none] at hg
            have := hg k (List.mem_range.2 hk)
            simpa using this
        · exact ih.1 hf i k hk (by omega)
    · intro h
      unfold fstE
      rw [ih.2 (fun i k hk hi => h i k hk (by omega))]
      have hg : (List.range m).find? (fun k => decide ((q.getD m 0, q.getD k 0) ∈ es)) = none := by
        rw [List.find?_eq_none]
        intro k hk
        simpa using h m k (List.mem_range.1 hk) (by omega)
      rw [hg]
theorem range_find {p : Nat → Bool} {m k : Nat} (hk : k < m) (hp : p k = true) (h : ∀ j, j < k → p j = false) : (List.range m).find? p = some k := by
  rw [List.find?_eq_some_iff_getElem]
  refine ⟨hp, k, by simpa using hk, by simp, fun j hj => ?_⟩
  simp only [List.getElem_range]
  rw [h j hj]
  rfl
/-- What is hit first is what fstE tells, for all m above. -/
theorem fstE_hit {es : List (Nat × Nat)} {q : List Nat} {i k : Nat} (h0 : ∀ a b, b < a → a < i → (q.getD a 0, q.getD b 0) ∉ es) (h1 : ∀ b, b < k → (q.getD i 0, q.getD b 0) ∉ es) (hk : k < i) (h : (q.getD i 0, q.getD k 0) ∈ es) :
    ∀ m, i < m → fstE es q m = some (q.getD i 0, q.getD k 0)
  | 0, hm => by omega
  | m + 1, hm => by
    unfold fstE
    by_cases e : i = m
    · subst e
      rw [(fstE_none i).2 h0]
      rw [range_find (p := fun k => decide ((q.getD i 0, q.getD k 0) ∈ es)) hk (by simpa using h) (fun j hj => by simpa using h1 j hj)]
    · rw [fstE_hit h0 h1 hk h m (by omega)]
theorem fstE_some {es : List (Nat × Nat)} {q : List Nat} {r : Nat × Nat} : ∀ m, fstE es q m = some r → ∃ i k, k < i ∧ i < m ∧ (∀ a b, b < a → a < i → (q.getD a 0, q.getD b 0) ∉ es) ∧ (∀ b, b < k → (q.getD i 0, q.getD b 0) ∉ es) ∧ r = (q.getD i 0, q.getD k 0) ∧ r ∈ es
  | 0, h => by cases h
  | m + 1, h => by
    unfold fstE at h
    cases hf : fstE es q m with
    | some r' =>
      rw [hf] at h
      cases h
      obtain ⟨i, k, h1, h2, h3⟩ := fstE_some m hf
      exact ⟨i, k, h1, by omega, h3⟩
    | none =>
      rw [hf] at h
      simp only at h
      cases hg : (List.range m).find? (fun k => decide ((q.getD m 0, q.getD k 0) ∈ es)) with
      | none => rw [hg] at h; cases h
      | some k =>
        rw [hg] at h
        cases h
        rw [List.find?_eq_some_iff_getElem] at hg
        obtain ⟨hp, j, hj, hjk, hno⟩ := hg
        simp only [List.getElem_range] at hjk
        subst hjk
        simp only [List.length_range] at hj
        refine ⟨m, j, hj, by omega, (fstE_none m).1 hf, fun b hb => ?_, rfl, by simpa using hp⟩
        have := hno b hb
        simp only [List.getElem_range] at this
        simpa using this

/-! ### right sequences -/
theorem getD_idx {q : List Nat} {x : Nat} (h : x ∈ q) : q.getD (q.idxOf x) 0 = x := by
  have hl := List.idxOf_lt_length_iff.2 h
  rw [List.getD_eq_getElem?_getD, List.getElem?_eq_getElem hl]
  simp
theorem idx_getD {q : List Nat} (hnd : q.Nodup) {i : Nat} (h : i < q.length) : q.idxOf (q.getD i 0) = i := by
  rw [List.getD_eq_getElem?_getD, List.getElem?_eq_getElem h]
  simp only [Option.getD_some]
  exact List.Nodup.idxOf_getElem hnd i h
/-- A sequence of all nodes is right exactly if no node has an edge to one ahead of it. -/
theorem chk_fst {n : Nat} {es : List (Nat × Nat)} {q : List Nat} (he : EndsD n es) (hs : ∀ x, (x, x) ∉ es) (hl : q.length = n) (hlt : ∀ x ∈ q, x < n) (hnd : q.Nodup) :
    (chkN es q).1 = true ↔ fstE es q n = none := by
  have hall : ∀ x, x < n → x ∈ q := fun x hx => nodup_full hnd hlt hl hx
  unfold chkN
  rw [if_pos hnd, fstE_none]
  simp only [List.all_eq_true, decide_eq_true_eq]
  constructor
  · intro h i k hk hi hm
    have := h _ hm
    rw [idx_getD hnd (by omega), idx_getD hnd (by omega)] at this
    omega
  · intro h e hm
    obtain ⟨a, b⟩ := e
    have hab := he.mem hm
    have ha := hall a hab.1
    have hb := hall b hab.2
    have la := List.idxOf_lt_length_iff.2 ha
    have lb := List.idxOf_lt_length_iff.2 hb
    by_cases hc : q.idxOf a < q.idxOf b
    · exact hc
    · exfalso
      by_cases e : q.idxOf a = q.idxOf b
      · have : a = b := by rw [← getD_idx ha, ← getD_idx hb, e]
        subst this
        exact hs a hm
      · refine h (q.idxOf a) (q.idxOf b) (by omega) (by omega) ?_
        rw [getD_idx ha, getD_idx hb]
        exact hm
theorem nats_back {l : List Int} (h : ∀ x ∈ l, 0 ≤ x) : l = (l.map Int.toNat).map fun k : Nat => (k : Int) := by
  rw [List.map_map]
  conv => lhs; rw [← List.map_id l]
  apply List.map_congr_left
  intro x hx
  have := h x hx
  simp only [id, Function.comp]
  omega
theorem bad_none {n : Nat} {l : List Int} (h : l.any (badN n) = false) : ∀ x ∈ l, 0 ≤ x ∧ x < n := by
  intro x hx
  have := List.any_eq_false.1 h x hx
  unfold badN at this
  simp only [decide_eq_true_eq] at this
  omega
theorem nodup_nat {n : Nat} {l : List Int} (h : l.any (badN n) = false) : (l.map Int.toNat).Nodup ↔ l.Nodup := by
  have hb := nats_back (fun x hx => (bad_none h x hx).1)
  constructor
  · intro hn
    rw [hb]
    exact List.Pairwise.map _ (fun a b hab e => hab (by omega)) hn
  · intro hn
    rw [hb] at hn
    exact List.Pairwise.of_map (fun k : Nat => (k : Int)) (fun a b hab e => hab (by rw [e])) hn
theorem chk_nodes (n : Nat) (es : List (Nat × Nat)) (l : List Int) : (chkRes n es l).2 = nodesRes n l := by
  unfold chkRes nodesRes
  by_cases h1 : l.length ≠ n
  · rw [if_pos h1, if_pos h1]
  · rw [if_neg h1, if_neg h1]
    by_cases h2 : l.any (badN n) = true
    · rw [if_pos h2, if_pos h2]
    · rw [if_neg h2, if_neg h2]
      have h3 : l.any (badN n) = false := by simpa using h2
      unfold chkN
      by_cases h4 : l.Nodup
      · rw [if_pos h4, if_pos ((nodup_nat h3).2 h4)]
      · rw [if_neg h4, if_neg (fun h => h4 ((nodup_nat h3).1 h))]
theorem nodes_zero {n : Nat} {l : List Int} (h : nodesRes n l = 0) : l.length = n ∧ l.any (badN n) = false ∧ l.Nodup := by
  unfold nodesRes at h
  by_cases h1 : l.length ≠ n
  · rw [if_pos h1] at h; omega
  · rw [if_neg h1] at h
    by_cases h2 : l.any (badN n) = true
    · rw [if_pos h2] at h; omega
    · rw [if_neg h2] at h
      by_cases h3 : l.Nodup
      · exact ⟨by omega, by simpa using h2, h3⟩
      · rw [if_neg h3] at h; omega
theorem nodes_codes (n : Nat) (l : List Int) : nodesRes n l = 0 ∨ nodesRes n l = 2 ∨ nodesRes n l = 3 ∨ nodesRes n l = 10 := by
  unfold nodesRes
  split
  · simp
  · split
    · simp
    · split <;> simp
theorem chk_bad {n : Nat} {es : List (Nat × Nat)} {l : List Int} (h : nodesRes n l ≠ 0) : (chkRes n es l).1 = false := by
  unfold chkRes
  unfold nodesRes at h
  by_cases h1 : l.length ≠ n
  · rw [if_pos h1]
  · rw [if_neg h1] at h ⊢
    by_cases h2 : l.any (badN n) = true
    · rw [if_pos h2]
    · rw [if_neg h2] at h ⊢
      have h3 : l.any (badN n) = false := by simpa using h2
      by_cases h4 : l.Nodup
      · rw [if_pos h4] at h; exact absurd rfl h
      · unfold chkN
        rw [if_neg (fun h => h4 ((nodup_nat h3).1 h))]
theorem chk_good {n : Nat} {es : List (Nat × Nat)} {l : List Int} (h : nodesRes n l = 0) : chkRes n es l = chkN es (l.map Int.toNat) := by
  obtain ⟨h1, h2, h3⟩ := nodes_zero h
  unfold chkRes
  rw [if_neg (by omega), if_neg (by rw [h2]; simp)]
/-- What First answers, for right axes and a list of all nodes. -/
def fstV (es : List (Nat × Nat)) (l : List Int) (n : Nat) : Int × Int × Int :=
  match fstE es (l.map Int.toNat) n with
  | some (a, b) => ((a : Int), (b : Int), 0)
  | none => (0, 0, 12)
/-- What First answers. -/
def fstR (n : Nat) (es : List (Nat × Nat)) (l : List Int) : Int × Int × Int := if nodesRes n l = 0 then fstV es l n else (0, 0, nodesRes n l)
theorem fst_chk {n : Nat} {es : List (Nat × Nat)} {l : List Int} (he : EndsD n es) (hs : ∀ x, (x, x) ∉ es) (h : nodesRes n l = 0) : (chkRes n es l).1 = true ↔ fstE es (l.map Int.toNat) n = none := by
  rw [chk_good h]
  obtain ⟨h1, h2, h3⟩ := nodes_zero h
  have hb := bad_none h2
  exact chk_fst he hs (by simpa using h1) (fun x hx => by
    obtain ⟨y, hy, rfl⟩ := List.mem_map.1 hx
    have := hb y hy
    omega) ((nodup_nat h2).2 h3)

/-! ### layers -/
def layS (v : Nat) (A : List Int) (e : Nat × Nat) : List Int := if e.2 = v then A.set v (mx (A.getD v 0) (A.getD e.1 0 + 1)) else A
def layR (es : List (Nat × Nat)) (v : Nat) (A : List Int) (m : Nat) : List Int := (es.take m).foldl (layS v) A
def layT (n : Nat) (es : List (Nat × Nat)) (D : List Nat) (k : Nat) : List Int := (D.take k).foldl (fun A v => layR es v A es.length) (List.replicate n 0)
theorem layR_succ {es : List (Nat × Nat)} {m : Nat} {e : Nat × Nat} (h : es[m]? = some e) (v : Nat) (A : List Int) : layR es v A (m + 1) = layS v (layR es v A m) e := by
  unfold layR
  have hm := (List.getElem?_eq_some_iff.1 h).1
  rw [List.take_succ_eq_append_getElem hm, List.foldl_append, (List.getElem?_eq_some_iff.1 h).2]
  rfl
theorem layT_succ {D : List Nat} {k v : Nat} (h : D[k]? = some v) (n : Nat) (es : List (Nat × Nat)) : layT n es D (k + 1) = layR es v (layT n es D k) es.length := by
  unfold layT
  have hm := (List.getElem?_eq_some_iff.1 h).1
  rw [List.take_succ_eq_append_getElem hm, List.foldl_append, (List.getElem?_eq_some_iff.1 h).2]
  rfl
theorem layS_len (v : Nat) (A : List Int) (e : Nat × Nat) : (layS v A e).length = A.length := by
  unfold layS
  split
  · rw [List.length_set]
  · rfl
theorem layR_len (es : List (Nat × Nat)) (v : Nat) (A : List Int) : ∀ m, (layR es v A m).length = A.length := by
  intro m
  unfold layR
  generalize es.take m = l
  induction l generalizing A with
  | nil => rfl
  | cons e l ih => rw [List.foldl_cons, ih, layS_len]
theorem layT_len (n : Nat) (es : List (Nat × Nat)) (D : List Nat) (k : Nat) : (layT n es D k).length = n := by
  unfold layT
  generalize D.take k = l
  have : ∀ A : List Int, A.length = n → (l.foldl (fun A v => layR es v A es.length) A).length = n := by
    induction l with
    | nil => intro A h; exact h
    | cons v l ih => intro A h; rw [List.foldl_cons]; exact ih _ (by rw [layR_len]; exact h)
  exact this _ (by simp)
end Go.Proofs.YthmlejijfgbfbaaGreat
