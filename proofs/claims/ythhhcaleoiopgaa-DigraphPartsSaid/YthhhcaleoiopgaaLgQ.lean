/-
  Directed graphs: the longest path, plain (2): the sums' equation, the walk along them.
-/
import Derived.Test.YthhhcaleoiopgaaLgP
namespace Go.Proofs.Ythhhcaleoiopgaa
set_option linter.unusedVariables false

theorem nodup_len_le : ∀ (n : Nat) (l : List Nat), l.Nodup → (∀ x ∈ l, x < n) → l.length ≤ n
  | 0, l, _, h => by
    cases l with
    | nil => simp
    | cons a l => exact absurd (h a (by simp)) (by omega)
  | n + 1, l, hd, h => by
    have h1 := nodup_len_le n (l.erase n) (hd.erase _) (fun x hx => by
      have := h x (List.mem_of_mem_erase hx)
      have hne : x ≠ n := fun e => by subst e; exact (List.Nodup.not_mem_erase hd) hx
      omega)
    rw [List.length_erase] at h1
    split at h1 <;> omega
theorem nodup_full {n : Nat} {l : List Nat} (hd : l.Nodup) (h : ∀ x ∈ l, x < n) (hl : l.length = n) {k : Nat} (hk : k < n) : k ∈ l := by
  refine Decidable.byContradiction fun hno => ?_
  have := nodup_len_le n (k :: l) (List.nodup_cons.2 ⟨hno, hd⟩) (fun x hx => by
    rcases List.mem_cons.1 hx with rfl | hx
    · exact hk
    · exact h x hx)
  simp at this
  omega

/-- The greatest of the sums of a list's nodes; 0 if there is none. -/
def maxOver (A : List Int) (l : List Nat) : Int := l.foldl (fun m k => max m (A.getD k 0)) 0
theorem maxOver_snoc (A : List Int) (l : List Nat) (k : Nat) : maxOver A (l ++ [k]) = max (maxOver A l) (A.getD k 0) := by
  unfold maxOver
  rw [List.foldl_append]; rfl
theorem maxOver_nonneg (A : List Int) (l : List Nat) : 0 ≤ maxOver A l := by
  refine snoc_ind (p := fun l => 0 ≤ maxOver A l) (Int.le_refl _) (fun l k h => ?_) l
  rw [maxOver_snoc]; omega
theorem maxOver_ge {A : List Int} {l : List Nat} {k : Nat} : k ∈ l → A.getD k 0 ≤ maxOver A l := by
  refine snoc_ind (p := fun l => k ∈ l → A.getD k 0 ≤ maxOver A l) (fun h => by simp at h) (fun l j ih h => ?_) l
  rw [maxOver_snoc]
  rcases List.mem_append.1 h with h | h
  · have := ih h; omega
  · rw [List.mem_singleton.1 h]; omega
theorem maxOver_is (A : List Int) (l : List Nat) : maxOver A l = 0 ∨ ∃ k ∈ l, A.getD k 0 = maxOver A l := by
  refine snoc_ind (p := fun l => maxOver A l = 0 ∨ ∃ k ∈ l, A.getD k 0 = maxOver A l) (.inl rfl) (fun l j ih => ?_) l
  rw [maxOver_snoc]
  rcases Int.le_total (A.getD j 0) (maxOver A l) with h | h
  · rw [Int.max_eq_left h]
    rcases ih with h1 | ⟨k, h1, h2⟩
    · exact .inl h1
    · exact .inr ⟨k, by simp [h1], h2⟩
  · rw [Int.max_eq_right h]
    exact .inr ⟨j, by simp, rfl⟩
theorem maxOver_congr {A B : List Int} {l : List Nat} : (∀ k ∈ l, A.getD k 0 = B.getD k 0) → maxOver A l = maxOver B l := by
  refine snoc_ind (p := fun l => (∀ k ∈ l, A.getD k 0 = B.getD k 0) → maxOver A l = maxOver B l) (fun _ => rfl) (fun l j ih h => ?_) l
  rw [maxOver_snoc, maxOver_snoc, ih (fun k hk => h k (by simp [hk])), h j (by simp)]
theorem getD_set {A : List Int} {i : Nat} (hi : i < A.length) (k : Nat) (y : Int) : (A.set i y).getD k 0 = if k = i then y else A.getD k 0 := by
  rw [List.getD_eq_getElem?_getD, List.getElem?_set]
  by_cases h : i = k
  · subst h; simp [hi]
  · rw [if_neg h, if_neg (fun e => h e.symm), List.getD_eq_getElem?_getD]
theorem relaxAll_eq {A : List Int} {i : Nat} (hi : i < A.length) (h0 : A.getD i 0 = 0) (l : List Nat) : i ∉ l → relaxAll i A l = A.set i (maxOver A l) := by
  refine snoc_ind (p := fun l => i ∉ l → relaxAll i A l = A.set i (maxOver A l)) (fun _ => ?_) (fun l k ih h => ?_) l
  · show A = A.set i 0
    refine (List.ext_getElem? fun j => ?_)
    rw [List.getElem?_set]
    by_cases e : i = j
    · subst e
      rw [if_pos rfl, if_pos hi, List.getElem?_eq_getElem hi]
      rw [List.getD_eq_getElem?_getD, List.getElem?_eq_getElem hi] at h0
      rw [← h0]; rfl
    · rw [if_neg e]
  · have hk : k ≠ i := fun e => h (by simp [e])
    rw [relaxAll_snoc, ih (fun hm => h (by simp [hm])), maxOver_snoc]
    unfold relax
    rw [getD_set hi, getD_set hi, if_pos rfl, if_neg hk, List.set_set]

def BestAt (n : Nat) (es : List (Nat × Nat)) (ws : List Int) (A : List Int) (i : Nat) : Prop := A.getD i 0 = maxOver A (nextsS n es i) + ws.getD i 0
theorem best_inv {n : Nat} {es : List (Nat × Nat)} {ws : List Int} (l : List Nat) : (∀ i ∈ l, i < n) → l.Nodup → (∀ l1 l2 i, l = l1 ++ i :: l2 → ∀ k ∈ nextsS n es i, k ∈ l1) →
    (∀ i ∈ l, BestAt n es ws (bestTo n es ws l) i) ∧ ∀ i, i ∉ l → (bestTo n es ws l).getD i 0 = 0 := by
  refine snoc_ind (p := fun l => (∀ i ∈ l, i < n) → l.Nodup → (∀ l1 l2 i, l = l1 ++ i :: l2 → ∀ k ∈ nextsS n es i, k ∈ l1) →
    (∀ i ∈ l, BestAt n es ws (bestTo n es ws l) i) ∧ ∀ i, i ∉ l → (bestTo n es ws l).getD i 0 = 0) (fun _ _ _ => ⟨by simp, fun i _ => ?_⟩) (fun l i ih hlt hnd hnx => ?_) l
  · show (List.replicate n (0 : Int)).getD i 0 = 0
    rw [List.getD_eq_getElem?_getD]
    cases hr : (List.replicate n (0 : Int))[i]? with
    | none => rfl
    | some x =>
      have := (List.getElem?_eq_some_iff.1 hr).2
      simp at this
      rw [← this]; rfl
  · have hnd2 := List.nodup_append.1 hnd
    have hil : i ∉ l := fun h => hnd2.2.2 i h i (by simp) rfl
    obtain ⟨i1, i2⟩ := ih (fun j hj => hlt j (by simp [hj])) hnd2.1 (fun l1 l2 j e k hk => hnx l1 (l2 ++ [i]) j (by rw [e]; simp) k hk)
    have hni := hnx l [] i rfl
    have hin : i < n := hlt i (by simp)
    obtain ⟨A, hA⟩ : ∃ A, bestTo n es ws l = A := ⟨_, rfl⟩
    have hAl : A.length = n := by rw [← hA, bestTo_len]
    rw [hA] at i1 i2
    have e0 : bestTo n es ws (l ++ [i]) = A.set i (maxOver A (nextsS n es i) + ws.getD i 0) := by
      rw [bestTo_snoc, hA]
      unfold bestStep
      rw [relaxAll_eq (by omega) (i2 i hil) _ (fun h => hil (hni i h)), getD_set (by omega), if_pos rfl, List.set_set]
    rw [e0]
    have same : ∀ j, (∀ k ∈ nextsS n es j, k ∈ l) → maxOver (A.set i (maxOver A (nextsS n es i) + ws.getD i 0)) (nextsS n es j) = maxOver A (nextsS n es j) := fun j hj =>
      maxOver_congr fun k hk => by rw [getD_set (by omega), if_neg (fun e => hil (by rw [← e]; exact hj k hk))]
    refine ⟨fun j hj => ?_, fun j hj => ?_⟩
    · unfold BestAt
      rcases List.mem_append.1 hj with hj | hj
      · have hji : j ≠ i := fun e => hil (e ▸ hj)
        obtain ⟨l1, l2, hl⟩ := List.append_of_mem hj
        rw [getD_set (by omega), if_neg hji, same j (fun k hk => ?_)]
        · exact i1 j hj
        · have := hnx l1 (l2 ++ [i]) j (by rw [hl]; simp) k hk
          rw [hl]; simp [this]
      · rw [List.mem_singleton.1 hj, getD_set (by omega), if_pos rfl, same i hni]
    · have hji : j ≠ i := fun e => hj (by simp [e])
      rw [getD_set (by omega), if_neg hji]
      exact i2 j (fun h => hj (by simp [h]))

/-- What the nodes' sums are in the end, for a graph in that order. -/
def bestOf (n : Nat) (es : List (Nat × Nat)) (ws : List Int) (D : List Nat) : List Int := bestTo n es ws D.reverse
theorem bestOf_len (n : Nat) (es : List (Nat × Nat)) (ws : List Int) (D : List Nat) : (bestOf n es ws D).length = n := bestTo_len _ _ _ _

theorem ord_all {n : Nat} {es : List (Nat × Nat)} {D : List Nat} (h : orderOf n es = some D) {k : Nat} (hk : k < n) : k ∈ D :=
  nodup_full (ordTo_ok n D h).2.nodup (ordTo_ok n D h).2.lt (ordTo_ok n D h).1 hk
/-- An edge leads to a later node. -/
theorem ord_edge {n : Nat} {es : List (Nat × Nat)} {D : List Nat} (h : orderOf n es = some D) {i k : Nat} (hk : k ∈ nextsS n es i) : i ∈ D ∧ k ∈ D ∧ D.idxOf i < D.idxOf k := by
  obtain ⟨h1, h2⟩ := nextsS_mem.1 hk
  have hd := ord_all h h1
  obtain ⟨p1, p2⟩ := (ordTo_ok n D h).2.pre (i, k) h2 hd
  exact ⟨p1, hd, p2⟩
theorem idx_split {a b : List Nat} {i k : Nat} (hnd : (a ++ i :: b).Nodup) (hk : k ∈ a ++ i :: b) (h : (a ++ i :: b).idxOf i < (a ++ i :: b).idxOf k) : k ∈ b := by
  have hia : i ∉ a := fun hm => (List.nodup_append.1 hnd).2.2 i hm i (by simp) rfl
  rw [List.idxOf_append, if_neg hia, List.idxOf_cons_self, List.idxOf_append] at h
  rcases List.mem_append.1 hk with h1 | h1
  · rw [if_pos h1] at h
    have := List.idxOf_lt_length_of_mem h1
    omega
  · rcases List.mem_cons.1 h1 with h2 | h2
    · subst h2
      rw [if_neg hia, List.idxOf_cons_self] at h
      omega
    · exact h2
theorem best_is {n : Nat} {es : List (Nat × Nat)} {ws : List Int} {D : List Nat} (h : orderOf n es = some D) {i : Nat} (hi : i < n) : BestAt n es ws (bestOf n es ws D) i := by
  have ho := (ordTo_ok n D h).2
  refine (best_inv (es := es) (ws := ws) D.reverse (fun j hj => ho.lt j (by simpa using hj)) ((List.reverse_perm D).nodup_iff.2 ho.nodup) (fun l1 l2 j e k hk => ?_)).1 i (by simpa using ord_all h hi)
  have e2 : D = l2.reverse ++ j :: l1.reverse := by
    have := congrArg List.reverse e
    simpa using this
  obtain ⟨_, p2, p3⟩ := ord_edge h hk
  have hnd := ho.nodup
  rw [e2] at p2 p3 hnd
  have := idx_split hnd p2 p3
  simpa using this

/-- The walk along the sums: each next node is the first whose sum is what is left. -/
def longWalk (n : Nat) (es : List (Nat × Nat)) (ws A : List Int) : Nat → Nat → Int → List Nat
  | 0, _, _ => []
  | f + 1, x, r => if r ≤ 0 then [] else match (nextsS n es x).find? (fun k => A.getD k 0 == r) with
    | some k => k :: longWalk n es ws A f k (r - ws.getD k 0)
    | none => []
theorem longWalk_end {n : Nat} {es : List (Nat × Nat)} {ws A : List Int} {f x : Nat} {r : Int} (h : r ≤ 0) : longWalk n es ws A f x r = [] := by
  cases f with
  | zero => rfl
  | succ f => rw [longWalk, if_pos h]
theorem longWalk_step {n : Nat} {es : List (Nat × Nat)} {ws A : List Int} {f x k : Nat} {r : Int} (h : 0 < r) (hf : (nextsS n es x).find? (fun k => A.getD k 0 == r) = some k) : longWalk n es ws A (f + 1) x r = k :: longWalk n es ws A f k (r - ws.getD k 0) := by
  rw [longWalk, if_neg (by omega), hf]
/-- A longest path. -/
def longOf (n : Nat) (es : List (Nat × Nat)) (ws : List Int) (D : List Nat) : Int × List Nat :=
  let A := bestOf n es ws D
  let m := Lib.maxOf A
  let x := (idxOf A m).toNat
  (m, x :: longWalk n es ws A n x (m - ws.getD x 0))
end Go.Proofs.Ythhhcaleoiopgaa
