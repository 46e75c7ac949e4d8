/-
  Graph, plain: the rows of edges at each node; ways by a list of edges.
-/
import Derived.Test.YtcaeemcobgopmaaGrQ
import Derived.Test.YtcaeemcobgopmaaGrE
namespace Go.Proofs.Ytcaeemcobgopmaa
set_option linter.unusedVariables false

def besRow (ns : List (Nat × Nat)) (U : Nat → Bool) (k v : Nat) : List Nat := (List.range k).filter fun i => U i && inc ns i v

theorem besRow_succ (ns : List (Nat × Nat)) (U : Nat → Bool) (k v : Nat) : besRow ns U (k + 1) v = if U k = true ∧ inc ns k v = true then besRow ns U k v ++ [k] else besRow ns U k v := by
  unfold besRow
  rw [List.range_succ, List.filter_append]
  by_cases h : U k = true ∧ inc ns k v = true
  · rw [if_pos h]; simp [h.1, h.2]
  · rw [if_neg h]
    have : (U k && inc ns k v) = false := by
      cases hU : U k <;> cases hI : inc ns k v <;> simp_all
    simp [this]

theorem addAt_getElem {rows : List (List Nat)} {k y v : Nat} {r : List Nat} (h : rows[v]? = some r) : (addAt rows k y)[v]? = some (if k = v then r ++ [y] else r) := by
  by_cases e : k = v
  · subst e
    rw [addAt_get h, List.getElem?_set_self (List.getElem?_eq_some_iff.1 h).1, if_pos rfl]
  · unfold addAt
    rw [List.getElem?_set_ne e, if_neg e]; exact h

theorem besTo_get {n : Nat} {ns : List (Nat × Nat)} {U : Nat → Bool} (he : Ends n ns) : ∀ k, k ≤ ns.length → ∀ v, v < n → (besTo n ns U k)[v]? = some (besRow ns U k v) := by
  intro k
  induction k with
  | zero => intro _ v hv; simp [besTo, besRow, hv]
  | succ k ih =>
    intro hk v hv
    have hlt : k < ns.length := by omega
    obtain ⟨e, hek⟩ : ∃ e, ns[k]? = some e := ⟨_, List.getElem?_eq_getElem hlt⟩
    have hends := he k e hek
    have ih' := ih (by omega) v hv
    rw [besTo, hek, besRow_succ]
    simp only
    have hinc : inc ns k v = true ↔ (e.1 = v ∨ e.2 = v) := by unfold inc; rw [hek]; simp
    by_cases hU : U k = true
    · rw [if_pos hU]
      rw [addAt_getElem (addAt_getElem ih')]
      by_cases h1 : e.1 = v
      · have h2 : ¬ e.2 = v := fun h => hends.2.2 (h1.trans h.symm)
        rw [if_neg h2, if_pos h1, if_pos ⟨hU, hinc.2 (.inl h1)⟩]
      · by_cases h2 : e.2 = v
        · rw [if_pos h2, if_neg h1, if_pos ⟨hU, hinc.2 (.inr h2)⟩]
        · rw [if_neg h2, if_neg h1, if_neg (fun h => by rcases hinc.1 h.2 with h | h <;> contradiction)]
    · rw [if_neg hU, if_neg (fun h => hU h.1)]; exact ih'

theorem besTo_rowOk {n : Nat} {ns : List (Nat × Nat)} {U : Nat → Bool} (he : Ends n ns) (hm : ns.length ≤ 4000) : RowOk ns U n (besTo n ns U ns.length) := by
  refine ⟨besTo_len _ _ _ _, fun v r hr => ?_⟩
  have hv : v < n := by
    have := (List.getElem?_eq_some_iff.1 hr).1
    rwa [besTo_len] at this
  rw [besTo_get he _ (Nat.le_refl _) v hv] at hr
  cases hr
  refine ⟨?_, fun i => ?_⟩
  · unfold besRow
    refine Nat.le_trans (List.length_filter_le _ _) ?_
    simp; omega
  · unfold besRow
    rw [List.mem_filter, List.mem_range, Bool.and_eq_true]
    exact ⟨fun h => h.2, fun h => ⟨inc_lt h.2, h⟩⟩

/-- The way, by the list of the edges that may be used. -/
def wayL (ns : List (Nat × Nat)) (l : List Nat) (d : Nat → Int) : Nat → Nat → List Nat
  | 0, _ => []
  | f + 1, x => match l.find? (fun i => inc ns i x && (d (oth ns i x) == d x - 1)) with
    | some i => i :: wayL ns l d f (oth ns i x)
    | none => []
/-- The first one of the shortest ways to b. -/
def wayTo (ns : List (Nat × Nat)) (U : Nat → Bool) (n b a : Nat) : List Nat :=
  wayL ns ((List.range ns.length).filter U) (distOf ns U n b) (distOf ns U n b a).toNat a

theorem find_filter {p q : Nat → Bool} (l : List Nat) : (l.filter p).find? q = l.find? (fun i => p i && q i) := by
  induction l with
  | nil => rfl
  | cons a l ih =>
    by_cases hp : p a = true
    · rw [List.filter_cons_of_pos hp, List.find?_cons, List.find?_cons, ih]
      simp [hp]
    · rw [List.filter_cons_of_neg hp, List.find?_cons, ih]
      have : p a = false := by simpa using hp
      simp [this]

theorem wayOf_eq {n : Nat} {ns : List (Nat × Nat)} {U : Nat → Bool} (he : Ends n ns) {d : Nat → Int} {b : Nat} : ∀ (f x : Nat), x < n → walkBack ns (besTo n ns U ns.length) d f x = wayL ns ((List.range ns.length).filter U) d f x := by
  intro f
  induction f with
  | zero => intro x _; rfl
  | succ f ih =>
    intro x hx
    have hrow : (besTo n ns U ns.length).getD x [] = besRow ns U ns.length x := by
      simp [List.getD, besTo_get he _ (Nat.le_refl _) x hx]
    rw [walkBack, wayL, hrow]
    have hf : (besRow ns U ns.length x).find? (fun i => d (oth ns i x) == d x - 1) = ((List.range ns.length).filter U).find? (fun i => inc ns i x && (d (oth ns i x) == d x - 1)) := by
      unfold besRow
      rw [find_filter, find_filter]
      congr 1
      funext i
      rw [Bool.and_assoc]
    rw [hf]
    cases hc : ((List.range ns.length).filter U).find? (fun i => inc ns i x && (d (oth ns i x) == d x - 1)) with
    | none => rfl
    | some i =>
      simp only
      have := List.find?_some hc
      rw [Bool.and_eq_true] at this
      rw [ih _ (oth_lt he this.1)]

theorem way_eq {n : Nat} {ns : List (Nat × Nat)} {U : Nat → Bool} (he : Ends n ns) {d : Nat → Int} {a b : Nat} (ha : a < n) (hb : b < n) (hd : IsDist ns U b d) :
    d = distOf ns U n b ∧ wayOf ns (besTo n ns U ns.length) d a = wayTo ns U n b a := by
  have h1 : d = distOf ns U n b := hd.unique (farOf_dist hb he)
  refine ⟨h1, ?_⟩
  unfold wayOf wayTo
  rw [wayOf_eq (b := b) he _ a ha, ← h1]

end Go.Proofs.Ytcaeemcobgopmaa
