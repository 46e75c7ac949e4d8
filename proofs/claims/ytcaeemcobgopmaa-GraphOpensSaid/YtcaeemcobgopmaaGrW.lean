/-
  Graph, plain: distances and shortest paths; no program in sight.
-/
import Derived.Test.YtcaeemcobgopmaaGrM
namespace Go.Proofs.Ytcaeemcobgopmaa
set_option linter.unusedVariables false

def inc (ns : List (Nat × Nat)) (i v : Nat) : Bool := match ns[i]? with | some e => e.1 == v || e.2 == v | none => false
def oth (ns : List (Nat × Nat)) (i v : Nat) : Nat := match ns[i]? with | some e => e.1 + e.2 - v | none => 0

theorem oth_fst {ns : List (Nat × Nat)} {i : Nat} {e : Nat × Nat} (h : ns[i]? = some e) : oth ns i e.1 = e.2 := by unfold oth; rw [h]; simp
theorem oth_snd {ns : List (Nat × Nat)} {i : Nat} {e : Nat × Nat} (h : ns[i]? = some e) : oth ns i e.2 = e.1 := by unfold oth; rw [h]; simp
theorem inc_cases {ns : List (Nat × Nat)} {i v : Nat} (h : inc ns i v = true) : ∃ e, ns[i]? = some e ∧ ((e.1 = v ∧ oth ns i v = e.2) ∨ (e.2 = v ∧ oth ns i v = e.1)) := by
  unfold inc at h
  cases he : ns[i]? with
  | none => rw [he] at h; cases h
  | some e =>
    rw [he] at h
    simp only [Bool.or_eq_true, beq_iff_eq] at h
    refine ⟨e, rfl, ?_⟩
    rcases h with rfl | rfl
    · exact .inl ⟨rfl, oth_fst he⟩
    · exact .inr ⟨rfl, oth_snd he⟩
theorem inc_oth {ns : List (Nat × Nat)} {i v : Nat} (h : inc ns i v = true) : inc ns i (oth ns i v) = true ∧ oth ns i (oth ns i v) = v := by
  obtain ⟨e, he, h⟩ := inc_cases h
  rcases h with ⟨rfl, ho⟩ | ⟨rfl, ho⟩
  · rw [ho]; exact ⟨by unfold inc; rw [he]; simp, oth_snd he⟩
  · rw [ho]; exact ⟨by unfold inc; rw [he]; simp, oth_fst he⟩
theorem inc_lt {ns : List (Nat × Nat)} {i v : Nat} (h : inc ns i v = true) : i < ns.length := by
  obtain ⟨e, he, _⟩ := inc_cases h
  exact (List.getElem?_eq_some_iff.1 he).1

/-- d is the number of edges to b, over the edges in U. -/
structure IsDist (ns : List (Nat × Nat)) (U : Nat → Bool) (b : Nat) (d : Nat → Int) : Prop where
  zero : d b = 0
  from_ : ∀ v, d v = -1 ∨ (v = b ∧ d v = 0) ∨ (1 ≤ d v ∧ ∃ i, U i = true ∧ inc ns i v = true ∧ d (oth ns i v) = d v - 1)
  to_ : ∀ v, 0 ≤ d v → ∀ i, U i = true → inc ns i v = true → 0 ≤ d (oth ns i v) ∧ d (oth ns i v) ≤ d v + 1

theorem IsDist.le {ns : List (Nat × Nat)} {U : Nat → Bool} {b : Nat} {d d' : Nat → Int} (h : IsDist ns U b d) (h' : IsDist ns U b d') : ∀ (k : Nat) v, d v = k → 0 ≤ d' v ∧ d' v ≤ k := by
  intro k
  induction k with
  | zero =>
    intro v hv
    rcases h.from_ v with h1 | ⟨rfl, h1⟩ | ⟨h1, _⟩
    · omega
    · rw [h'.zero]; omega
    · omega
  | succ k ih =>
    intro v hv
    rcases h.from_ v with h1 | ⟨rfl, h1⟩ | ⟨h1, i, hU, hi, ho⟩
    · omega
    · omega
    · obtain ⟨a1, a2⟩ := ih (oth ns i v) (by omega)
      obtain ⟨i1, i2⟩ := inc_oth hi
      have := h'.to_ (oth ns i v) a1 i hU i1
      rw [i2] at this
      omega

theorem IsDist.unique {ns : List (Nat × Nat)} {U : Nat → Bool} {b : Nat} {d d' : Nat → Int} (h : IsDist ns U b d) (h' : IsDist ns U b d') : d = d' := by
  funext v
  have lo : ∀ v, d v = -1 ∨ 0 ≤ d v := fun v => by rcases h.from_ v with h1 | ⟨_, h1⟩ | ⟨h1, _⟩ <;> omega
  have lo' : ∀ v, d' v = -1 ∨ 0 ≤ d' v := fun v => by rcases h'.from_ v with h1 | ⟨_, h1⟩ | ⟨h1, _⟩ <;> omega
  rcases lo v with h1 | h1
  · rcases lo' v with h2 | h2
    · omega
    · obtain ⟨k, hk⟩ := Int.eq_ofNat_of_zero_le h2
      have := h'.le h k v hk
      omega
  · obtain ⟨k, hk⟩ := Int.eq_ofNat_of_zero_le h1
    have a1 := h.le h' k v hk
    obtain ⟨k', hk'⟩ := Int.eq_ofNat_of_zero_le a1.1
    have a2 := h'.le h k' v hk'
    omega

/-! ### the search with a queue -/
def upd (a : Nat → Int) (k : Nat) (x : Int) : Nat → Int := fun v => if v = k then x else a v

structure Bfs (ns : List (Nat × Nat)) (U : Nat → Bool) (b : Nat) (a : Nat → Int) (q : List Nat) : Prop where
  zero : a b = 0
  from_ : ∀ v, a v = -1 ∨ (v = b ∧ a v = 0) ∨ (1 ≤ a v ∧ ∃ i, U i = true ∧ inc ns i v = true ∧ a (oth ns i v) = a v - 1)
  seen : ∀ v ∈ q, 0 ≤ a v
  sorted : q.Pairwise fun u v => a u ≤ a v
  near : ∀ h t, q = h :: t → ∀ v, a v ≤ a h + 1
  done : ∀ v, 0 ≤ a v → v ∉ q → ∀ i, U i = true → inc ns i v = true → 0 ≤ a (oth ns i v) ∧ a (oth ns i v) ≤ a v + 1

theorem Bfs.start (ns : List (Nat × Nat)) (U : Nat → Bool) (b : Nat) : Bfs ns U b (upd (fun _ => -1) b 0) [b] := by
  have h0 : upd (fun _ => (-1 : Int)) b 0 b = 0 := by simp [upd]
  have h1 : ∀ v, v ≠ b → upd (fun _ => (-1 : Int)) b 0 v = -1 := fun v hv => by simp [upd, hv]
  refine ⟨h0, fun v => ?_, fun v hv => ?_, by simp, fun h t e v => ?_, fun v hv hn => ?_⟩
  · by_cases e : v = b
    · subst e; exact .inr (.inl ⟨rfl, h0⟩)
    · exact .inl (h1 v e)
  · rw [List.mem_singleton.1 hv, h0]; omega
  · cases e
    rw [h0]
    by_cases e : v = b
    · subst e; rw [h0]; omega
    · rw [h1 v e]; omega
  · have : v ≠ b := fun e => hn (by simp [e])
    rw [h1 v this] at hv
    omega

theorem Bfs.finish {ns : List (Nat × Nat)} {U : Nat → Bool} {b : Nat} {a : Nat → Int} (h : Bfs ns U b a []) : IsDist ns U b a :=
  ⟨h.zero, h.from_, fun v hv => h.done v hv (by simp)⟩

/-- Within a round: the head's edges 'row' have been looked at. -/
structure Bfr (ns : List (Nat × Nat)) (U : Nat → Bool) (b : Nat) (a : Nat → Int) (h : Nat) (t : List Nat) (row : List Nat) : Prop where
  all : Bfs ns U b a (h :: t)
  mine : ∀ i ∈ row, 0 ≤ a (oth ns i h) ∧ a (oth ns i h) ≤ a h + 1

theorem Bfr.start {ns : List (Nat × Nat)} {U : Nat → Bool} {b : Nat} {a : Nat → Int} {h : Nat} {t : List Nat} (hb : Bfs ns U b a (h :: t)) : Bfr ns U b a h t [] := ⟨hb, by simp⟩

theorem Bfr.old {ns : List (Nat × Nat)} {U : Nat → Bool} {b : Nat} {a : Nat → Int} {h : Nat} {t row : List Nat} (hb : Bfr ns U b a h t row) {i : Nat} (hi : 0 ≤ a (oth ns i h)) : Bfr ns U b a h t (row ++ [i]) := by
  refine ⟨hb.all, fun j hj => ?_⟩
  rcases List.mem_append.1 hj with hj | hj
  · exact hb.mine j hj
  · rw [List.mem_singleton.1 hj]; exact ⟨hi, hb.all.near h t rfl _⟩

theorem Bfr.new {ns : List (Nat × Nat)} {U : Nat → Bool} {b : Nat} {a : Nat → Int} {h : Nat} {t row : List Nat} (hb : Bfr ns U b a h t row) {i : Nat} (hU : U i = true) (hinc : inc ns i h = true) (hi : a (oth ns i h) < 0) :
    Bfr ns U b (upd a (oth ns i h) (a h + 1)) h (t ++ [oth ns i h]) (row ++ [i]) := by
  have hA := hb.all
  obtain ⟨k, hk⟩ : ∃ k, oth ns i h = k := ⟨_, rfl⟩
  rw [hk] at hi ⊢
  have hh : 0 ≤ a h := hA.seen h (by simp)
  have hkh : h ≠ k := fun e => by rw [← e] at hi; omega
  have e1 : upd a k (a h + 1) k = a h + 1 := by simp [upd]
  have e2 : ∀ v, v ≠ k → upd a k (a h + 1) v = a v := fun v hv => by simp [upd, hv]
  have e3 : ∀ v, 0 ≤ a v → upd a k (a h + 1) v = a v := fun v hv => e2 v (fun e => by rw [e] at hv; omega)
  have i2 := inc_oth hinc
  rw [hk] at i2
  refine ⟨⟨?_, fun v => ?_, fun v hv => ?_, ?_, fun h' t' e v => ?_, fun v hv hn j hU' hj => ?_⟩, fun j hj => ?_⟩
  · rw [e3 b (by rw [hA.zero]; omega)]; exact hA.zero
  · by_cases e : v = k
    · subst e
      rw [e1]
      exact .inr (.inr ⟨by omega, i, hU, i2.1, by rw [i2.2, e3 h hh]; omega⟩)
    · rw [e2 v e]
      rcases hA.from_ v with h1 | h1 | ⟨h1, j, h2, h3, h4⟩
      · exact .inl h1
      · exact .inr (.inl h1)
      · exact .inr (.inr ⟨h1, j, h2, h3, by rw [e3 _ (by omega)]; exact h4⟩)
  · rw [← List.cons_append, List.mem_append] at hv
    rcases hv with hv | hv
    · rw [e3 v (hA.seen v hv)]; exact hA.seen v hv
    · rw [List.mem_singleton.1 hv, e1]; omega
  · rw [← List.cons_append, List.pairwise_append]
    refine ⟨?_, by simp, fun u hu v hv => ?_⟩
    · refine List.Pairwise.imp_of_mem ?_ hA.sorted
      intro u v hu hv huv
      rw [e3 u (hA.seen u hu), e3 v (hA.seen v hv)]
      exact huv
    · rw [List.mem_singleton.1 hv, e1, e3 u (hA.seen u hu)]
      exact hA.near h t rfl u
  · cases e
    rw [e3 h hh]
    by_cases e : v = k
    · subst e; rw [e1]; omega
    · rw [e2 v e]; exact hA.near h t rfl v
  · rw [← List.cons_append, List.mem_append, not_or] at hn
    have hvk : v ≠ k := fun e => hn.2 (by simp [e])
    rw [e2 v hvk] at hv ⊢
    have := hA.done v hv hn.1 j hU' hj
    rw [e3 _ this.1]
    exact this
  · rw [e3 h hh]
    rcases List.mem_append.1 hj with hj | hj
    · have := hb.mine j hj
      rw [e3 _ this.1]; exact this
    · rw [List.mem_singleton.1 hj, hk, e1]; omega

/-- The round's end: the head has been looked at whole. -/
theorem Bfr.next {ns : List (Nat × Nat)} {U : Nat → Bool} {b : Nat} {a : Nat → Int} {h : Nat} {t row : List Nat} (hb : Bfr ns U b a h t row) (hrow : ∀ i, U i = true → inc ns i h = true → i ∈ row) : Bfs ns U b a t := by
  have hA := hb.all
  refine ⟨hA.zero, hA.from_, fun v hv => hA.seen v (by simp [hv]), (List.pairwise_cons.1 hA.sorted).2, fun h' t' e v => ?_, fun v hv hn i hU hi => ?_⟩
  · have h1 := hA.near h t rfl v
    have h2 := (List.pairwise_cons.1 hA.sorted).1 h' (by simp [e])
    omega
  · by_cases e : v = h
    · subst e
      exact hb.mine i (hrow i hU hi)
    · exact hA.done v hv (by simp [e, hn]) i hU hi

/-! ### the way back -/
def walkBack (ns : List (Nat × Nat)) (rows : List (List Nat)) (d : Nat → Int) : Nat → Nat → List Nat
  | 0, _ => []
  | f + 1, x => match (rows.getD x []).find? (fun i => d (oth ns i x) == d x - 1) with
    | some i => i :: walkBack ns rows d f (oth ns i x)
    | none => []
def wayOf (ns : List (Nat × Nat)) (rows : List (List Nat)) (d : Nat → Int) (x : Nat) : List Nat := walkBack ns rows d (d x).toNat x

theorem wayOf_step {ns : List (Nat × Nat)} {rows : List (List Nat)} {d : Nat → Int} {x i : Nat} {r : List Nat} (hr : rows[x]? = some r) (hf : r.find? (fun i => d (oth ns i x) == d x - 1) = some i) (hd : 1 ≤ d x) :
    wayOf ns rows d x = i :: wayOf ns rows d (oth ns i x) := by
  have hx : d (oth ns i x) = d x - 1 := by simpa using List.find?_some hf
  unfold wayOf
  obtain ⟨f, hfu⟩ : ∃ f : Nat, (d x).toNat = f + 1 := ⟨(d x).toNat - 1, by omega⟩
  rw [hfu, walkBack]
  have : rows.getD x [] = r := by simp [List.getD, hr]
  rw [this, hf]
  have e : (d (oth ns i x)).toNat = f := by omega
  rw [e]
theorem wayOf_end {ns : List (Nat × Nat)} {rows : List (List Nat)} {d : Nat → Int} {x : Nat} (hd : d x = 0) : wayOf ns rows d x = [] := by
  unfold wayOf; rw [hd]; rfl

/-- How many numbers are negative. -/
def neg (A : List Int) : Nat := A.countP fun x => decide (x < 0)
theorem neg_set (A : List Int) (k : Nat) (x y : Int) (hx : A[k]? = some x) (h : x < 0) (hy : 0 ≤ y) : neg (A.set k y) + 1 = neg A := by
  induction A generalizing k with
  | nil => simp at hx
  | cons z r ih =>
    cases k with
    | zero =>
      simp only [List.getElem?_cons_zero, Option.some.injEq] at hx
      subst hx
      simp only [List.set_cons_zero, neg, List.countP_cons]
      have h1 : decide (y < 0) = false := by simp; omega
      have h2 : decide (z < 0) = true := by simp; omega
      simp [h1, h2]
    | succ k =>
      simp only [List.getElem?_cons_succ] at hx
      have := ih k hx
      simp only [neg, List.set_cons_succ, List.countP_cons] at this ⊢
      omega

def ofList (A : List Int) : Nat → Int := fun v => A.getD v (-1)
theorem ofList_get {A : List Int} {k : Nat} {x : Int} (h : A[k]? = some x) : ofList A k = x := by unfold ofList; simp [List.getD, h]
theorem ofList_set {A : List Int} {k : Nat} {x : Int} (h : k < A.length) : ofList (A.set k x) = upd (ofList A) k x := by
  funext v
  unfold ofList upd
  by_cases e : v = k
  · subst e; simp [List.getD, h]
  · rw [if_neg e]
    simp only [List.getD]
    rw [List.getElem?_set_ne (fun e' => e e'.symm)]
theorem ofList_rep (n : Nat) : ofList (List.replicate n (-1)) = fun _ => -1 := by
  funext v
  unfold ofList
  simp only [List.getD]
  cases h : (List.replicate n (-1 : Int))[v]? with
  | none => rfl
  | some x =>
    have := (List.getElem?_eq_some_iff.1 h).2
    simp at this
    simp [this.symm]

end Go.Proofs.Ytcaeemcobgopmaa
