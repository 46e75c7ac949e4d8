/-
  Directed graphs: how far each node is from one, plain; the array and the queue of the search.
-/
import Derived.Test.YthhhcaleoiopgaaQue
import Derived.Test.YthhhcaleoiopgaaNxP
namespace Go.Proofs.Ythhhcaleoiopgaa
open Go.RowKit
set_option linter.unusedVariables false

/-- d is the number of edges to b. -/
structure IsFar (es : List (Nat × Nat)) (b : Nat) (d : Nat → Int) : Prop where
  zero : d b = 0
  from_ : ∀ v, d v = -1 ∨ (v = b ∧ d v = 0) ∨ (1 ≤ d v ∧ ∃ k, (v, k) ∈ es ∧ d k = d v - 1)
  to_ : ∀ v, 0 ≤ d v → ∀ i, (i, v) ∈ es → 0 ≤ d i ∧ d i ≤ d v + 1

theorem IsFar.le {es : List (Nat × Nat)} {b : Nat} {d d' : Nat → Int} (h : IsFar es b d) (h' : IsFar es b d') : ∀ (k : Nat) v, d v = k → 0 ≤ d' v ∧ d' v ≤ k := by
  intro k
  induction k with
  | zero =>
    intro v hv
    rcases h.from_ v with h1 | ⟨rfl, h1⟩ | ⟨h1, _⟩
    · omega
    · rw [h'.zero]; omega
    · omega
  | succ k ih =>
    intro v hv
    rcases h.from_ v with h1 | ⟨rfl, h1⟩ | ⟨h1, i, hi, ho⟩
    · omega
    · omega
    · obtain ⟨a1, a2⟩ := ih i (by omega)
      have := h'.to_ i a1 v hi
      omega

theorem IsFar.unique {es : List (Nat × Nat)} {b : Nat} {d d' : Nat → Int} (h : IsFar es b d) (h' : IsFar es b d') : d = d' := by
  funext v
  have lo : ∀ v, d v = -1 ∨ 0 ≤ d v := fun v => by rcases h.from_ v with h1 | ⟨_, h1⟩ | ⟨h1, _⟩ <;> omega
  have lo' : ∀ v, d' v = -1 ∨ 0 ≤ d' v := fun v => by rcases h'.from_ v with h1 | ⟨_, h1⟩ | ⟨h1, _⟩ <;> omega
  rcases lo v with h1 | h1
  · rcases lo' v with h2 | h2
    · omega
    · obtain ⟨k, hk⟩ := Int.eq_ofNat_of_zero_le h2
      have := h'.le h k v hk
      omega
  · obtain ⟨k, hk⟩ := Int.eq_ofNat_of_zero_le h1
    have a1 := h.le h' k v hk
    obtain ⟨k', hk'⟩ := Int.eq_ofNat_of_zero_le a1.1
    have a2 := h'.le h k' v hk'
    omega

/-! ### the search with a queue -/
def upd (a : Nat → Int) (k : Nat) (x : Int) : Nat → Int := fun v => if v = k then x else a v

structure Bfd (es : List (Nat × Nat)) (b : Nat) (a : Nat → Int) (q : List Nat) : Prop where
  zero : a b = 0
  from_ : ∀ v, a v = -1 ∨ (v = b ∧ a v = 0) ∨ (1 ≤ a v ∧ ∃ k, (v, k) ∈ es ∧ a k = a v - 1)
  seen : ∀ v ∈ q, 0 ≤ a v
  sorted : q.Pairwise fun u v => a u ≤ a v
  near : ∀ h t, q = h :: t → ∀ v, a v ≤ a h + 1
  done : ∀ v, 0 ≤ a v → v ∉ q → ∀ i, (i, v) ∈ es → 0 ≤ a i ∧ a i ≤ a v + 1

theorem Bfd.start (es : List (Nat × Nat)) (b : Nat) : Bfd es b (upd (fun _ => -1) b 0) [b] := by
  have h0 : upd (fun _ => (-1 : Int)) b 0 b = 0 := by simp [upd]
  have h1 : ∀ v, v ≠ b → upd (fun _ => (-1 : Int)) b 0 v = -1 := fun v hv => by simp [upd, hv]
  refine ⟨h0, fun v => ?_, fun v hv => ?_, by simp, fun h t e v => ?_, fun v hv hn => ?_⟩
  · by_cases e : v = b
    · subst e; exact .inr (.inl ⟨rfl, h0⟩)
    · exact .inl (h1 v e)
  · rw [List.mem_singleton.1 hv, h0]; omega
  · cases e
    rw [h0]
    by_cases e : v = b
    · subst e; rw [h0]; omega
    · rw [h1 v e]; omega
  · have : v ≠ b := fun e => hn (by simp [e])
    rw [h1 v this] at hv
    omega

theorem Bfd.finish {es : List (Nat × Nat)} {b : Nat} {a : Nat → Int} (h : Bfd es b a []) : IsFar es b a :=
  ⟨h.zero, h.from_, fun v hv => h.done v hv (by simp)⟩

/-- Within a round: the head's 'row' has been looked at. -/
structure Bfe (es : List (Nat × Nat)) (b : Nat) (a : Nat → Int) (h : Nat) (t : List Nat) (row : List Nat) : Prop where
  all : Bfd es b a (h :: t)
  mine : ∀ i ∈ row, 0 ≤ a i ∧ a i ≤ a h + 1

theorem Bfe.start {es : List (Nat × Nat)} {b : Nat} {a : Nat → Int} {h : Nat} {t : List Nat} (hb : Bfd es b a (h :: t)) : Bfe es b a h t [] := ⟨hb, by simp⟩

theorem Bfe.old {es : List (Nat × Nat)} {b : Nat} {a : Nat → Int} {h : Nat} {t row : List Nat} (hb : Bfe es b a h t row) {i : Nat} (hi : 0 ≤ a i) : Bfe es b a h t (row ++ [i]) := by
  refine ⟨hb.all, fun j hj => ?_⟩
  rcases List.mem_append.1 hj with hj | hj
  · exact hb.mine j hj
  · rw [List.mem_singleton.1 hj]; exact ⟨hi, hb.all.near h t rfl _⟩

theorem Bfe.new {es : List (Nat × Nat)} {b : Nat} {a : Nat → Int} {h : Nat} {t row : List Nat} (hb : Bfe es b a h t row) {k : Nat} (hinc : (k, h) ∈ es) (hi : a k < 0) :
    Bfe es b (upd a k (a h + 1)) h (t ++ [k]) (row ++ [k]) := by
  have hA := hb.all
  have hh : 0 ≤ a h := hA.seen h (by simp)
  have hkh : h ≠ k := fun e => by rw [← e] at hi; omega
  have e1 : upd a k (a h + 1) k = a h + 1 := by simp [upd]
  have e2 : ∀ v, v ≠ k → upd a k (a h + 1) v = a v := fun v hv => by simp [upd, hv]
  have e3 : ∀ v, 0 ≤ a v → upd a k (a h + 1) v = a v := fun v hv => e2 v (fun e => by rw [e] at hv; omega)
  refine ⟨⟨?_, fun v => ?_, fun v hv => ?_, ?_, fun h' t' e v => ?_, fun v hv hn j hj => ?_⟩, fun j hj => ?_⟩
  · rw [e3 b (by rw [hA.zero]; omega)]; exact hA.zero
  · by_cases e : v = k
    · subst e
      rw [e1]
      exact .inr (.inr ⟨by omega, h, hinc, by rw [e3 h hh]; omega⟩)
    · rw [e2 v e]
      rcases hA.from_ v with h1 | h1 | ⟨h1, j, h2, h4⟩
      · exact .inl h1
      · exact .inr (.inl h1)
      · exact .inr (.inr ⟨h1, j, h2, by rw [e3 _ (by omega)]; exact h4⟩)
  · rw [← List.cons_append, List.mem_append] at hv
    rcases hv with hv | hv
    · rw [e3 v (hA.seen v hv)]; exact hA.seen v hv
    · rw [List.mem_singleton.1 hv, e1]; omega
  · rw [← List.cons_append, List.pairwise_append]
    refine ⟨?_, by simp, fun u hu v hv => ?_⟩
    · refine List.Pairwise.imp_of_mem ?_ hA.sorted
      intro u v hu hv huv
      rw [e3 u (hA.seen u hu), e3 v (hA.seen v hv)]
      exact huv
    · rw [List.mem_singleton.1 hv, e1, e3 u (hA.seen u hu)]
      exact hA.near h t rfl u
  · cases e
    rw [e3 h hh]
    by_cases e : v = k
    · subst e; rw [e1]; omega
    · rw [e2 v e]; exact hA.near h t rfl v
  · rw [← List.cons_append, List.mem_append, not_or] at hn
    have hvk : v ≠ k := fun e => hn.2 (by simp [e])
    rw [e2 v hvk] at hv ⊢
    have := hA.done v hv hn.1 j hj
    rw [e3 _ this.1]
    exact this
  · rw [e3 h hh]
    rcases List.mem_append.1 hj with hj | hj
    · have := hb.mine j hj
      rw [e3 _ this.1]; exact this
    · rw [List.mem_singleton.1 hj, e1]; omega

/-- The round's end: the head has been looked at whole. -/
theorem Bfe.next {es : List (Nat × Nat)} {b : Nat} {a : Nat → Int} {h : Nat} {t row : List Nat} (hb : Bfe es b a h t row) (hrow : ∀ i, (i, h) ∈ es → i ∈ row) : Bfd es b a t := by
  have hA := hb.all
  refine ⟨hA.zero, hA.from_, fun v hv => hA.seen v (by simp [hv]), (List.pairwise_cons.1 hA.sorted).2, fun h' t' e v => ?_, fun v hv hn i hi => ?_⟩
  · have h1 := hA.near h t rfl v
    have h2 := (List.pairwise_cons.1 hA.sorted).1 h' (by simp [e])
    omega
  · by_cases e : v = h
    · subst e
      exact hb.mine i (hrow i hi)
    · exact hA.done v hv (by simp [e, hn]) i hi

/-! ### the edges turned -/
def flipTo (rows : List (List Nat)) : Nat → List (Nat × Nat)
  | 0 => []
  | i + 1 => flipTo rows i ++ (rows.getD i []).map fun k => (k, i)
theorem flipTo_mem {rows : List (List Nat)} {k i : Nat} : ∀ m, (k, i) ∈ flipTo rows m ↔ i < m ∧ k ∈ rows.getD i [] := by
  intro m
  induction m with
  | zero => simp [flipTo]
  | succ m ih =>
    rw [flipTo, List.mem_append, ih, List.mem_map]
    constructor
    · rintro (⟨h1, h2⟩ | ⟨a, h1, h2⟩)
      · exact ⟨by omega, h2⟩
      · cases h2
        exact ⟨by omega, h1⟩
    · rintro ⟨h1, h2⟩
      rcases Nat.lt_or_ge i m with h | h
      · exact .inl ⟨h, h2⟩
      · obtain rfl : i = m := by omega
        exact .inr ⟨k, h2, rfl⟩
theorem flipTo_len {rows : List (List Nat)} {n : Nat} (h : ∀ r ∈ rows, r.length ≤ n) : ∀ m, (flipTo rows m).length ≤ m * n := by
  intro m
  induction m with
  | zero => simp [flipTo]
  | succ m ih =>
    rw [flipTo, List.length_append, List.length_map, Nat.succ_mul]
    have : (rows.getD m []).length ≤ n := by
      rw [List.getD_eq_getElem?_getD]
      cases hr : rows[m]? with
      | none => simp
      | some r => exact h r (List.mem_of_getElem? hr)
    omega
/-- How many numbers are negative. -/
def neg (A : List Int) : Nat := A.countP fun x => decide (x < 0)
theorem neg_set (A : List Int) (k : Nat) (x y : Int) (hx : A[k]? = some x) (h : x < 0) (hy : 0 ≤ y) : neg (A.set k y) + 1 = neg A := by
  induction A generalizing k with
  | nil => simp at hx
  | cons z r ih =>
    cases k with
    | zero =>
      simp only [List.getElem?_cons_zero, Option.some.injEq] at hx
      subst hx
      simp only [List.set_cons_zero, neg, List.countP_cons]
      have h1 : decide (y < 0) = false := by simp; omega
      have h2 : decide (z < 0) = true := by simp; omega
      simp [h1, h2]
    | succ k =>
      simp only [List.getElem?_cons_succ] at hx
      have := ih k hx
      simp only [neg, List.set_cons_succ, List.countP_cons] at this ⊢
      omega

def ofList (A : List Int) : Nat → Int := fun v => A.getD v (-1)
theorem ofList_get {A : List Int} {k : Nat} {x : Int} (h : A[k]? = some x) : ofList A k = x := by unfold ofList; simp [List.getD, h]
theorem ofList_set {A : List Int} {k : Nat} {x : Int} (h : k < A.length) : ofList (A.set k x) = upd (ofList A) k x := by
  funext v
  unfold ofList upd
  by_cases e : v = k
  · subst e; simp [List.getD, h]
  · rw [if_neg e]
    simp only [List.getD]
    rw [List.getElem?_set_ne (fun e' => e e'.symm)]
theorem ofList_rep (n : Nat) : ofList (List.replicate n (-1)) = fun _ => -1 := by
  funext v
  unfold ofList
  simp only [List.getD]
  cases h : (List.replicate n (-1 : Int))[v]? with
  | none => rfl
  | some x =>
    have := (List.getElem?_eq_some_iff.1 h).2
    simp at this
    simp [this.symm]

structure BQ (w : World) (GA capA n : Nat) (wr : World) (g off cap : Nat) (ql : List Nat) (A : List Int) : Prop where
  que : Que wr w.heap.size 3 natf g off cap ql
  own : Own wr w.heap.size 3 intf (.slice (some ⟨GA, 0, none⟩) n capA) A
  len : A.length = n
  ne : g ≠ GA
  low : ∀ v ∈ ql, v < n
  bd : ∀ v, ofList A v + neg A ≤ n
  below : Below w.heap.size w wr

section
variable {w wr w1 : World} {GA capA n g off cap : Nat} {ql : List Nat} {A : List Int}
theorem BQ.of_below (h : BQ w GA capA n wr g off cap ql A) (hb : Below wr.heap.size wr w1) : BQ w GA capA n w1 g off cap ql A :=
  ⟨h.que.below hb, h.own.below hb, h.len, h.ne, h.low, h.bd, h.below.trans (hb.mono h.below.size)⟩
theorem BQ.push (h : BQ w GA capA n wr g off cap ql A) {k : Nat} {z y : Int} (hk : A[k]? = some z) (hz : z < 0) (hy : 0 ≤ y) (hyb : y + neg A ≤ n + 1) {w2 : World} {g' off' cap' : Nat}
    (hq : Que w2 w.heap.size 3 natf g' off' cap' (ql ++ [k])) (hg : (wr.setCell ⟨GA, k, none⟩ (intf y)).grownBy w2 (some g)) (hat : (g' = g ∧ off' = off) ∨ (wr.heap.size ≤ g' ∧ off' = 0)) :
    BQ w GA capA n w2 g' off' cap' (ql ++ [k]) (A.set k y) := by
  have hneg := neg_set A k z y hk hz hy
  have hkl : k < A.length := (List.getElem?_eq_some_iff.1 hk).1
  have hga := (h.own.lt GA rfl)
  refine ⟨hq, ?_, by rw [List.length_set]; exact h.len, ?_, fun v hv => ?_, fun v => ?_, ?_⟩
  · have o1 := h.own.set k y
    exact o1.only hg (fun g0 e => by cases e; exact fun e => h.ne (by injection e with e; exact e.symm))
  · rcases hat with ⟨rfl, _⟩ | ⟨h1, _⟩
    · exact h.ne
    · omega
  · rcases List.mem_append.1 hv with hv | hv
    · exact h.low v hv
    · rw [List.mem_singleton.1 hv]; have := h.len; omega
  · rw [ofList_set hkl]
    unfold upd
    have hn : (neg A : Int) = (neg (A.set k y) : Int) + 1 := by omega
    split
    · omega
    · have := h.bd v; omega
  · have b1 : Below w.heap.size w (wr.setCell ⟨GA, k, none⟩ (intf y)) := h.below.setCell hga.1 _
    have hsz := h.below.size
    exact below_grown b1 hg (by simpa using hsz) (fun g0 e => by cases e; exact h.que.lt.1)
theorem BQ.tail {x : Nat} (h : BQ w GA capA n wr g off cap (x :: ql) A) : BQ w GA capA n wr g (off + 1) (cap - 1) ql A :=
  ⟨h.que.tail, h.own, h.len, h.ne, fun v hv => h.low v (by simp [hv]), h.bd, h.below⟩
theorem BQ.last {x : Nat} (h : BQ w GA capA n wr g off 1 (x :: ql) A) : BQ w GA capA n wr g off 0 ql A :=
  ⟨h.que.last, h.own, h.len, h.ne, fun v hv => h.low v (by simp [hv]), h.bd, h.below⟩
end

theorem neg_rep (n : Nat) : neg (List.replicate n (-1)) = n := by
  unfold neg
  rw [List.countP_replicate]; simp

theorem find_first {r : List Nat} {p : Nat → Bool} {j i : Nat} (hi : r[j]? = some i) (hp : p i = true) (hno : ∀ (k : Nat) x, k < j → r[k]? = some x → p x = false) : r.find? p = some i := by
  rw [List.find?_eq_some_iff_append]
  refine ⟨hp, r.take j, r.drop (j + 1), ?_, fun a ha => ?_⟩
  · obtain ⟨hj, e⟩ := List.getElem?_eq_some_iff.1 hi
    rw [← e, List.getElem_cons_drop, List.take_append_drop]
  · obtain ⟨k, hk, rfl⟩ := List.getElem_of_mem ha
    have hkj : k < j := by simp at hk; omega
    have h1 : k < r.length := by simp at hk; omega
    have := hno k (r[k]'h1) hkj (List.getElem?_eq_getElem h1)
    rw [List.getElem_take]
    simp [this]

end Go.Proofs.Ythhhcaleoiopgaa
