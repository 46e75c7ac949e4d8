/-
  Graph, plain: the least node of each part (lbl), the sets of nodes, the forest; no program in sight.
-/
import Derived.Below
namespace Go.Proofs.Ytcaeemcobgopmaa

/-- Two classes become one: the greater least node gives way to the lesser one. -/
def mrg (f : Nat → Nat) (a b : Nat) : Nat → Nat := fun i => if f i = max (f a) (f b) then min (f a) (f b) else f i

def lblFrom (f : Nat → Nat) (es : List (Nat × Nat)) : Nat → Nat := es.foldl (fun f e => mrg f e.1 e.2) f
/-- The least node that is joined to a node by the edges. -/
def lbl (es : List (Nat × Nat)) : Nat → Nat := lblFrom id es

theorem lbl_snoc (es : List (Nat × Nat)) (e : Nat × Nat) : lbl (es ++ [e]) = mrg (lbl es) e.1 e.2 := by simp [lbl, lblFrom]

theorem lbl_nil (i : Nat) : lbl [] i = i := rfl

/-- Induction over a list from its end. -/
theorem snoc_ind {α : Type} {p : List α → Prop} (h0 : p []) (h1 : ∀ l a, p l → p (l ++ [a])) (l : List α) : p l := by
  have : ∀ n (l : List α), l.length = n → p l := by
    intro n
    induction n with
    | zero => intro l hl; cases l with
      | nil => exact h0
      | cons _ _ => simp at hl
    | succ n ih =>
      intro l hl
      have hne : l ≠ [] := by intro e; subst e; simp at hl
      rw [← List.dropLast_concat_getLast hne]
      exact h1 _ _ (ih _ (by simp [hl]))
  exact this _ l rfl

theorem mrg_le {f : Nat → Nat} (a b : Nat) (i : Nat) : mrg f a b i ≤ f i := by
  unfold mrg
  split
  · rename_i h; rw [h]; omega
  · exact Nat.le_refl _

theorem lbl_le (es : List (Nat × Nat)) (i : Nat) : lbl es i ≤ i := by
  induction es using snoc_ind generalizing i with
  | h0 => exact Nat.le_refl _
  | h1 l e ih => rw [lbl_snoc]; exact Nat.le_trans (mrg_le _ _ _) (ih i)

/-- f is the least node of each class. -/
def Least (f : Nat → Nat) : Prop := ∀ i, f i ≤ i ∧ f (f i) = f i

theorem Least.mrg {f : Nat → Nat} (h : Least f) (a b : Nat) : Least (mrg f a b) := by
  intro i
  refine ⟨Nat.le_trans (mrg_le _ _ _) (h i).1, ?_⟩
  have ha := h a; have hb := h b; have hi := h i
  unfold Proofs.Ytcaeemcobgopmaa.mrg
  by_cases h1 : f i = max (f a) (f b)
  · rw [if_pos h1]
    have : f (min (f a) (f b)) = min (f a) (f b) := by
      rcases Nat.le_total (f a) (f b) with h2 | h2
      · rw [Nat.min_eq_left h2]; exact ha.2
      · rw [Nat.min_eq_right h2]; exact hb.2
    rw [this]
    split
    · omega
    · rfl
  · rw [if_neg h1, hi.2, if_neg h1]

theorem lbl_least (es : List (Nat × Nat)) : Least (lbl es) := by
  induction es using snoc_ind with
  | h0 => exact fun i => ⟨Nat.le_refl _, rfl⟩
  | h1 l e ih => rw [lbl_snoc]; exact ih.mrg _ _

theorem lbl_idem (es : List (Nat × Nat)) (i : Nat) : lbl es (lbl es i) = lbl es i := (lbl_least es i).2

theorem mrg_mono {f : Nat → Nat} (a b : Nat) {i j : Nat} (h : f i = f j) : mrg f a b i = mrg f a b j := by unfold mrg; rw [h]

theorem mrg_joins (f : Nat → Nat) (a b : Nat) : mrg f a b a = mrg f a b b := by
  unfold mrg
  rcases Nat.le_total (f a) (f b) with h | h
  · rw [Nat.max_eq_right h, Nat.min_eq_left h, if_pos rfl]
    split <;> rfl
  · rw [Nat.max_eq_left h, Nat.min_eq_right h, if_pos rfl]
    split <;> rfl

/-- Nothing but the two classes becomes one. -/
theorem mrg_only {f g : Nat → Nat} {a b : Nat} (hg : ∀ i j, f i = f j → g i = g j) (hab : g a = g b) : ∀ i j, mrg f a b i = mrg f a b j → g i = g j := by
  intro i j h
  unfold mrg at h
  have key : ∀ i, f i = max (f a) (f b) → g i = g a := by
    intro i hi
    rcases Nat.le_total (f a) (f b) with h2 | h2
    · rw [Nat.max_eq_right h2] at hi; rw [hg i b hi]; exact hab.symm
    · rw [Nat.max_eq_left h2] at hi; exact hg i a hi
  have key2 : ∀ i, f i = min (f a) (f b) → g i = g a := by
    intro i hi
    rcases Nat.le_total (f a) (f b) with h2 | h2
    · rw [Nat.min_eq_left h2] at hi; exact hg i a hi
    · rw [Nat.min_eq_right h2] at hi; rw [hg i b hi]; exact hab.symm
  by_cases h1 : f i = max (f a) (f b) <;> by_cases h2 : f j = max (f a) (f b)
  · rw [key i h1, key j h2]
  · rw [if_pos h1, if_neg h2] at h
    rw [key i h1, key2 j h.symm]
  · rw [if_neg h1, if_pos h2] at h
    rw [key2 i h, key j h2]
  · rw [if_neg h1, if_neg h2] at h
    exact hg i j h

/-- What is the same at both ends of each edge is the same on each part. -/
theorem lbl_const {α : Type} (es : List (Nat × Nat)) (g : Nat → α) (h : ∀ e ∈ es, g e.1 = g e.2) : ∀ i j, lbl es i = lbl es j → g i = g j := by
  classical
  -- by way of numbers: classes of g as a function to propositions
  induction es using snoc_ind with
  | h0 => intro i j e; simp only [lbl_nil] at e; rw [e]
  | h1 l e ih =>
    have ih' := ih (fun x hx => h x (by simp [hx]))
    have he := h e (by simp)
    intro i j hij
    rw [lbl_snoc] at hij
    have key : ∀ i, lbl l i = max (lbl l e.1) (lbl l e.2) → g i = g e.1 := by
      intro i hi
      rcases Nat.le_total (lbl l e.1) (lbl l e.2) with h2 | h2
      · rw [Nat.max_eq_right h2] at hi; rw [ih' i e.2 hi]; exact he.symm
      · rw [Nat.max_eq_left h2] at hi; exact ih' i e.1 hi
    have key2 : ∀ i, lbl l i = min (lbl l e.1) (lbl l e.2) → g i = g e.1 := by
      intro i hi
      rcases Nat.le_total (lbl l e.1) (lbl l e.2) with h2 | h2
      · rw [Nat.min_eq_left h2] at hi; exact ih' i e.1 hi
      · rw [Nat.min_eq_right h2] at hi; rw [ih' i e.2 hi]; exact he.symm
    unfold mrg at hij
    by_cases h1 : lbl l i = max (lbl l e.1) (lbl l e.2) <;> by_cases h2 : lbl l j = max (lbl l e.1) (lbl l e.2)
    · rw [key i h1, key j h2]
    · rw [if_pos h1, if_neg h2] at hij
      rw [key i h1, key2 j hij.symm]
    · rw [if_neg h1, if_pos h2] at hij
      rw [key2 i hij, key j h2]
    · rw [if_neg h1, if_neg h2] at hij
      exact ih' i j hij

theorem lbl_const' {α : Type} (es : List (Nat × Nat)) (g : Nat → α) (h : ∀ e ∈ es, g e.1 = g e.2) (i : Nat) : g (lbl es i) = g i :=
  lbl_const es g h _ _ (lbl_idem es i)

theorem lbl_edge (es : List (Nat × Nat)) : ∀ e ∈ es, lbl es e.1 = lbl es e.2 := by
  induction es using snoc_ind with
  | h0 => intro e he; cases he
  | h1 l x ih =>
    intro e he
    rw [lbl_snoc]
    rcases List.mem_append.1 he with he | he
    · exact mrg_mono _ _ (ih e he)
    · rw [List.mem_singleton.1 he]; exact mrg_joins _ _ _

/-- More edges join no less. -/
theorem lbl_sub {es es' : List (Nat × Nat)} (h : ∀ e ∈ es, lbl es' e.1 = lbl es' e.2) {i j : Nat} (hij : lbl es i = lbl es j) : lbl es' i = lbl es' j :=
  lbl_const es (lbl es') h i j hij

/-- Two lists of edges that join the same have the same least nodes. -/
theorem lbl_ext {es es' : List (Nat × Nat)} (h : ∀ e ∈ es, lbl es' e.1 = lbl es' e.2) (h' : ∀ e ∈ es', lbl es e.1 = lbl es e.2) : lbl es = lbl es' := by
  funext i
  have a1 : lbl es' (lbl es i) = lbl es' i := lbl_const' es (lbl es') h i
  have a2 : lbl es (lbl es' i) = lbl es i := lbl_const' es' (lbl es) h' i
  have b1 : lbl es' i ≤ lbl es i := by rw [← a1]; exact lbl_le _ _
  have b2 : lbl es i ≤ lbl es' i := by rw [← a2]; exact lbl_le _ _
  omega

/-- An edge within a part changes nothing. -/
theorem lbl_same {es : List (Nat × Nat)} {e : Nat × Nat} (h : lbl es e.1 = lbl es e.2) : lbl (es ++ [e]) = lbl es := by
  refine lbl_ext (fun x hx => ?_) (fun x hx => lbl_edge _ _ (by simp [hx]))
  rcases List.mem_append.1 hx with hx | hx
  · exact lbl_edge _ _ hx
  · rw [List.mem_singleton.1 hx]; exact h

/-- Nodes beyond the edges' stay alone; nodes below n stay below n. -/
theorem lbl_lt {n : Nat} (es : List (Nat × Nat)) {i : Nat} (hi : i < n) : lbl es i < n := Nat.lt_of_le_of_lt (lbl_le es i) hi

/-! ### the sets of nodes -/
/-- A list that leads each node, within its class, to the least one. -/
def UF (L : List Nat) (f : Nat → Nat) : Prop := ∀ i x, L[i]? = some x → x ≤ i ∧ f x = f i ∧ (x = i → f i = i)

theorem UF.start (n : Nat) : UF (List.range n) id := by
  intro i x h
  have : x = i := by
    have h1 := (List.getElem?_eq_some_iff.1 h).2
    simpa using h1.symm
  obtain rfl := this
  exact ⟨Nat.le_refl _, rfl, fun _ => rfl⟩

/-- Path halving. -/
theorem UF.halve {L : List Nat} {f : Nat → Nat} (h : UF L f) {i x y : Nat} (h1 : L[i]? = some x) (h2 : L[x]? = some y) (hne : x ≠ i) : UF (L.set i y) f := by
  intro j z hz
  have hi : i < L.length := (List.getElem?_eq_some_iff.1 h1).1
  by_cases hji : i = j
  · subst hji
    rw [List.getElem?_set_self hi] at hz
    cases hz
    have a := h i x h1
    have b := h x y h2
    refine ⟨by omega, b.2.1.trans a.2.1, fun e => absurd (Nat.le_antisymm a.1 (e ▸ b.1)) hne⟩
  · rw [List.getElem?_set_ne hji] at hz
    exact h j z hz

/-- Joining two classes. -/
theorem UF.join {L : List Nat} {f : Nat → Nat} (h : UF L f) (hf : Least f) (a b : Nat) (hlt : max (f a) (f b) < L.length) : UF (L.set (max (f a) (f b)) (min (f a) (f b))) (mrg f a b) := by
  have ha := hf a
  have hb := hf b
  have hM : f (max (f a) (f b)) = max (f a) (f b) := by
    rcases Nat.le_total (f a) (f b) with h2 | h2
    · rw [Nat.max_eq_right h2]; exact hb.2
    · rw [Nat.max_eq_left h2]; exact ha.2
  have hm : f (min (f a) (f b)) = min (f a) (f b) := by
    rcases Nat.le_total (f a) (f b) with h2 | h2
    · rw [Nat.min_eq_left h2]; exact ha.2
    · rw [Nat.min_eq_right h2]; exact hb.2
  intro j z hz
  by_cases hj : max (f a) (f b) = j
  · subst hj
    rw [List.getElem?_set_self hlt] at hz
    cases hz
    refine ⟨by omega, ?_, fun e => ?_⟩
    · unfold mrg
      rw [hM, hm, if_pos rfl]
      split <;> rfl
    · unfold mrg
      rw [hM, if_pos rfl]; omega
  · rw [List.getElem?_set_ne hj] at hz
    obtain ⟨c1, c2, c3⟩ := h j z hz
    refine ⟨c1, mrg_mono _ _ c2, fun e => ?_⟩
    have := c3 e
    unfold mrg
    rw [this, if_neg (by omega)]

theorem UF.root {L : List Nat} {f : Nat → Nat} (h : UF L f) {i : Nat} (hi : L[i]? = some i) : f i = i := (h i i hi).2.2 rfl

/-! ### the forest -/
def inForest (es : List (Nat × Nat)) (k : Nat) : Bool :=
  match es[k]? with | some e => decide (lbl (es.take k) e.1 ≠ lbl (es.take k) e.2) | none => false
def inF (es : List (Nat × Nat)) : List Bool := (List.range es.length).map (inForest es)

theorem inForest_take {es : List (Nat × Nat)} {k m : Nat} (h : k < m) : inForest (es.take m) k = inForest es k := by
  unfold inForest
  rw [List.getElem?_take_of_lt h, List.take_take, Nat.min_eq_left (by omega)]

theorem inF_snoc (es : List (Nat × Nat)) (k : Nat) (e : Nat × Nat) (he : es[k]? = some e) :
    inF (es.take (k + 1)) = inF (es.take k) ++ [decide (lbl (es.take k) e.1 ≠ lbl (es.take k) e.2)] := by
  have hk : k < es.length := (List.getElem?_eq_some_iff.1 he).1
  have hl : (es.take (k + 1)).length = k + 1 := by simp; omega
  have hl' : (es.take k).length = k := by simp; omega
  unfold inF
  rw [hl, hl', List.range_succ, List.map_append]
  congr 1
  · apply List.map_congr_left
    intro j hj
    have hj := List.mem_range.1 hj
    rw [inForest_take (by omega), inForest_take hj]
  · simp only [List.map_cons, List.map_nil]
    rw [inForest_take (by omega)]
    unfold inForest
    rw [he]

def idxs (l : List Bool) (want : Bool) : List Nat := (List.range l.length).filter fun i => l.getD i false == want

theorem idxs_snoc (l : List Bool) (want : Bool) (k : Nat) (x : Bool) (hx : l[k]? = some x) :
    idxs (l.take (k + 1)) want = if x = want then idxs (l.take k) want ++ [k] else idxs (l.take k) want := by
  have hk : k < l.length := (List.getElem?_eq_some_iff.1 hx).1
  have hl : (l.take (k + 1)).length = k + 1 := by simp; omega
  have hl' : (l.take k).length = k := by simp; omega
  unfold idxs
  rw [hl, hl', List.range_succ, List.filter_append]
  have e1 : (List.range k).filter (fun i => (l.take (k + 1)).getD i false == want) = (List.range k).filter (fun i => (l.take k).getD i false == want) := by
    apply List.filter_congr
    intro j hj
    have hj := List.mem_range.1 hj
    simp only [List.getD]
    rw [List.getElem?_take_of_lt (by omega), List.getElem?_take_of_lt hj]
  rw [e1]
  have e2 : (l.take (k + 1)).getD k false = x := by
    simp only [List.getD]
    rw [List.getElem?_take_of_lt (by omega), hx]; rfl
  simp only [List.filter_cons, List.filter_nil, e2]
  by_cases h : x = want
  · simp [h]
  · simp [h]

end Go.Proofs.Ytcaeemcobgopmaa
