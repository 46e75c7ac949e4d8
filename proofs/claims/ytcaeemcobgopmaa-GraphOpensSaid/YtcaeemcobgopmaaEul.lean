/-
  Graph, plain: how many parts, forest edges and cycles there are; each cycle is one; which edges are on one.
-/
import Derived.Test.YtcaeemcobgopmaaWlk
import Derived.Test.YtcaeemcobgopmaaRfF
import Derived.Test.YtcaeemcobgopmaaGrI
namespace Go.Proofs.Ytcaeemcobgopmaa
set_option linter.unusedVariables false

/-- How many parts there are. -/
def rc (n : Nat) (f : Nat → Nat) : Nat := (rootsTo f n).length
theorem rc_parts (n : Nat) (ns : List (Nat × Nat)) : (partsOf n ns).length = rc n (lbl ns) := prt_len _ _

theorem filter_but (p : Nat → Bool) (M : Nat) (hp : p M = true) : ∀ n, M < n → ((List.range n).filter fun r => p r && decide (r ≠ M)).length + 1 = ((List.range n).filter p).length := by
  intro n
  induction n with
  | zero => intro h; omega
  | succ n ih =>
    intro hM
    rw [List.range_succ, List.filter_append, List.filter_append, List.length_append, List.length_append]
    by_cases e : M = n
    · subst e
      have h1 : (List.range M).filter (fun r => p r && decide (r ≠ M)) = (List.range M).filter p := List.filter_congr fun r hr => by
        have := List.mem_range.1 hr
        have : r ≠ M := by omega
        simp [this]
      rw [h1]
      simp [hp]
    · have h2 := ih (by omega)
      have h3 : n ≠ M := fun h => e h.symm
      have h5 : List.filter (fun r => p r && decide (r ≠ M)) [n] = List.filter p [n] := by
        simp [List.filter_cons, h3]
      rw [h5]
      omega

theorem rc_mrg {f : Nat → Nat} (hf : Least f) {n a b : Nat} (ha : a < n) (hb : b < n) (hne : f a ≠ f b) : rc n (mrg f a b) + 1 = rc n f := by
  have hA := hf a
  have hB := hf b
  have hM : f (max (f a) (f b)) = max (f a) (f b) := by
    rcases Nat.le_total (f a) (f b) with h | h
    · rw [Nat.max_eq_right h]; exact hB.2
    · rw [Nat.max_eq_left h]; exact hA.2
  have hm : f (min (f a) (f b)) = min (f a) (f b) := by
    rcases Nat.le_total (f a) (f b) with h | h
    · rw [Nat.min_eq_left h]; exact hA.2
    · rw [Nat.min_eq_right h]; exact hB.2
  have key := filter_but (fun r => f r == r) (max (f a) (f b)) (by simpa using hM) n (by omega)
  have e : rootsTo (mrg f a b) n = (List.range n).filter fun r => (f r == r) && decide (r ≠ max (f a) (f b)) := by
    unfold rootsTo
    refine List.filter_congr fun r _ => ?_
    rw [Bool.eq_iff_iff]
    simp only [beq_iff_eq, Bool.and_eq_true, decide_eq_true_eq]
    unfold mrg
    by_cases h : f r = max (f a) (f b)
    · rw [if_pos h]
      constructor
      · intro h2
        rw [← h2, hm] at h
        omega
      · rintro ⟨h2, h3⟩
        rw [h2] at h
        exact absurd h h3
    · rw [if_neg h]
      constructor
      · intro h2
        refine ⟨h2, fun h3 => h ?_⟩
        rw [h3]; exact hM
      · exact fun h2 => h2.1
  unfold rc
  rw [e]
  exact key

/-! ### adding one edge -/
theorem inF_append (es : List (Nat × Nat)) (e : Nat × Nat) : inF (es ++ [e]) = inF es ++ [decide (lbl es e.1 ≠ lbl es e.2)] := by
  have h := inF_snoc (es ++ [e]) es.length e (by simp)
  rw [List.take_left' rfl, List.take_of_length_le (by simp)] at h
  exact h
theorem idxs_append (l : List Bool) (x want : Bool) : idxs (l ++ [x]) want = if x = want then idxs l want ++ [l.length] else idxs l want := by
  have h := idxs_snoc (l ++ [x]) want l.length x (by simp)
  rw [List.take_left' rfl, List.take_of_length_le (by simp)] at h
  exact h
theorem forestOf_append (es : List (Nat × Nat)) (e : Nat × Nat) : forestOf (es ++ [e]) = if lbl es e.1 ≠ lbl es e.2 then forestOf es ++ [es.length] else forestOf es := by
  unfold forestOf
  rw [inF_append, idxs_append, inF_len]
  by_cases h : lbl es e.1 = lbl es e.2 <;> simp [h]
theorem otherOf_append (es : List (Nat × Nat)) (e : Nat × Nat) : otherOf (es ++ [e]) = if lbl es e.1 ≠ lbl es e.2 then otherOf es else otherOf es ++ [es.length] := by
  unfold otherOf
  rw [inF_append, idxs_append, inF_len]
  by_cases h : lbl es e.1 = lbl es e.2 <;> simp [h]

theorem ends_append {n : Nat} {es : List (Nat × Nat)} {e : Nat × Nat} (h : Ends n (es ++ [e])) : Ends n es ∧ e.1 < n ∧ e.2 < n := by
  refine ⟨fun k x hx => h k x ?_, ?_⟩
  · rw [List.getElem?_append_left (List.getElem?_eq_some_iff.1 hx).1]; exact hx
  · have := h es.length e (by simp)
    exact ⟨this.1, this.2.1⟩

/-- Parts and forest edges are together as many as the nodes. -/
theorem rc_forest {n : Nat} (es : List (Nat × Nat)) : Ends n es → rc n (lbl es) + (forestOf es).length = n := by
  induction es using snoc_ind with
  | h0 =>
    intro _
    have : rootsTo (lbl []) n = List.range n := by
      unfold rootsTo
      rw [List.filter_eq_self]
      intro r _
      simp [lbl_nil]
    unfold rc
    rw [this]
    have h2 : forestOf [] = [] := rfl
    rw [h2]; simp
  | h1 es e ih =>
    intro he
    obtain ⟨h1, h2, h3⟩ := ends_append he
    have ih := ih h1
    rw [forestOf_append]
    by_cases h : lbl es e.1 = lbl es e.2
    · rw [lbl_same h, if_neg (by simp [h])]; exact ih
    · rw [lbl_snoc, if_pos h, List.length_append, List.length_singleton]
      have := rc_mrg (lbl_least es) h2 h3 h
      omega
theorem forest_other (es : List (Nat × Nat)) : (forestOf es).length + (otherOf es).length = es.length := by
  induction es using snoc_ind with
  | h0 => rfl
  | h1 es e ih =>
    rw [forestOf_append, otherOf_append, List.length_append]
    by_cases h : lbl es e.1 = lbl es e.2
    · rw [if_neg (by simp [h]), if_neg (by simp [h]), List.length_append]
      simp only [List.length_singleton]
      omega
    · rw [if_pos h, if_pos h, List.length_append]
      simp only [List.length_singleton]
      omega

/-- The forest's edges. -/
def fe (ns : List (Nat × Nat)) : List (Nat × Nat) := (forestOf ns).map fun i => ns.getD i (0, 0)
theorem forestOf_lt {ns : List (Nat × Nat)} {i : Nat} (h : i ∈ forestOf ns) : i < ns.length := by
  unfold forestOf idxs at h
  have := List.mem_range.1 (List.mem_filter.1 h).1
  rwa [inF_len] at this
theorem forestOf_mem {ns : List (Nat × Nat)} {i : Nat} : i ∈ forestOf ns ↔ i < ns.length ∧ inFb ns i = true := by
  rw [← ULst_forest, ULst_mem]
theorem otherOf_mem {ns : List (Nat × Nat)} {i : Nat} : i ∈ otherOf ns ↔ i < ns.length ∧ inFb ns i = false := by
  unfold otherOf idxs inFb
  rw [List.mem_filter, List.mem_range, inF_len]
  simp
theorem fe_append (es : List (Nat × Nat)) (e : Nat × Nat) : fe (es ++ [e]) = if lbl es e.1 ≠ lbl es e.2 then fe es ++ [e] else fe es := by
  have h0 : (forestOf es).map (fun i => (es ++ [e]).getD i (0, 0)) = fe es := by
    unfold fe
    refine List.map_congr_left fun i hi => ?_
    have := forestOf_lt hi
    simp [List.getD, List.getElem?_append_left this]
  by_cases h : lbl es e.1 = lbl es e.2
  · rw [if_neg (by simp [h])]
    unfold fe at h0 ⊢
    rw [forestOf_append, if_neg (by simp [h])]
    exact h0
  · rw [if_pos h]
    have h1 : fe (es ++ [e]) = (forestOf es).map (fun i => (es ++ [e]).getD i (0, 0)) ++ [e] := by
      unfold fe
      rw [forestOf_append, if_pos h, List.map_append]
      simp [List.getD]
    rw [h1, h0]
theorem fe_lbl (es : List (Nat × Nat)) : lbl (fe es) = lbl es := by
  induction es using snoc_ind with
  | h0 => rfl
  | h1 es e ih =>
    rw [fe_append]
    by_cases h : lbl es e.1 = lbl es e.2
    · rw [if_neg (by simp [h]), ih, lbl_same h]
    · rw [if_pos h, lbl_snoc, lbl_snoc, ih]
theorem fe_other (es : List (Nat × Nat)) : otherOf (fe es) = [] := by
  induction es using snoc_ind with
  | h0 => rfl
  | h1 es e ih =>
    rw [fe_append]
    by_cases h : lbl es e.1 = lbl es e.2
    · rw [if_neg (by simp [h])]; exact ih
    · rw [if_pos h, otherOf_append, fe_lbl, if_pos h]; exact ih
theorem fe_len (es : List (Nat × Nat)) : (fe es).length = (forestOf es).length := by simp [fe]
theorem fe_ends {n : Nat} {ns : List (Nat × Nat)} (he : Ends n ns) : Ends n (fe ns) := by
  intro k e hk
  unfold fe at hk
  rw [List.getElem?_map] at hk
  obtain ⟨i, hi, rfl⟩ := Option.map_eq_some_iff.1 hk
  have hil := forestOf_lt (List.mem_of_getElem? hi)
  have := he i _ (List.getElem?_eq_getElem hil)
  simpa [List.getD, hil] using this

/-! ### edges that are used -/
def selU (ns : List (Nat × Nat)) (U : Nat → Bool) : List (Nat × Nat) := (ULst ns U).map fun i => ns.getD i (0, 0)
theorem selU_forest (ns : List (Nat × Nat)) : selU ns (inFb ns) = fe ns := by unfold selU fe; rw [ULst_forest]
theorem mem_selU {ns : List (Nat × Nat)} {U : Nat → Bool} {k : Nat} {e : Nat × Nat} (h : ns[k]? = some e) (hU : U k = true) : e ∈ selU ns U := by
  unfold selU
  refine List.mem_map.2 ⟨k, ULst_mem.2 ⟨(List.getElem?_eq_some_iff.1 h).1, hU⟩, by simp [List.getD, h]⟩
theorem of_mem_selU {ns : List (Nat × Nat)} {U : Nat → Bool} {e : Nat × Nat} (h : e ∈ selU ns U) : ∃ k, U k = true ∧ ns[k]? = some e := by
  unfold selU at h
  obtain ⟨k, hk, rfl⟩ := List.mem_map.1 h
  have := ULst_mem.1 hk
  exact ⟨k, this.2, by simp [List.getD, this.1]⟩
theorem selU_edge {ns : List (Nat × Nat)} {U : Nat → Bool} {i v : Nat} (h : inc ns i v = true) (hU : U i = true) : lbl (selU ns U) v = lbl (selU ns U) (oth ns i v) := by
  obtain ⟨e, he, hc⟩ := inc_cases h
  have := lbl_edge _ _ (mem_selU he hU)
  rcases hc with ⟨rfl, ho⟩ | ⟨rfl, ho⟩
  · rw [ho]; exact this
  · rw [ho]; exact this.symm

theorem dist_sel {ns : List (Nat × Nat)} {U : Nat → Bool} {b : Nat} {d : Nat → Int} (h : IsDist ns U b d) (v : Nat) (hl : lbl (selU ns U) v = lbl (selU ns U) b) : 0 ≤ d v := by
  have key := lbl_const (selU ns U) (fun v => decide (0 ≤ d v)) (fun e he => by
    obtain ⟨k, hU, hg⟩ := of_mem_selU he
    have i1 : inc ns k e.1 = true := by unfold inc; rw [hg]; simp
    have i2 : inc ns k e.2 = true := by unfold inc; rw [hg]; simp
    refine decide_eq_decide.2 ⟨fun h0 => ?_, fun h0 => ?_⟩
    · have := (h.to_ _ h0 k hU i1).1
      rw [oth_fst hg] at this; exact this
    · have := (h.to_ _ h0 k hU i2).1
      rw [oth_snd hg] at this; exact this) v b hl
  exact (decide_eq_decide.1 key).2 (by rw [h.zero]; omega)

/-! ### the path of a cycle -/
section
variable {n b : Nat} {ns : List (Nat × Nat)} {U : Nat → Bool}
theorem path_mem (he : Ends n ns) (hb : b < n) : ∀ (k v : Nat), distOf ns U n b v = k → (wayTo ns U n b v).Nodup ∧ ∀ j ∈ wayTo ns U n b v, j < ns.length ∧ U j = true ∧ ∃ u, inc ns j u = true ∧ 1 ≤ distOf ns U n b u ∧ distOf ns U n b u ≤ k ∧ distOf ns U n b (oth ns j u) = distOf ns U n b u - 1 := by
  intro k
  induction k with
  | zero => intro v hv; rw [wayTo_end (by omega)]; simp
  | succ k ih =>
    intro v hv
    rcases wayTo_cons (U := U) he hb (x := v) (by omega) with ⟨_, h2, _⟩ | ⟨i, h1, h2, h3, h4, h5, h6⟩
    · omega
    · obtain ⟨n1, n2⟩ := ih (oth ns i v) (by omega)
      rw [h6]
      refine ⟨List.nodup_cons.2 ⟨fun hm => ?_, n1⟩, fun j hj => ?_⟩
      · obtain ⟨_, _, u, u1, u2, u3, u4⟩ := n2 i hm
        rcases inc_two h3 u1 with rfl | rfl
        · omega
        · have := (inc_oth h3).2
          rw [this] at u4
          omega
      · rcases List.mem_cons.1 hj with rfl | hj
        · exact ⟨h1, h2, v, h3, by omega, by omega, by omega⟩
        · obtain ⟨m1, m2, u, u1, u2, u3, u4⟩ := n2 j hj
          exact ⟨m1, m2, u, u1, u2, by omega, u4⟩
theorem path_round (he : Ends n ns) (hb : b < n) : ∀ (k v : Nat) (m : Nat → Option Bool), distOf ns U n b v = k → (∀ u, 1 ≤ distOf ns U n b u → distOf ns U n b u ≤ k → (m u).getD false = false) → roundF ns b (wayTo ns U n b v) m v = true := by
  intro k
  induction k with
  | zero =>
    intro v m hv _
    rcases wayTo_cons (U := U) he hb (x := v) (by omega) with ⟨rfl, _, h3⟩ | ⟨i, _, _, _, _, h5, _⟩
    · rw [h3, roundF]; simp
    · omega
  | succ k ih =>
    intro v m hv hm
    rcases wayTo_cons (U := U) he hb (x := v) (by omega) with ⟨_, h2, _⟩ | ⟨i, h1, h2, h3, h4, h5, h6⟩
    · omega
    · rw [h6, roundF, hm v (by omega) (by omega), h3]
      simp only [Bool.not_true, Bool.or_false, Bool.false_eq_true, if_false]
      refine ih (oth ns i v) _ (by omega) fun u u1 u2 => ?_
      unfold mput
      have : u ≠ v := fun e => by subst e; omega
      rw [if_neg this]
      exact hm u u1 (by omega)
theorem path_without (he : Ends n ns) (hb : b < n) {j : Nat} (g : List (Nat × Nat)) (hg : ∀ i u, U i = true → i ≠ j → inc ns i u = true → lbl g u = lbl g (oth ns i u)) : ∀ (k v : Nat), distOf ns U n b v = k → j ∉ wayTo ns U n b v → lbl g v = lbl g b := by
  intro k
  induction k with
  | zero =>
    intro v hv _
    rcases wayTo_cons (U := U) he hb (x := v) (by omega) with ⟨rfl, _, h3⟩ | ⟨i, _, _, _, _, h5, _⟩
    · rfl
    · omega
  | succ k ih =>
    intro v hv hj
    rcases wayTo_cons (U := U) he hb (x := v) (by omega) with ⟨_, h2, _⟩ | ⟨i, h1, h2, h3, h4, h5, h6⟩
    · omega
    · rw [h6, List.mem_cons] at hj
      exact (hg i v h2 (fun e => hj (.inl e.symm)) h3).trans (ih (oth ns i v) (by omega) (fun h => hj (.inr h)))
/-- Where an edge of the path lies: the path leads there, and on from its other end, without it. -/
theorem path_split (he : Ends n ns) (hb : b < n) {j : Nat} : ∀ (k v : Nat), distOf ns U n b v = k → j ∈ wayTo ns U n b v → ∃ u, inc ns j u = true ∧ lbl (without ns j) v = lbl (without ns j) u ∧ lbl (without ns j) (oth ns j u) = lbl (without ns j) b := by
  intro k
  induction k with
  | zero => intro v hv hj; rw [wayTo_end (by omega)] at hj; cases hj
  | succ k ih =>
    intro v hv hj
    have hnd := (path_mem (U := U) he hb (k + 1) v hv).1
    rcases wayTo_cons (U := U) he hb (x := v) (by omega) with ⟨_, h2, _⟩ | ⟨i, h1, h2, h3, h4, h5, h6⟩
    · omega
    · rw [h6] at hj hnd
      have hnd := List.nodup_cons.1 hnd
      by_cases e : j = i
      · subst e
        exact ⟨v, h3, rfl, path_without he hb (without ns j) (fun i u _ hne hi => without_edge hi hne) k _ (by omega) hnd.1⟩
      · rcases List.mem_cons.1 hj with hj | hj
        · exact absurd hj e
        · obtain ⟨u, u1, u2, u3⟩ := ih (oth ns i v) (by omega) hj
          exact ⟨u, u1, (without_edge h3 (fun e' => e e'.symm)).trans u2, u3⟩
end

/-! ### the cycles -/
/-- Of an edge that is not in the forest: its ends, and the path between them in the forest. -/
theorem other_path {n : Nat} {ns : List (Nat × Nat)} (he : Ends n ns) {i : Nat} (hi : i ∈ otherOf ns) : ∃ x y, ns[i]? = some (x, y) ∧ x < n ∧ y < n ∧ x ≠ y ∧ 1 ≤ distOf ns (inFb ns) n x y ∧ cycRow ns n i = i :: wayTo ns (inFb ns) n x y := by
  have hil := otherOf_lt hi
  obtain ⟨⟨x, y⟩, hxy⟩ : ∃ e, ns[i]? = some e := ⟨_, List.getElem?_eq_getElem hil⟩
  have hends := he i _ hxy
  simp only at hends
  have hd : IsDist ns (inFb ns) x (distOf ns (inFb ns) n x) := farOf_dist hends.1 he
  have hl : lbl ns y = lbl ns x := (lbl_edge ns (x, y) (List.mem_of_getElem? hxy)).symm
  have h0 := dist_sel hd y (by rw [selU_forest, fe_lbl]; exact hl)
  refine ⟨x, y, hxy, hends.1, hends.2.1, hends.2.2, ?_, by simp [cycRow, List.getD, hxy]⟩
  rcases hd.from_ y with h1 | ⟨h1, _⟩ | ⟨h1, _⟩
  · omega
  · exact absurd h1.symm hends.2.2
  · exact h1

theorem cyc_row_ok {n : Nat} {ns : List (Nat × Nat)} (he : Ends n ns) {i : Nat} (hi : i ∈ otherOf ns) : cycLs ns (cycRow ns n i) = true ∧ (∀ j ∈ cycRow ns n i, j < ns.length) ∧ ((cycRow ns n i).filter fun j => decide (j ∉ forestOf ns)).length = 1 := by
  obtain ⟨x, y, hxy, hx, hy, hne, hd, hrow⟩ := other_path he hi
  have hil := otherOf_lt hi
  have hUi := (otherOf_mem.1 hi).2
  obtain ⟨m1, m2⟩ := path_mem (U := inFb ns) he hx (distOf ns (inFb ns) n x y).toNat y (by omega)
  have hni : i ∉ wayTo ns (inFb ns) n x y := fun h => by
    have := (m2 i h).2.1
    rw [hUi] at this; cases this
  have hlen := wayTo_length (U := inFb ns) he hx (distOf ns (inFb ns) n x y).toNat y (by omega)
  rw [hrow]
  refine ⟨?_, fun j hj => ?_, ?_⟩
  · unfold cycLs
    have hnd : dup (i :: wayTo ns (inFb ns) n x y) = false := by
      unfold dup
      exact decide_eq_false fun h => h (List.nodup_cons.2 ⟨hni, m1⟩)
    have hl2 : ¬ (i :: wayTo ns (inFb ns) n x y).length < 2 := by rw [List.length_cons]; omega
    rw [hnd, decide_eq_false hl2]
    have hgd : ns.getD i (0, 0) = (x, y) := by simp [List.getD, hxy]
    simp only [Bool.or_false, Bool.false_eq_true, if_false, List.headD_cons, hgd]
    have hinc : inc ns i x = true := by unfold inc; rw [hxy]; simp
    have hoth : oth ns i x = y := oth_fst hxy
    have hr : roundF ns x (i :: wayTo ns (inFb ns) n x y) (fun _ => none) x = true := by
      rw [roundF, hinc, hoth]
      simp only [Option.getD_none, Bool.not_true, Bool.or_false, Bool.false_eq_true, if_false]
      refine path_round he hx (distOf ns (inFb ns) n x y).toNat y _ (by omega) fun u u1 u2 => ?_
      unfold mput
      have : u ≠ x := fun e => by
        subst e
        have hz := (show IsDist ns (inFb ns) u (distOf ns (inFb ns) n u) from farOf_dist hx he).zero
        omega
      rw [if_neg this]; rfl
    rw [hr]; rfl
  · rcases List.mem_cons.1 hj with rfl | hj
    · exact hil
    · exact (m2 j hj).1
  · have h1 : i ∉ forestOf ns := fun h => by
      have := (forestOf_mem.1 h).2
      rw [hUi] at this; cases this
    rw [List.filter_cons_of_pos (by simpa using h1)]
    have h2 : (wayTo ns (inFb ns) n x y).filter (fun j => decide (j ∉ forestOf ns)) = [] := by
      rw [List.filter_eq_nil_iff]
      intro j hj
      have := m2 j hj
      simp [forestOf_mem.2 ⟨this.1, this.2.1⟩]
    rw [h2]; rfl

/-- An edge that lies on a cycle is no bridge. -/
theorem cyc_no_bridge {n : Nat} {ns : List (Nat × Nat)} (he : Ends n ns) {i j : Nat} (hj : j ∈ otherOf ns) (hm : i ∈ cycRow ns n j) : bridge ns i = false := by
  obtain ⟨x, y, hxy, hx, hy, hne, hd, hrow⟩ := other_path he hj
  have hUj := (otherOf_mem.1 hj).2
  obtain ⟨m1, m2⟩ := path_mem (U := inFb ns) he hx (distOf ns (inFb ns) n x y).toNat y (by omega)
  have hinc : inc ns j x = true := by unfold inc; rw [hxy]; simp
  have hoth : oth ns j x = y := oth_fst hxy
  rw [hrow] at hm
  rcases List.mem_cons.1 hm with rfl | hm
  · refine not_bridge hinc ?_
    rw [hoth]
    refine (path_without (U := inFb ns) he hx (without ns i) (fun k u hk hne hi => without_edge hi hne) (distOf ns (inFb ns) n x y).toNat y (by omega) fun h => ?_).symm
    have := (m2 i h).2.1
    rw [hUj] at this; cases this
  · obtain ⟨u, u1, u2, u3⟩ := path_split (U := inFb ns) he hx (distOf ns (inFb ns) n x y).toNat y (by omega) hm
    have hij : j ≠ i := fun e => by
      subst e
      have := (m2 j hm).2.1
      rw [hUj] at this; cases this
    have hxy2 := without_edge hinc hij
    rw [hoth] at hxy2
    exact not_bridge u1 (u2.symm.trans (hxy2.symm.trans u3.symm))

theorem ULst_but (ns : List (Nat × Nat)) (U : Nat → Bool) (i : Nat) (hi : i < ns.length) (hU : U i = true) : (ULst ns fun k => U k && decide (k ≠ i)).length + 1 = (ULst ns U).length := filter_but U i hU _ hi
theorem rc_le {n : Nat} {es : List (Nat × Nat)} (he : Ends n es) : n ≤ rc n (lbl es) + es.length := by
  have h1 := rc_forest es he
  have h2 := forest_other es
  omega
theorem selU_ends {n : Nat} {ns : List (Nat × Nat)} {U : Nat → Bool} (he : Ends n ns) : Ends n (selU ns U) := by
  intro k e hk
  obtain ⟨j, _, hj⟩ := of_mem_selU (List.mem_of_getElem? hk)
  exact he j e hj

/-- A forest edge joins what the other forest edges do not. -/
theorem forest_edge {n : Nat} {ns : List (Nat × Nat)} (he : Ends n ns) {i v : Nat} (hi : inFb ns i = true) (hinc : inc ns i v = true) : lbl (selU ns fun k => inFb ns k && decide (k ≠ i)) v ≠ lbl (selU ns fun k => inFb ns k && decide (k ≠ i)) (oth ns i v) := by
  intro heq
  have hil := inc_lt hinc
  obtain ⟨e, hei, hc⟩ := inc_cases hinc
  have heq' : lbl (selU ns fun k => inFb ns k && decide (k ≠ i)) e.1 = lbl (selU ns fun k => inFb ns k && decide (k ≠ i)) e.2 := by
    rcases hc with ⟨rfl, ho⟩ | ⟨rfl, ho⟩
    · rw [ho] at heq; exact heq
    · rw [ho] at heq; exact heq.symm
  have hlbl : lbl (selU ns fun k => inFb ns k && decide (k ≠ i)) = lbl (fe ns) := by
    refine lbl_ext (fun x hx => ?_) (fun x hx => ?_)
    · obtain ⟨k, hk, hx⟩ := of_mem_selU hx
      rw [Bool.and_eq_true] at hk
      rw [← selU_forest]
      exact lbl_edge _ _ (mem_selU hx hk.1)
    · rw [← selU_forest] at hx
      obtain ⟨k, hk, hx⟩ := of_mem_selU hx
      by_cases e' : k = i
      · subst e'
        rw [hei] at hx; cases hx
        exact heq'
      · exact lbl_edge _ _ (mem_selU hx (by simp [hk, e']))
  have h1 := rc_le (selU_ends (U := fun k => inFb ns k && decide (k ≠ i)) he)
  have h2 := ULst_but ns (inFb ns) i hil hi
  have h3 := rc_forest ns he
  have h4 : (selU ns fun k => inFb ns k && decide (k ≠ i)).length = (ULst ns fun k => inFb ns k && decide (k ≠ i)).length := by simp [selU]
  rw [hlbl, fe_lbl, h4] at h1
  rw [ULst_forest] at h2
  omega

/-- An edge that is on no cycle is a bridge. -/
theorem no_cyc_bridge {n : Nat} {ns : List (Nat × Nat)} (he : Ends n ns) {i : Nat} (hi : i < ns.length) (hno : ∀ j ∈ otherOf ns, i ∉ cycRow ns n j) : bridge ns i = true := by
  classical
  have hF : inFb ns i = true := by
    cases h : inFb ns i
    · have := hno i (otherOf_mem.2 ⟨hi, h⟩)
      exact absurd (by unfold cycRow; simp) this
    · rfl
  cases hbr : bridge ns i
  rotate_left
  · rfl
  exfalso
  obtain ⟨⟨p, q⟩, hpq⟩ : ∃ e, ns[i]? = some e := ⟨_, List.getElem?_eq_getElem hi⟩
  have hinc : inc ns i p = true := by unfold inc; rw [hpq]; simp
  have hoth : oth ns i p = q := oth_fst hpq
  have hsep := forest_edge he hF hinc
  rw [hoth] at hsep
  have hcon : lbl (without ns i) p = lbl (without ns i) q := by
    unfold bridge at hbr
    rw [hpq] at hbr
    simpa using hbr
  -- some edge leads from p's side to another
  have hex : ∃ j e, j ≠ i ∧ ns[j]? = some e ∧ lbl (selU ns fun k => inFb ns k && decide (k ≠ i)) e.1 ≠ lbl (selU ns fun k => inFb ns k && decide (k ≠ i)) e.2 := by
    by_cases h : ∃ j e, j ≠ i ∧ ns[j]? = some e ∧ lbl (selU ns fun k => inFb ns k && decide (k ≠ i)) e.1 ≠ lbl (selU ns fun k => inFb ns k && decide (k ≠ i)) e.2
    · exact h
    · exfalso
      refine hsep (lbl_const (without ns i) (lbl (selU ns fun k => inFb ns k && decide (k ≠ i))) (fun e hm => ?_) p q hcon)
      obtain ⟨j, hj, hje⟩ := of_mem_without hm
      by_cases h2 : lbl (selU ns fun k => inFb ns k && decide (k ≠ i)) e.1 = lbl (selU ns fun k => inFb ns k && decide (k ≠ i)) e.2
      · exact h2
      · exact absurd ⟨j, e, hj, hje, h2⟩ h
  obtain ⟨j, e, hji, hje, hdiff⟩ := hex
  have hjo : j ∈ otherOf ns := by
    refine otherOf_mem.2 ⟨(List.getElem?_eq_some_iff.1 hje).1, ?_⟩
    cases h : inFb ns j
    · rfl
    · exact absurd (lbl_edge _ _ (mem_selU hje (by simp [h, hji]))) hdiff
  obtain ⟨x, y, hxy, hx, hy, hne, hd, hrow⟩ := other_path he hjo
  rw [hje] at hxy
  cases hxy
  have hnp : i ∉ wayTo ns (inFb ns) n x y := fun h => hno j hjo (by rw [hrow]; exact List.mem_cons.2 (.inr h))
  refine hdiff (path_without (U := inFb ns) he hx _ (fun k u hk hne hi => selU_edge hi (by simp [hk, hne])) (distOf ns (inFb ns) n x y).toNat y (by omega) hnp).symm

theorem bridge_iff {n : Nat} {ns : List (Nat × Nat)} (he : Ends n ns) {i : Nat} (hi : i < ns.length) : bridge ns i = !((cyclesOf n ns).any fun r => decide (i ∈ r)) := by
  cases h : (cyclesOf n ns).any fun r => decide (i ∈ r)
  · refine no_cyc_bridge he hi fun j hj hm => ?_
    rw [List.any_eq_false] at h
    exact h _ (List.mem_map.2 ⟨j, hj, rfl⟩) (by simpa using hm)
  · rw [List.any_eq_true] at h
    obtain ⟨r, hr, hm⟩ := h
    obtain ⟨j, hj, rfl⟩ := List.mem_map.1 hr
    exact cyc_no_bridge he hj (by simpa using hm)

/-! ### without an edge -/
theorem without_ends {n : Nat} {ns : List (Nat × Nat)} (he : Ends n ns) (i : Nat) : Ends n (without ns i) := by
  intro k e hk
  obtain ⟨j, _, hj⟩ := of_mem_without (List.mem_of_getElem? hk)
  exact he j e hj
theorem without_len {ns : List (Nat × Nat)} {i : Nat} (hi : i < ns.length) : (without ns i).length + 1 = ns.length := by
  unfold without; simp; omega
theorem without_lbl {ns : List (Nat × Nat)} {i : Nat} {e : Nat × Nat} (hi : ns[i]? = some e) : lbl (without ns i ++ [e]) = lbl ns := by
  refine lbl_mem fun x => ⟨fun h => ?_, fun h => ?_⟩
  · rcases List.mem_append.1 h with h | h
    · obtain ⟨k, _, hk⟩ := of_mem_without h
      exact List.mem_of_getElem? hk
    · rw [List.mem_singleton.1 h]; exact List.mem_of_getElem? hi
  · obtain ⟨k, hk, rfl⟩ := List.getElem_of_mem h
    have hg : ns[k]? = some ns[k] := List.getElem?_eq_getElem hk
    by_cases e' : k = i
    · subst e'
      rw [hg] at hi; cases hi
      simp
    · exact List.mem_append.2 (.inl (mem_without hg e'))
theorem without_bridge {n : Nat} {ns : List (Nat × Nat)} (he : Ends n ns) {i : Nat} (hi : i < ns.length) (hb : bridge ns i = true) : (partsOf n (without ns i)).length = (partsOf n ns).length + 1 ∧ (otherOf (without ns i)).length = (otherOf ns).length := by
  obtain ⟨e, hei⟩ : ∃ e, ns[i]? = some e := ⟨_, List.getElem?_eq_getElem hi⟩
  have hne : lbl (without ns i) e.1 ≠ lbl (without ns i) e.2 := by
    unfold bridge at hb
    rw [hei] at hb
    simpa using hb
  have hends := he i e hei
  have h1 := rc_mrg (lbl_least (without ns i)) hends.1 hends.2.1 hne
  rw [← lbl_snoc, without_lbl hei] at h1
  have h2 := rc_forest ns he
  have h3 := rc_forest (without ns i) (without_ends he i)
  have h4 := forest_other ns
  have h5 := forest_other (without ns i)
  have h6 := without_len hi
  rw [rc_parts, rc_parts]
  omega
theorem without_not {n : Nat} {ns : List (Nat × Nat)} (he : Ends n ns) {i : Nat} (hi : i < ns.length) (hb : bridge ns i = false) : partsOf n (without ns i) = partsOf n ns ∧ (otherOf (without ns i)).length + 1 = (otherOf ns).length := by
  obtain ⟨e, hei⟩ : ∃ e, ns[i]? = some e := ⟨_, List.getElem?_eq_getElem hi⟩
  have heq : lbl (without ns i) e.1 = lbl (without ns i) e.2 := by
    unfold bridge at hb
    rw [hei] at hb
    simpa using hb
  have hl : lbl (without ns i) = lbl ns := by rw [← without_lbl hei, lbl_same heq]
  have h2 := rc_forest ns he
  have h3 := rc_forest (without ns i) (without_ends he i)
  have h4 := forest_other ns
  have h5 := forest_other (without ns i)
  have h6 := without_len hi
  rw [hl] at h3
  exact ⟨by unfold partsOf; rw [hl], by omega⟩
end Go.Proofs.Ytcaeemcobgopmaa
