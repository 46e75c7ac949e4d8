/-
  Graph, plain: walks and distances: symmetry, the triangle, parts.
-/
import Derived.Test.YtcaeemcobgopmaaRfD
namespace Go.Proofs.Ytcaeemcobgopmaa
set_option linter.unusedVariables false

/-- A walk of k edges. -/
inductive Walk (ns : List (Nat × Nat)) : Nat → Nat → Nat → Prop
  | nil (v : Nat) : Walk ns 0 v v
  | cons {k i v b : Nat} : inc ns i v = true → Walk ns k (oth ns i v) b → Walk ns (k + 1) v b

theorem Walk.trans {ns : List (Nat × Nat)} {j k u v b : Nat} (h : Walk ns j u v) (h' : Walk ns k v b) : Walk ns (j + k) u b := by
  induction h with
  | nil v => rw [Nat.zero_add]; exact h'
  | cons hi _ ih => rw [Nat.succ_add]; exact .cons hi (ih h')
theorem Walk.symm {ns : List (Nat × Nat)} {k u v : Nat} (h : Walk ns k u v) : Walk ns k v u := by
  induction h with
  | nil v => exact .nil v
  | cons hi _ ih =>
    obtain ⟨h1, h2⟩ := inc_oth hi
    have := Walk.cons h1 (Walk.nil _)
    rw [h2] at this
    exact ih.trans this
theorem Walk.lbl {ns : List (Nat × Nat)} {k u v : Nat} (h : Walk ns k u v) : lbl ns u = lbl ns v := by
  induction h with
  | nil v => rfl
  | cons hi _ ih =>
    obtain ⟨e, he, hc⟩ := inc_cases hi
    have := lbl_edge ns e (List.mem_of_getElem? he)
    rcases hc with ⟨rfl, ho⟩ | ⟨rfl, ho⟩
    · rw [ho] at ih; exact this.trans ih
    · rw [ho] at ih; exact this.symm.trans ih

theorem IsDist.walk_le {ns : List (Nat × Nat)} {b : Nat} {d : Nat → Int} (h : IsDist ns (fun _ => true) b d) {k v : Nat} (hw : Walk ns k v b) : 0 ≤ d v ∧ d v ≤ k := by
  induction hw with
  | nil v => rw [h.zero]; omega
  | cons hi _ ih =>
    obtain ⟨h1, h2⟩ := ih h
    obtain ⟨h3, h4⟩ := inc_oth hi
    have := h.to_ _ h1 _ rfl h3
    rw [h4] at this
    omega
theorem IsDist.walk {ns : List (Nat × Nat)} {b : Nat} {d : Nat → Int} (h : IsDist ns (fun _ => true) b d) : ∀ (k v : Nat), d v = k → Walk ns k v b := by
  intro k
  induction k with
  | zero =>
    intro v hv
    rcases h.from_ v with h1 | ⟨rfl, _⟩ | ⟨h1, _⟩
    · omega
    · exact .nil _
    · omega
  | succ k ih =>
    intro v hv
    rcases h.from_ v with h1 | ⟨_, h1⟩ | ⟨_, i, _, h2, h3⟩
    · omega
    · omega
    · exact .cons h2 (ih _ (by omega))
theorem IsDist.lbl {ns : List (Nat × Nat)} {b : Nat} {d : Nat → Int} (h : IsDist ns (fun _ => true) b d) (v : Nat) : 0 ≤ d v ↔ lbl ns v = lbl ns b := by
  constructor
  · intro h0
    exact (h.walk (d v).toNat v (by omega)).lbl
  · intro hl
    have key := lbl_const ns (fun v => decide (0 ≤ d v)) (fun e he => by
      obtain ⟨k, hk, rfl⟩ := List.getElem_of_mem he
      have hg : ns[k]? = some ns[k] := List.getElem?_eq_getElem hk
      have i1 : inc ns k (ns[k]).1 = true := by unfold inc; rw [hg]; simp
      have i2 : inc ns k (ns[k]).2 = true := by unfold inc; rw [hg]; simp
      refine decide_eq_decide.2 ⟨fun h0 => ?_, fun h0 => ?_⟩
      · have := (h.to_ _ h0 k rfl i1).1
        rw [oth_fst hg] at this; exact this
      · have := (h.to_ _ h0 k rfl i2).1
        rw [oth_snd hg] at this; exact this) v b hl
    have := decide_eq_decide.1 key
    exact this.2 (by rw [h.zero]; omega)
theorem dist_symm {ns : List (Nat × Nat)} {n a b : Nat} (he : Ends n ns) (ha : a < n) (hb : b < n) : 0 ≤ distOf ns (fun _ => true) n b a → 0 ≤ distOf ns (fun _ => true) n a b ∧ distOf ns (fun _ => true) n a b = distOf ns (fun _ => true) n b a := by
  intro h0
  have h1 := farOf_dist (U := fun _ => true) hb he
  have h2 := farOf_dist (U := fun _ => true) ha he
  have w1 := (IsDist.walk h1 (distOf ns (fun _ => true) n b a).toNat a (by show distOf ns _ n b a = _; omega)).symm
  have l1 := IsDist.walk_le h2 w1
  have w2 := (IsDist.walk h2 (distOf ns (fun _ => true) n a b).toNat b (by have := l1.1; show distOf ns _ n a b = _; unfold distOf at *; omega)).symm
  have l2 := IsDist.walk_le h1 w2
  unfold distOf at *
  omega
theorem dist_tri {ns : List (Nat × Nat)} {n a b c : Nat} (he : Ends n ns) (ha : a < n) (hb : b < n) (hc : c < n) (h1 : 0 ≤ distOf ns (fun _ => true) n c a) (h2 : 0 ≤ distOf ns (fun _ => true) n b c) : distOf ns (fun _ => true) n b a ≤ distOf ns (fun _ => true) n c a + distOf ns (fun _ => true) n b c := by
  have d1 := farOf_dist (U := fun _ => true) hc he
  have d2 := farOf_dist (U := fun _ => true) hb he
  have w1 := IsDist.walk d1 (distOf ns (fun _ => true) n c a).toNat a (by show distOf ns _ n c a = _; omega)
  have w2 := IsDist.walk d2 (distOf ns (fun _ => true) n b c).toNat c (by show distOf ns _ n b c = _; omega)
  have := IsDist.walk_le d2 (w1.trans w2)
  unfold distOf at *
  omega
theorem dist_lbl {ns : List (Nat × Nat)} {n a b : Nat} (he : Ends n ns) (hb : b < n) : 0 ≤ distOf ns (fun _ => true) n b a ↔ lbl ns a = lbl ns b := IsDist.lbl (farOf_dist (U := fun _ => true) hb he) a

/-- One step of the path. -/
theorem wayTo_cons {ns : List (Nat × Nat)} {U : Nat → Bool} {n b x : Nat} (he : Ends n ns) (hb : b < n) (hx : 0 ≤ distOf ns U n b x) :
    (x = b ∧ distOf ns U n b x = 0 ∧ wayTo ns U n b x = []) ∨ ∃ i, i < ns.length ∧ U i = true ∧ inc ns i x = true ∧ distOf ns U n b (oth ns i x) = distOf ns U n b x - 1 ∧ 1 ≤ distOf ns U n b x ∧ wayTo ns U n b x = i :: wayTo ns U n b (oth ns i x) := by
  have hd : IsDist ns U b (distOf ns U n b) := farOf_dist hb he
  rcases hd.from_ x with h1 | ⟨h1, h2⟩ | ⟨h1, i, h2, h3, h4⟩
  · omega
  · exact .inl ⟨h1, h2, wayTo_end h2⟩
  · right
    have hsome : ((ULst ns U).find? (fun i => inc ns i x && (distOf ns U n b (oth ns i x) == distOf ns U n b x - 1))).isSome = true := by
      rw [List.find?_isSome]
      exact ⟨i, ULst_mem.2 ⟨inc_lt h3, h2⟩, by simp [h3, h4]⟩
    obtain ⟨j, hj⟩ := Option.isSome_iff_exists.1 hsome
    have hm := ULst_mem.1 (List.mem_of_find?_eq_some hj)
    have hp := List.find?_some hj
    simp only [Bool.and_eq_true, beq_iff_eq] at hp
    exact ⟨j, hm.1, hm.2, hp.1, hp.2, h1, wayTo_step hj h1⟩
theorem wayTo_length {ns : List (Nat × Nat)} {U : Nat → Bool} {n b : Nat} (he : Ends n ns) (hb : b < n) : ∀ (k x : Nat), distOf ns U n b x = k → (wayTo ns U n b x).length = k := by
  intro k
  induction k with
  | zero =>
    intro x hx
    rw [wayTo_end (by omega)]; rfl
  | succ k ih =>
    intro x hx
    rcases wayTo_cons (U := U) he hb (x := x) (by omega) with ⟨_, h2, _⟩ | ⟨i, _, _, _, h4, _, h6⟩
    · omega
    · rw [h6, List.length_cons, ih _ (by omega)]

/-- Two nodes are in one part. -/
theorem partsOf_both {n a b : Nat} {ns : List (Nat × Nat)} (ha : a < n) (hb : b < n) : ((partsOf n ns).any fun r => decide (a ∈ r) && decide (b ∈ r)) = decide (lbl ns a = lbl ns b) := by
  rw [Bool.eq_iff_iff, List.any_eq_true, decide_eq_true_eq]
  unfold partsOf prt
  constructor
  · rintro ⟨r, hr, h⟩
    obtain ⟨x, _, rfl⟩ := List.mem_map.1 hr
    simp only [Bool.and_eq_true, decide_eq_true_eq, List.mem_filter, beq_iff_eq] at h
    rw [h.1.2, h.2.2]
  · intro h
    refine ⟨_, List.mem_map.2 ⟨lbl ns a, rootsTo_mem.2 ⟨lbl_lt ns ha, lbl_idem ns a⟩, rfl⟩, ?_⟩
    simp only [Bool.and_eq_true, decide_eq_true_eq, List.mem_filter, beq_iff_eq, List.mem_range]
    exact ⟨⟨ha, trivial⟩, hb, h.symm⟩
end Go.Proofs.Ytcaeemcobgopmaa
