/-
  Couplers (plain): what breaks all loops, loops that are apart, least lists.
-/
import Derived.Test.YtamogedpgkofjaaGreatCpm
namespace Go.Proofs.YtamogedpgkofjaaGreat
section
open Go.RowKit
set_option linter.unusedVariables false
set_option linter.unusedSimpArgs false

theorem ntI_mem {l : List Nat} {x : Nat} : (x : Int) ∈ ntI l ↔ x ∈ l := by
  unfold ntI
  rw [List.mem_map]
  constructor
  · rintro ⟨k, hk, he⟩
    have : k = x := by omega
    rw [← this]; exact hk
  · intro h
    exact ⟨x, h, rfl⟩
theorem ntI_app (l r : List Nat) : ntI (l ++ r) = ntI l ++ ntI r := List.map_append ..
theorem oth_sub {n : Nat} {l l' : List Int} (h : ∀ x ∈ l, x ∈ l') : ∀ y ∈ othN n l', y ∈ othN n l := by
  intro y hy
  rw [othN_mem] at hy ⊢
  exact ⟨hy.1, fun hm => hy.2 (h _ hm)⟩
theorem subE_get {es : List (Nat × Nat)} {nodes : List Nat} {a b : Nat} (hn : nodes.Nodup) (h : (a, b) ∈ subE es nodes) : ∃ x y, nodes[a]? = some x ∧ nodes[b]? = some y ∧ (x, y) ∈ es := by
  obtain ⟨h1, h2⟩ := (subE_ends es nodes).mem h
  simp only at h1 h2
  refine ⟨nodes[a], nodes[b], List.getElem?_eq_getElem h1, List.getElem?_eq_getElem h2, ?_⟩
  exact (subE_mem hn (List.getElem?_eq_getElem h1) (List.getElem?_eq_getElem h2)).1 h
/-- The edges between nodes, by their own numbers. -/
def resE (es : List (Nat × Nat)) (nodes : List Nat) : List (Nat × Nat) := es.filter fun e => decide (e.1 ∈ nodes) && decide (e.2 ∈ nodes)
theorem resE_mem {es : List (Nat × Nat)} {nodes : List Nat} {x y : Nat} : (x, y) ∈ resE es nodes ↔ (x, y) ∈ es ∧ x ∈ nodes ∧ y ∈ nodes := by
  unfold resE
  rw [List.mem_filter, Bool.and_eq_true, decide_eq_true_eq, decide_eq_true_eq]
theorem rch_mono {es es' : List (Nat × Nat)} (h : ∀ x y, (x, y) ∈ es → (x, y) ∈ es') {x y : Nat} (hr : Rch es x y) : Rch es' x y := by
  induction hr with
  | refl => exact .refl _
  | step _ he ih => exact .step ih (h _ _ he)
theorem cyc_mono {es es' : List (Nat × Nat)} (h : ∀ x y, (x, y) ∈ es → (x, y) ∈ es') (hc : hasCyc es) : hasCyc es' := by
  obtain ⟨x, y, h1, h2⟩ := hc
  exact ⟨x, y, h _ _ h1, rch_mono h h2⟩
theorem sub_rch {es : List (Nat × Nat)} {nodes : List Nat} (hn : nodes.Nodup) {a b : Nat} (h : Rch (subE es nodes) a b) : ∀ x, nodes[a]? = some x → ∃ y, nodes[b]? = some y ∧ Rch (resE es nodes) x y := by
  induction h with
  | refl => intro x hx; exact ⟨x, hx, .refl _⟩
  | step _ he ih =>
    intro x hx
    obtain ⟨y, hy, hr⟩ := ih x hx
    obtain ⟨u, v, hu, hv, huv⟩ := subE_get hn he
    rw [hy] at hu
    cases hu
    exact ⟨v, hv, .step hr (resE_mem.2 ⟨huv, List.mem_of_getElem? hy, List.mem_of_getElem? hv⟩)⟩
theorem idx_at {nodes : List Nat} {x : Nat} (h : x ∈ nodes) : nodes[nodes.idxOf x]? = some x := by
  rw [List.getElem?_eq_getElem (List.idxOf_lt_length_of_mem h)]
  exact congrArg some (List.getElem_idxOf _)
theorem res_rch {es : List (Nat × Nat)} {nodes : List Nat} (hn : nodes.Nodup) {x y : Nat} (h : Rch (resE es nodes) x y) : Rch (subE es nodes) (nodes.idxOf x) (nodes.idxOf y) := by
  induction h with
  | refl => exact .refl _
  | step _ he ih =>
    obtain ⟨h1, h2, h3⟩ := resE_mem.1 he
    exact .step ih ((subE_mem hn (idx_at h2) (idx_at h3)).2 h1)
theorem sub_cyc {es : List (Nat × Nat)} {nodes : List Nat} (hn : nodes.Nodup) : hasCyc (subE es nodes) ↔ hasCyc (resE es nodes) := by
  constructor
  · rintro ⟨a, b, h1, h2⟩
    obtain ⟨x, y, hx, hy, hxy⟩ := subE_get hn h1
    obtain ⟨z, hz, hr⟩ := sub_rch hn h2 y hy
    rw [hx] at hz
    cases hz
    exact ⟨x, y, resE_mem.2 ⟨hxy, List.mem_of_getElem? hx, List.mem_of_getElem? hy⟩, hr⟩
  · rintro ⟨x, y, h1, h2⟩
    obtain ⟨h3, h4, h5⟩ := resE_mem.1 h1
    exact ⟨nodes.idxOf x, nodes.idxOf y, (subE_mem hn (idx_at h4) (idx_at h5)).2 h3, res_rch hn h2⟩
/-- A list breaks all loops. -/
def brkC (n : Nat) (es : List (Nat × Nat)) (l : List Int) : Prop := ¬ hasCyc (resE es (othN n l))
theorem brk_mono {n : Nat} {es : List (Nat × Nat)} {l l' : List Int} (h : ∀ x ∈ l, x ∈ l') (hb : brkC n es l) : brkC n es l' := fun hc => hb (cyc_mono (fun x y hm => by
  obtain ⟨h1, h2, h3⟩ := resE_mem.1 hm
  exact resE_mem.2 ⟨h1, oth_sub h _ h2, oth_sub h _ h3⟩) hc)
theorem ord_yes {n : Nat} {es : List (Nat × Nat)} {l : List Int} (h : brkC n es l) : ∃ D, orderOf (othN n l).length (subE es (othN n l)) = some D ∧ ordC n es l = some (namN (othN n l) D) := by
  cases ho : orderOf (othN n l).length (subE es (othN n l)) with
  | none => exact absurd ((sub_cyc (othN_nodup n l)).1 (order_none (subE_ends _ _) ho)) h
  | some D => exact ⟨D, rfl, by unfold ordC; rw [ho]; rfl⟩
theorem ord_brk {n : Nat} {es : List (Nat × Nat)} {l : List Int} {o : List Nat} (h : ordC n es l = some o) : brkC n es l := by
  unfold ordC at h
  cases ho : orderOf (othN n l).length (subE es (othN n l)) with
  | none => rw [ho] at h; cases h
  | some D => exact fun hc => order_some (subE_ends _ _) ho ((sub_cyc (othN_nodup n l)).2 hc)
theorem ord_not {n : Nat} {es : List (Nat × Nat)} {l : List Int} (h : ordC n es l = none) : ¬ brkC n es l := fun hb => by
  obtain ⟨D, _, h2⟩ := ord_yes hb
  rw [h] at h2
  cases h2
/-- A loop among the bars that a list does not have. -/
structure LoopC (n : Nat) (es : List (Nat × Nat)) (l : List Int) (L : List Nat) : Prop where
  pos : 0 < L.length
  oth : ∀ x ∈ L, x ∈ othN n l
  nodup : L.Nodup
  edge : ∀ (j x y : Nat), L[j]? = some x → L[j + 1]? = some y → (x, y) ∈ es
  back : ∀ x y, L[0]? = some x → L[L.length - 1]? = some y → (y, x) ∈ es
theorem namN_get {nodes places : List Nat} {j x : Nat} (hlt : ∀ k ∈ places, k < nodes.length) (h : (namN nodes places)[j]? = some x) : ∃ k, places[j]? = some k ∧ nodes[k]? = some x := by
  unfold namN at h
  rw [List.getElem?_map] at h
  cases hp : places[j]? with
  | none => rw [hp] at h; cases h
  | some k =>
    rw [hp] at h
    have hk := hlt k (List.mem_of_getElem? hp)
    simp only [Option.map_some, Option.some.injEq] at h
    refine ⟨k, rfl, ?_⟩
    rw [← h, List.getD_eq_getElem?_getD, List.getElem?_eq_getElem hk]; rfl
theorem namN_nodup {nodes places : List Nat} (hn : nodes.Nodup) (hp : places.Nodup) (hlt : ∀ k ∈ places, k < nodes.length) : (namN nodes places).Nodup := by
  unfold namN
  refine List.pairwise_map.2 (List.Pairwise.imp_of_mem ?_ hp)
  intro a b ha hb hne he
  have h1 := hlt a ha
  have h2 := hlt b hb
  rw [List.getD_eq_getElem?_getD, List.getD_eq_getElem?_getD, List.getElem?_eq_getElem h1, List.getElem?_eq_getElem h2] at he
  have h3 := congrArg (fun z => nodes.idxOf z) he
  simp only [Option.getD_some, List.Nodup.idxOf_getElem hn a h1, List.Nodup.idxOf_getElem hn b h2] at h3
  exact hne h3
theorem lop_is {n : Nat} {es : List (Nat × Nat)} {l : List Int} {L : List Nat} (h : lopC n es l = some L) : LoopC n es l L := by
  unfold lopC at h
  cases ho : loopOf (othN n l).length (subE es (othN n l)) with
  | none => rw [ho] at h; cases h
  | some D =>
    rw [ho] at h
    simp only [Option.map_some, Option.some.injEq] at h
    subst h
    have hI := loop_some (subE_ends es (othN n l)) (all_far _ _) _ (Nat.le_refl _) D ho
    have hN := othN_nodup n l
    refine ⟨by rw [namN_len]; exact hI.pos, ?_, namN_nodup hN hI.nodup hI.lt, ?_, ?_⟩
    · intro x hx
      obtain ⟨j, hj⟩ := List.getElem?_of_mem hx
      obtain ⟨k, _, hk⟩ := namN_get hI.lt hj
      exact List.mem_of_getElem? hk
    · intro j x y hx hy
      obtain ⟨a, ha, hax⟩ := namN_get hI.lt hx
      obtain ⟨b, hb, hby⟩ := namN_get hI.lt hy
      exact (subE_mem hN hax hby).1 (hI.edge j a b ha hb)
    · intro x y hx hy
      rw [namN_len] at hy
      obtain ⟨a, ha, hax⟩ := namN_get hI.lt hx
      obtain ⟨b, hb, hby⟩ := namN_get hI.lt hy
      exact (subE_mem hN hby hax).1 (hI.back a b ha hb)
theorem lop_brk {n : Nat} {es : List (Nat × Nat)} {l : List Int} (h : lopC n es l = none) : brkC n es l := by
  unfold lopC at h
  cases ho : loopOf (othN n l).length (subE es (othN n l)) with
  | none => exact fun hc => loop_none (subE_ends _ _) (all_far _ _) ho ((sub_cyc (othN_nodup n l)).2 hc)
  | some D => rw [ho] at h; cases h
theorem loop_rch {es : List (Nat × Nat)} {L : List Nat} (h : ∀ (j x y : Nat), L[j]? = some x → L[j + 1]? = some y → (x, y) ∈ es) : ∀ (j x y : Nat), L[0]? = some x → L[j]? = some y → Rch es x y
  | 0, x, y, hx, hy => by rw [hx] at hy; cases hy; exact .refl _
  | j + 1, x, y, hx, hy => by
    have hj : j + 1 < L.length := (List.getElem?_eq_some_iff.1 hy).1
    have hz : L[j]? = some (L[j]'(by omega)) := List.getElem?_eq_getElem (by omega)
    exact .step (loop_rch h j x _ hx hz) (h j _ _ hz hy)
theorem loopC_hit {n : Nat} {es : List (Nat × Nat)} {l m : List Int} {L : List Nat} (h : LoopC n es l L) (hb : brkC n es m) : ∃ x ∈ L, (x : Int) ∈ m := by
  by_cases hex : ∃ x ∈ L, (x : Int) ∈ m
  · exact hex
  · refine absurd ?_ hb
    have hoth : ∀ x ∈ L, x ∈ othN n m := fun x hx => othN_mem.2 ⟨(othN_mem.1 (h.oth x hx)).1, fun hm => hex ⟨x, hx, hm⟩⟩
    have he : ∀ (j x y : Nat), L[j]? = some x → L[j + 1]? = some y → (x, y) ∈ resE es (othN n m) := fun j x y hx hy => resE_mem.2 ⟨h.edge j x y hx hy, hoth x (List.mem_of_getElem? hx), hoth y (List.mem_of_getElem? hy)⟩
    have hp := h.pos
    have h0 : L[0]? = some (L[0]'hp) := List.getElem?_eq_getElem hp
    have h1 : L[L.length - 1]? = some (L[L.length - 1]'(by omega)) := List.getElem?_eq_getElem (by omega)
    exact ⟨_, _, resE_mem.2 ⟨h.back _ _ h0 h1, hoth _ (List.mem_of_getElem? h1), hoth _ (List.mem_of_getElem? h0)⟩, loop_rch he _ _ _ h0 h1⟩
theorem lop_not {n : Nat} {es : List (Nat × Nat)} {l : List Int} {L : List Nat} (h : lopC n es l = some L) : ¬ brkC n es l := fun hb => by
  obtain ⟨x, hx, hm⟩ := loopC_hit (lop_is h) hb
  exact (othN_mem.1 ((lop_is h).oth x hx)).2 hm

/-- The loops, one after another, and the bars that they have. -/
noncomputable def lpsK (n : Nat) (es : List (Nat × Nat)) : Nat → List (List Nat) × List Nat
  | 0 => ([], [])
  | k + 1 => match lopC n es (ntI (lpsK n es k).2) with
    | none => lpsK n es k
    | some L => ((lpsK n es k).1 ++ [L], (lpsK n es k).2 ++ L)
noncomputable def lpsC (n : Nat) (es : List (Nat × Nat)) : List (List Nat) := (lpsK n es n).1
theorem lpsK_some {n : Nat} {es : List (Nat × Nat)} {k : Nat} {L : List Nat} (h : lopC n es (ntI (lpsK n es k).2) = some L) : lpsK n es (k + 1) = ((lpsK n es k).1 ++ [L], (lpsK n es k).2 ++ L) := by
  show (match lopC n es (ntI (lpsK n es k).2) with | none => lpsK n es k | some L => _) = _
  rw [h]
theorem lpsK_none {n : Nat} {es : List (Nat × Nat)} {k : Nat} (h : lopC n es (ntI (lpsK n es k).2) = none) : lpsK n es (k + 1) = lpsK n es k := by
  show (match lopC n es (ntI (lpsK n es k).2) with | none => lpsK n es k | some L => _) = _
  rw [h]
theorem lpsK_end {n : Nat} {es : List (Nat × Nat)} {k : Nat} (h : lopC n es (ntI (lpsK n es k).2) = none) : ∀ j, k ≤ j → lpsK n es j = lpsK n es k
  | 0, hj => by rw [Nat.le_zero.1 hj]
  | j + 1, hj => by
    rcases Nat.lt_or_eq_of_le hj with h1 | h1
    · have h2 := lpsK_end h j (by omega)
      rw [lpsK_none (by rw [h2]; exact h), h2]
    · rw [h1]
structure LpsOk (n : Nat) (es : List (Nat × Nat)) (k : Nat) (s : List (List Nat) × List Nat) : Prop where
  flat : s.2 = s.1.flatten
  nodup : s.2.Nodup
  lt : ∀ x ∈ s.2, x < n
  each : ∀ L ∈ s.1, ∃ l, LoopC n es l L
  len : s.1.length ≤ s.2.length
theorem lps_ok (n : Nat) (es : List (Nat × Nat)) : ∀ k, LpsOk n es k (lpsK n es k)
  | 0 => ⟨rfl, List.nodup_nil, fun x hx => (by cases hx), fun L hL => (by cases hL), Nat.le_refl _⟩
  | k + 1 => by
    have ih := lps_ok n es k
    cases h : lopC n es (ntI (lpsK n es k).2) with
    | none => rw [lpsK_none h]; exact ⟨ih.flat, ih.nodup, ih.lt, ih.each, ih.len⟩
    | some L =>
      rw [lpsK_some h]
      have hL := lop_is h
      refine ⟨?_, ?_, ?_, ?_, ?_⟩
      · show _ ++ L = (_ ++ [L]).flatten
        rw [List.flatten_append, ← ih.flat]; simp
      · refine List.nodup_append.2 ⟨ih.nodup, hL.nodup, ?_⟩
        intro a ha b hb hab
        subst hab
        exact (othN_mem.1 (hL.oth a hb)).2 (ntI_mem.2 ha)
      · intro x hx
        rcases List.mem_append.1 hx with h1 | h1
        · exact ih.lt x h1
        · exact (othN_mem.1 (hL.oth x h1)).1
      · intro M hM
        rcases List.mem_append.1 hM with h1 | h1
        · exact ih.each M h1
        · rw [List.mem_singleton.1 h1]; exact ⟨_, hL⟩
      · have h1 := ih.len
        have h2 := hL.pos
        simp only [List.length_append, List.length_cons, List.length_nil]
        omega
theorem lps_size (n : Nat) (es : List (Nat × Nat)) (k : Nat) : (lpsK n es k).2.length ≤ n := by
  have h := lps_ok n es k
  have := sub_len (lpsK n es k).2 (List.range n) h.nodup (fun x hx => List.mem_range.2 (h.lt x hx))
  rwa [List.length_range] at this
theorem lps_open {n : Nat} {es : List (Nat × Nat)} : ∀ k, (∀ j, j < k → lopC n es (ntI (lpsK n es j).2) ≠ none) → (lpsK n es k).1.length = k
  | 0, _ => rfl
  | k + 1, h => by
    have ih := lps_open k (fun j hj => h j (by omega))
    cases hl : lopC n es (ntI (lpsK n es k).2) with
    | none => exact absurd hl (h k (by omega))
    | some L => rw [lpsK_some hl]; simp [ih]
/-- After n loops there is none. -/
theorem lps_fin (n : Nat) (es : List (Nat × Nat)) : lopC n es (ntI (lpsK n es n).2) = none := by
  by_cases hex : ∃ j, j < n ∧ lopC n es (ntI (lpsK n es j).2) = none
  · obtain ⟨j, hj, h⟩ := hex
    rw [lpsK_end h n (by omega)]
    exact h
  · have h1 : ∀ j, j < n → lopC n es (ntI (lpsK n es j).2) ≠ none := fun j hj h => hex ⟨j, hj, h⟩
    have h2 := lps_open n h1
    have h3 := lps_ok n es n
    cases hl : lopC n es (ntI (lpsK n es n).2) with
    | none => rfl
    | some L =>
      have hL := lop_is hl
      have h4 := lpsK_some hl
      have h5 := lps_size n es (n + 1)
      rw [h4] at h5
      have h6 := hL.pos
      have h7 := h3.len
      simp only [List.length_append] at h5
      omega
theorem lps_lt {n : Nat} {es : List (Nat × Nat)} {k : Nat} (hk : k ≤ n) (h : lopC n es (ntI (lpsK n es k).2) ≠ none) : k < n := by
  rcases Nat.lt_or_eq_of_le hk with h1 | h1
  · exact h1
  · subst h1; exact absurd (lps_fin k es) h
theorem lps_done {n : Nat} {es : List (Nat × Nat)} {k : Nat} (hk : k ≤ n) (h : lopC n es (ntI (lpsK n es k).2) = none) : lpsC n es = (lpsK n es k).1 := by
  unfold lpsC
  rw [lpsK_end h n hk]
theorem lps_picks {S : List Nat} : ∀ out : List (List Nat), out.flatten.Nodup → (∀ L ∈ out, ∃ x ∈ L, x ∈ S) → ∃ p : List Nat, p.length = out.length ∧ p.Nodup ∧ (∀ x ∈ p, x ∈ S) ∧ ∀ x ∈ p, x ∈ out.flatten
  | [], _, _ => ⟨[], rfl, List.nodup_nil, fun x hx => (by cases hx), fun x hx => (by cases hx)⟩
  | L :: out, hn, h => by
    rw [List.flatten_cons, List.nodup_append] at hn
    obtain ⟨p, h1, h2, h3, h4⟩ := lps_picks out hn.2.1 (fun M hM => h M (List.mem_cons_of_mem _ hM))
    obtain ⟨x, hx, hS⟩ := h L List.mem_cons_self
    refine ⟨x :: p, by simp [h1], ?_, ?_, ?_⟩
    · rw [List.nodup_cons]
      exact ⟨fun hm => hn.2.2 x hx x (h4 x hm) rfl, h2⟩
    · intro y hy
      rcases List.mem_cons.1 hy with rfl | hy
      · exact hS
      · exact h3 y hy
    · intro y hy
      rw [List.flatten_cons]
      rcases List.mem_cons.1 hy with rfl | hy
      · exact List.mem_append_left _ hx
      · exact List.mem_append_right _ (h4 y hy)
theorem lps_few {n : Nat} {es : List (Nat × Nat)} {m : List Nat} (hb : brkC n es (ntI m)) : (lpsC n es).length ≤ m.length := by
  have h := lps_ok n es n
  obtain ⟨p, h1, h2, h3, _⟩ := lps_picks (S := m) (lpsK n es n).1 (by rw [← h.flat]; exact h.nodup) (fun L hL => by
    obtain ⟨l, hl⟩ := h.each L hL
    obtain ⟨x, hx, hm⟩ := loopC_hit hl hb
    exact ⟨x, hx, ntI_mem.1 hm⟩)
  have := sub_len p m h2 h3
  unfold lpsC
  omega
theorem lps_nil {n : Nat} {es : List (Nat × Nat)} : lpsC n es = [] ↔ brkC n es [] := by
  constructor
  · intro h
    cases hl : lopC n es [] with
    | none => exact lop_brk hl
    | some L =>
      have h0 : lopC n es (ntI (lpsK n es 0).2) = some L := hl
      have h1 := lpsK_some h0
      have hmono : ∀ j, (lpsK n es 1).1.length ≤ (lpsK n es (j + 1)).1.length := by
        intro j
        induction j with
        | zero => exact Nat.le_refl _
        | succ j ih =>
          cases hj : lopC n es (ntI (lpsK n es (j + 1)).2) with
          | none => rw [lpsK_none hj]; exact ih
          | some M => rw [lpsK_some hj]; simp only [List.length_append]; omega
      have hn : 0 < n := lps_lt (Nat.zero_le _) (by rw [h0]; simp)
      have h2 := hmono (n - 1)
      rw [show n - 1 + 1 = n by omega, h1] at h2
      unfold lpsC at h
      rw [h] at h2
      simp at h2
  · intro hb
    cases hl : lopC n es [] with
    | none => exact lps_done (k := 0) (Nat.zero_le _) hl
    | some L => exact absurd hb (lop_not hl)

/-- The first list, with some bars and so many further ones that ascend from a number on, that breaks all loops. -/
def chooseC (n : Nat) (es : List (Nat × Nat)) : Nat → List Nat → Nat → Option (List Nat)
  | 0, l, _ => if (ordC n es (ntI l)).isSome then some l else none
  | m + 1, l, fr => (List.range' fr (n - fr)).findSome? fun i => chooseC n es m (l ++ [i]) (i + 1)
theorem choose_some {n : Nat} {es : List (Nat × Nat)} : ∀ (m : Nat) (l : List Nat) (fr : Nat) (r : List Nat), chooseC n es m l fr = some r → ∃ t, r = l ++ t ∧ t.length = m ∧ t.Pairwise (· < ·) ∧ (∀ x ∈ t, fr ≤ x ∧ x < n) ∧ brkC n es (ntI r)
  | 0, l, fr, r, h => by
    unfold chooseC at h
    cases ho : ordC n es (ntI l) with
    | none => rw [ho] at h; cases h
    | some o =>
      rw [ho] at h
      obtain rfl : l = r := by simpa using h
      exact ⟨[], by simp, rfl, List.Pairwise.nil, fun x hx => (by cases hx), ord_brk ho⟩
  | m + 1, l, fr, r, h => by
    unfold chooseC at h
    obtain ⟨i, hi, h2⟩ := List.exists_of_findSome?_eq_some h
    obtain ⟨j, hj, hij⟩ := List.mem_range'.1 hi
    obtain ⟨t, h3, h4, h5, h6, h7⟩ := choose_some m (l ++ [i]) (i + 1) r h2
    refine ⟨i :: t, by rw [h3]; simp, by simp [h4], List.pairwise_cons.2 ⟨fun x hx => by have := h6 x hx; omega, h5⟩, ?_, h7⟩
    intro x hx
    rcases List.mem_cons.1 hx with rfl | hx
    · omega
    · have := h6 x hx; omega
theorem choose_none {n : Nat} {es : List (Nat × Nat)} : ∀ (m : Nat) (l : List Nat) (fr : Nat), chooseC n es m l fr = none → ∀ t : List Nat, t.length = m → t.Pairwise (· < ·) → (∀ x ∈ t, fr ≤ x ∧ x < n) → ¬ brkC n es (ntI (l ++ t))
  | 0, l, fr, h, t, h1, _, _ => by
    rw [List.length_eq_zero_iff.1 h1, List.append_nil]
    unfold chooseC at h
    cases ho : ordC n es (ntI l) with
    | none => exact ord_not ho
    | some o => rw [ho] at h; simp at h
  | m + 1, l, fr, h, t, h1, h2, h3 => by
    cases t with
    | nil => simp at h1
    | cons i t =>
      unfold chooseC at h
      have hi := h3 i List.mem_cons_self
      have h4 := List.findSome?_eq_none_iff.1 h i (List.mem_range'.2 ⟨i - fr, by omega, by omega⟩)
      have h5 := List.pairwise_cons.1 h2
      have := choose_none m (l ++ [i]) (i + 1) h4 t (by simpa using h1) h5.2 (fun x hx => ⟨by have := h5.1 x hx; omega, (h3 x (List.mem_cons_of_mem _ hx)).2⟩)
      simpa using this
theorem asc_len {n : Nat} : ∀ (t : List Nat) (fr : Nat), t.Pairwise (· < ·) → (∀ x ∈ t, fr ≤ x ∧ x < n) → t.length ≤ n - fr
  | [], fr, _, _ => Nat.zero_le _
  | i :: t, fr, h1, h2 => by
    have h3 := List.pairwise_cons.1 h1
    have h4 := h2 i List.mem_cons_self
    have := asc_len t (i + 1) h3.2 (fun x hx => ⟨by have := h3.1 x hx; omega, (h2 x (List.mem_cons_of_mem _ hx)).2⟩)
    simp only [List.length_cons]
    omega
theorem choose_short {n : Nat} {es : List (Nat × Nat)} {m : Nat} {l : List Nat} {fr : Nat} (h : n - fr < m) : chooseC n es m l fr = none := by
  cases hc : chooseC n es m l fr with
  | none => rfl
  | some r =>
    obtain ⟨t, _, h2, h3, h4, _⟩ := choose_some m l fr r hc
    have := asc_len t fr h3 h4
    omega
theorem choose_hit {n : Nat} {es : List (Nat × Nat)} {m : Nat} {l r : List Nat} {fr i : Nat} (h0 : ∀ j, fr ≤ j → j < i → chooseC n es m (l ++ [j]) (j + 1) = none) (hf : fr ≤ i) (hi : i < n) (h : chooseC n es m (l ++ [i]) (i + 1) = some r) : chooseC n es (m + 1) l fr = some r := by
  unfold chooseC
  have e : List.range' fr (n - fr) = List.range' fr (i - fr) ++ i :: List.range' (i + 1) (n - i - 1) := by
    have h1 : List.range' fr (n - fr) = List.range' fr (i - fr) ++ List.range' (fr + 1 * (i - fr)) (n - i) := by
      rw [List.range'_append, show i - fr + (n - i) = n - fr by omega]
    rw [h1, show fr + 1 * (i - fr) = i by omega, show n - i = (n - i - 1) + 1 by omega, List.range'_succ]
    simp
  rw [e, List.findSome?_append]
  have h1 : (List.range' fr (i - fr)).findSome? (fun i => chooseC n es m (l ++ [i]) (i + 1)) = none := List.findSome?_eq_none_iff.2 fun j hj => by
    obtain ⟨q, hq, hjq⟩ := List.mem_range'.1 hj
    exact h0 j (by omega) (by omega)
  rw [h1, List.findSome?_cons, h]
  rfl
theorem choose_miss {n : Nat} {es : List (Nat × Nat)} {m : Nat} {l : List Nat} {fr : Nat} (h0 : ∀ j, fr ≤ j → j < n → chooseC n es m (l ++ [j]) (j + 1) = none) : chooseC n es (m + 1) l fr = none := by
  unfold chooseC
  refine List.findSome?_eq_none_iff.2 fun j hj => ?_
  obtain ⟨q, hq, hjq⟩ := List.mem_range'.1 hj
  exact h0 j (by omega) (by omega)
/-- The couplers. -/
def needC (n : Nat) (es : List (Nat × Nat)) : List Nat := ((List.range (n + 1)).findSome? fun k => chooseC n es k [] 0).getD []
theorem oth_all (n : Nat) : othN n (ntI (List.range n)) = [] := by
  cases h : othN n (ntI (List.range n)) with
  | nil => rfl
  | cons a t =>
    have := othN_mem.1 (show a ∈ othN n (ntI (List.range n)) by rw [h]; exact List.mem_cons_self)
    exact absurd (ntI_mem.2 (List.mem_range.2 this.1)) this.2
theorem brk_all (n : Nat) (es : List (Nat × Nat)) : brkC n es (ntI (List.range n)) := by
  unfold brkC
  rw [oth_all]
  rintro ⟨x, y, h, _⟩
  exact absurd (resE_mem.1 h).2.1 (by simp)
theorem choose_last (n : Nat) (es : List (Nat × Nat)) : chooseC n es n [] 0 ≠ none := fun h =>
  choose_none n [] 0 h (List.range n) (by simp) List.pairwise_lt_range (fun x hx => ⟨Nat.zero_le _, List.mem_range.1 hx⟩) (by simpa using brk_all n es)
theorem need_at {n : Nat} {es : List (Nat × Nat)} {k : Nat} {r : List Nat} (hk : k ≤ n) (h0 : ∀ j, j < k → chooseC n es j [] 0 = none) (h : chooseC n es k [] 0 = some r) : needC n es = r := by
  unfold needC
  have e : List.range (n + 1) = List.range k ++ k :: List.range' (k + 1) (n - k) := by
    have h1 : List.range' 0 (n + 1) = List.range' 0 k ++ List.range' (0 + 1 * k) (n + 1 - k) := by rw [List.range'_append, show k + (n + 1 - k) = n + 1 by omega]
    rw [List.range_eq_range', List.range_eq_range', h1, show 0 + 1 * k = k by omega, show n + 1 - k = (n - k) + 1 by omega, List.range'_succ]
  rw [e, List.findSome?_append]
  have h1 : (List.range k).findSome? (fun k => chooseC n es k [] 0) = none := List.findSome?_eq_none_iff.2 fun j hj => h0 j (List.mem_range.1 hj)
  rw [h1, List.findSome?_cons, h]
  rfl
theorem need_ex (n : Nat) (es : List (Nat × Nat)) : ∃ k, k ≤ n ∧ (∀ j, j < k → chooseC n es j [] 0 = none) ∧ chooseC n es k [] 0 = some (needC n es) := by
  obtain ⟨k, hk, hmin⟩ := least_ex (P := fun k => chooseC n es k [] 0 ≠ none) ⟨n, choose_last n es⟩
  have h0 : ∀ j, j < k → chooseC n es j [] 0 = none := fun j hj => Classical.not_not.1 (hmin j hj)
  have hkn : k ≤ n := by
    by_cases h : n < k
    · exact absurd (h0 n h) (choose_last n es)
    · omega
  cases hc : chooseC n es k [] 0 with
  | none => exact absurd hc hk
  | some r => exact ⟨k, hkn, h0, by rw [need_at hkn h0 hc]; exact hc⟩
structure NeedOk (n : Nat) (es : List (Nat × Nat)) (r : List Nat) : Prop where
  sort : r.Pairwise (· < ·)
  lt : ∀ x ∈ r, x < n
  brk : brkC n es (ntI r)
  least : ∀ l : List Nat, brkC n es (ntI l) → r.length ≤ l.length
theorem need_ok (n : Nat) (es : List (Nat × Nat)) : NeedOk n es (needC n es) := by
  obtain ⟨k, hk, h0, h⟩ := need_ex n es
  obtain ⟨t, h1, h2, h3, h4, h5⟩ := choose_some k [] 0 _ h
  rw [List.nil_append] at h1
  rw [h1] at h5 ⊢
  refine ⟨h3, fun x hx => (h4 x hx).2, h5, ?_⟩
  intro l hl
  obtain ⟨s, hs⟩ : ∃ s, (List.range n).filter (fun i => decide (i ∈ l)) = s := ⟨_, rfl⟩
  have hsm : ∀ x, x ∈ s ↔ x < n ∧ x ∈ l := fun x => by rw [← hs]; simp
  have hsp : s.Pairwise (· < ·) := by rw [← hs]; exact List.pairwise_lt_range.sublist List.filter_sublist
  have hsn : s.Nodup := by rw [← hs]; exact List.nodup_range.sublist List.filter_sublist
  have hsl : s.length ≤ l.length := sub_len s l hsn (fun x hx => ((hsm x).1 hx).2)
  have hsb : brkC n es (ntI s) := by
    intro hc
    refine hl (cyc_mono (fun x y hm => ?_) hc)
    obtain ⟨h6, h7, h8⟩ := resE_mem.1 hm
    have hsub : ∀ z, z ∈ othN n (ntI s) → z ∈ othN n (ntI l) := fun z hz => by
      rw [othN_mem] at hz ⊢
      exact ⟨hz.1, fun hm => hz.2 (ntI_mem.2 ((hsm z).2 ⟨hz.1, ntI_mem.1 hm⟩))⟩
    exact resE_mem.2 ⟨h6, hsub x h7, hsub y h8⟩
  by_cases hlt : s.length < k
  · exact absurd hsb (by simpa using choose_none s.length [] 0 (h0 _ hlt) s rfl hsp (fun x hx => ⟨Nat.zero_le _, ((hsm x).1 hx).1⟩))
  · omega
theorem need_nodup (n : Nat) (es : List (Nat × Nat)) : (needC n es).Nodup := (need_ok n es).sort.imp (fun h => Nat.ne_of_lt h)
theorem need_nil {n : Nat} {es : List (Nat × Nat)} : needC n es = [] ↔ brkC n es [] := by
  constructor
  · intro h
    have := (need_ok n es).brk
    rw [h] at this
    exact this
  · intro h
    have := (need_ok n es).least [] h
    exact List.length_eq_zero_iff.1 (by simpa using this)
theorem asc_full {n : Nat} {t : List Nat} (h1 : t.Pairwise (· < ·)) (h2 : ∀ x ∈ t, x < n) (h3 : t.length = n) : t = List.range n := by
  have hp : ∀ (t : List Nat) (fr : Nat), t.Pairwise (· < ·) → (∀ x ∈ t, fr ≤ x ∧ x < n) → t.length = n - fr → t = List.range' fr (n - fr) := by
    intro t
    induction t with
    | nil => intro fr _ _ h; rw [← h]; rfl
    | cons i t ih =>
      intro fr h1 h2 h3
      have h4 := List.pairwise_cons.1 h1
      have h5 := h2 i List.mem_cons_self
      have h6 := asc_len t (i + 1) h4.2 (fun x hx => ⟨by have := h4.1 x hx; omega, (h2 x (List.mem_cons_of_mem _ hx)).2⟩)
      simp only [List.length_cons] at h3
      obtain rfl : i = fr := by omega
      have h7 := ih (i + 1) h4.2 (fun x hx => ⟨by have := h4.1 x hx; omega, (h2 x (List.mem_cons_of_mem _ hx)).2⟩) (by omega)
      rw [show n - i = (n - (i + 1)) + 1 by omega, List.range'_succ, ← h7]
  rw [List.range_eq_range']
  have := hp t 0 h1 (fun x hx => ⟨Nat.zero_le _, h2 x hx⟩) (by omega)
  simpa using this
theorem oth_nil (n : Nat) : othN n [] = List.range n := by unfold othN; simp
theorem need_full {n : Nat} {es : List (Nat × Nat)} (h0 : ∀ j, j < n → chooseC n es j [] 0 = none) : needC n es = List.range n := by
  obtain ⟨k, hk, _, h⟩ := need_ex n es
  have hkn : k = n := by
    rcases Nat.lt_or_eq_of_le hk with h1 | h1
    · rw [h0 k h1] at h; cases h
    · exact h1
  subst hkn
  obtain ⟨t, h1, h2, h3, h4, _⟩ := choose_some k [] 0 _ h
  rw [List.nil_append] at h1
  rw [h1]
  exact asc_full h3 (fun x hx => (h4 x hx).2) h2
/-- All edges are there when no bar is gone. -/
theorem brk_none {n : Nat} {es : List (Nat × Nat)} (he : EndsD n es) : brkC n es [] ↔ ¬ hasCyc es := by
  unfold brkC
  rw [oth_nil]
  constructor
  · intro h hc
    exact h (cyc_mono (fun x y hm => resE_mem.2 ⟨hm, List.mem_range.2 (he.mem hm).1, List.mem_range.2 (he.mem hm).2⟩) hc)
  · intro h hc
    exact h (cyc_mono (fun x y hm => (resE_mem.1 hm).1) hc)
theorem brk_two {n : Nat} {es : List (Nat × Nat)} (he : EndsD n es) {a b : Nat} {l : List Int} (h1 : (a, b) ∈ es) (h2 : (b, a) ∈ es) (hb : brkC n es l) : (a : Int) ∈ l ∨ (b : Int) ∈ l := by
  by_cases ha : (a : Int) ∈ l
  · exact .inl ha
  · by_cases hb2 : (b : Int) ∈ l
    · exact .inr hb2
    · refine absurd ?_ hb
      have hao : a ∈ othN n l := othN_mem.2 ⟨(he.mem h1).1, ha⟩
      have hbo : b ∈ othN n l := othN_mem.2 ⟨(he.mem h1).2, hb2⟩
      exact ⟨a, b, resE_mem.2 ⟨h1, hao, hbo⟩, .one (resE_mem.2 ⟨h2, hbo, hao⟩)⟩
theorem brk_noE {n : Nat} {l : List Int} : brkC n [] l := by
  rintro ⟨x, y, h, _⟩
  exact absurd (resE_mem.1 h).1 (by simp)
theorem len_parts {α : Type} (p : α → Bool) : ∀ l : List α, l.length = (l.filter p).length + (l.filter fun x => !p x).length
  | [] => rfl
  | x :: l => by
    have ih := len_parts p l
    cases h : p x <;> simp [h] <;> omega
theorem oth_len {n : Nat} {l : List Nat} (h1 : l.Nodup) (h2 : ∀ x ∈ l, x < n) : (othN n (ntI l)).length = n - l.length := by
  have h3 : ∀ x, x ∈ (List.range n).filter (fun i => decide (i ∈ l)) ↔ x ∈ l := fun x => by
    rw [List.mem_filter, List.mem_range, decide_eq_true_eq]
    exact ⟨fun h => h.2, fun h => ⟨h2 x h, h⟩⟩
  have h4 : ((List.range n).filter (fun i => decide (i ∈ l))).length = l.length := Nat.le_antisymm
    (sub_len _ _ (List.nodup_range.sublist List.filter_sublist) (fun x hx => (h3 x).1 hx)) (sub_len _ _ h1 (fun x hx => (h3 x).2 hx))
  have h5 : othN n (ntI l) = (List.range n).filter (fun i => !decide (i ∈ l)) := by
    unfold othN
    refine List.filter_congr fun x _ => ?_
    rw [decide_not, show decide ((x : Int) ∈ ntI l) = decide (x ∈ l) from by rw [decide_eq_decide]; exact ntI_mem]
  have h6 := len_parts (fun i => decide (i ∈ l)) (List.range n)
  rw [List.length_range] at h6
  rw [h5]
  omega
/-- The order has the others, each once, and no edge back. -/
structure OrdOk (n : Nat) (es : List (Nat × Nat)) (l : List Int) (o : List Nat) : Prop where
  len : o.length = (othN n l).length
  oth : ∀ x ∈ o, x ∈ othN n l
  nodup : o.Nodup
  back : ∀ (i j x y : Nat), j < i → o[i]? = some x → o[j]? = some y → (x, y) ∉ es
theorem ord_ok {n : Nat} {es : List (Nat × Nat)} {l : List Int} {o : List Nat} (h : ordC n es l = some o) : OrdOk n es l o := by
  unfold ordC at h
  cases ho : orderOf (othN n l).length (subE es (othN n l)) with
  | none => rw [ho] at h; cases h
  | some D =>
    rw [ho] at h
    simp only [Option.map_some, Option.some.injEq] at h
    subst h
    obtain ⟨hl, hD⟩ := ordTo_ok _ D ho
    have hN := othN_nodup n l
    refine ⟨by rw [namN_len]; exact hl, ?_, namN_nodup hN hD.nodup hD.lt, ?_⟩
    · intro x hx
      obtain ⟨j, hj⟩ := List.getElem?_of_mem hx
      obtain ⟨k, _, hk⟩ := namN_get hD.lt hj
      exact List.mem_of_getElem? hk
    · intro i j x y hij hx hy hm
      obtain ⟨a, ha, hax⟩ := namN_get hD.lt hx
      obtain ⟨b, hb, hby⟩ := namN_get hD.lt hy
      have h1 := (hD.pre _ ((subE_mem hN hax hby).2 hm) (List.mem_of_getElem? hb)).2
      obtain ⟨hi, hi2⟩ := List.getElem?_eq_some_iff.1 ha
      obtain ⟨hj, hj2⟩ := List.getElem?_eq_some_iff.1 hb
      simp only at h1
      rw [← hi2, ← hj2, List.Nodup.idxOf_getElem hD.nodup i hi, List.Nodup.idxOf_getElem hD.nodup j hj] at h1
      omega
end
end Go.Proofs.YtamogedpgkofjaaGreat
