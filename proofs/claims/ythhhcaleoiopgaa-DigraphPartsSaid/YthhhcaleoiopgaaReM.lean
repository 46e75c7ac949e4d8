/-
  Directed graphs: the parts have each node once. Plain.
-/
import Derived.Test.YthhhcaleoiopgaaLoM
namespace Go.Proofs.Ythhhcaleoiopgaa
set_option linter.unusedVariables false

theorem lead_ex {n : Nat} (es : List (Nat × Nat)) {s : Nat} (hs : s < n) : ∃ i, i < n ∧ anyB es i i = false ∧ mutl es i s = true := by
  have key : ∀ m i, i ≤ m → i < n → mutl es i s = true → ∃ i, i < n ∧ anyB es i i = false ∧ mutl es i s = true := by
    intro m
    induction m with
    | zero =>
      intro i hi hin hm
      obtain rfl : i = 0 := by omega
      exact ⟨0, hin, rfl, hm⟩
    | succ m ih =>
      intro i hi hin hm
      cases ha : anyB es i i
      · exact ⟨i, hin, ha, hm⟩
      · obtain ⟨j, hj, hj2⟩ := anyB_iff.1 ha
        exact ih j (by omega) (by omega) (mutl_trans hj2 hm)
  exact key s s (Nat.le_refl _) hs (mutl_refl es s)
theorem parts_mem {n : Nat} {es : List (Nat × Nat)} {r : List Nat} (h : r ∈ partsOf n es) : ∃ i, i < n ∧ anyB es i i = false ∧ r = cls n es i := by
  unfold partsOf partsTo at h
  obtain ⟨i, hi, rfl⟩ := List.mem_map.1 h
  obtain ⟨h1, h2⟩ := List.mem_filter.1 hi
  exact ⟨i, List.mem_range.1 h1, by simpa using h2, rfl⟩
theorem cls_mem {n : Nat} {es : List (Nat × Nat)} {i x : Nat} : x ∈ cls n es i ↔ x < n ∧ mutl es i x = true := by
  unfold cls
  rw [List.mem_filter, List.mem_range]
theorem parts_of {n : Nat} {es : List (Nat × Nat)} {i : Nat} (hi : i < n) (h : anyB es i i = false) : cls n es i ∈ partsOf n es := by
  unfold partsOf partsTo
  exact List.mem_map.2 ⟨i, List.mem_filter.2 ⟨List.mem_range.2 hi, by rw [h]; rfl⟩, rfl⟩
theorem parts_nodup (n : Nat) (es : List (Nat × Nat)) : (partsOf n es).flatten.Nodup := by
  unfold List.Nodup
  rw [List.pairwise_flatten]
  refine ⟨fun r hr => ?_, ?_⟩
  · obtain ⟨i, _, _, rfl⟩ := parts_mem hr
    exact (List.nodup_range.filter _)
  · unfold partsOf partsTo
    rw [List.pairwise_map]
    refine List.Pairwise.imp_of_mem (R := fun a b => a < b) (fun {i j} hi hj hij x hx y hy e => ?_) (List.pairwise_lt_range.filter _)
    subst e
    have h1 := (cls_mem.1 hx).2
    have h2 := (cls_mem.1 hy).2
    have h3 : anyB es j j = true := anyB_iff.2 ⟨i, hij, mutl_trans h1 (mutl_symm h2)⟩
    have h4 := (List.mem_filter.1 hj).2
    rw [h3] at h4
    cases h4
theorem parts_lt {n : Nat} {es : List (Nat × Nat)} : ∀ v ∈ (partsOf n es).flatten, v < n := fun v hv => by
  obtain ⟨r, hr, hv⟩ := List.mem_flatten.1 hv
  obtain ⟨i, _, _, rfl⟩ := parts_mem hr
  exact (cls_mem.1 hv).1
theorem parts_count (n : Nat) (es : List (Nat × Nat)) : (partsOf n es).flatten.length = n := by
  refine Nat.le_antisymm (nodup_len_le n _ (parts_nodup n es) parts_lt) ?_
  have := sub_len (List.range n) (partsOf n es).flatten List.nodup_range (fun k hk => by
    obtain ⟨i, h1, h2, h3⟩ := lead_ex es (List.mem_range.1 hk)
    exact List.mem_flatten.2 ⟨_, parts_of h1 h2, cls_mem.2 ⟨List.mem_range.1 hk, h3⟩⟩)
  rwa [List.length_range] at this
theorem part_pos {n : Nat} {es : List (Nat × Nat)} {r : List Nat} (h : r ∈ partsOf n es) : 0 < r.length := by
  obtain ⟨i, h1, _, rfl⟩ := parts_mem h
  exact List.length_pos_of_mem (cls_mem.2 ⟨h1, mutl_refl es i⟩)
theorem part_mut {n : Nat} {es : List (Nat × Nat)} {r : List Nat} (h : r ∈ partsOf n es) {x y : Nat} (hx : x ∈ r) (hy : y ∈ r) : mutl es x y = true := by
  obtain ⟨i, _, _, rfl⟩ := parts_mem h
  exact mutl_trans (mutl_symm (cls_mem.1 hx).2) (cls_mem.1 hy).2
theorem rlist_mut {n : Nat} {es : List (Nat × Nat)} {x y : Nat} (h : mutl es x y = true) : rlist n es x = rlist n es y := by
  unfold rlist
  refine List.filter_congr fun k _ => bool_ext ?_
  rw [reaB_iff, reaB_iff]
  obtain ⟨h1, h2⟩ := mutl_iff.1 h
  exact ⟨fun h => h2.trans h, fun h => h1.trans h⟩
theorem rlist_mem {n : Nat} {es : List (Nat × Nat)} {x k : Nat} : k ∈ rlist n es x ↔ k < n ∧ Rch es x k := by
  unfold rlist
  rw [List.mem_filter, List.mem_range, reaB_iff]
theorem Rch.first {es : List (Nat × Nat)} {a b : Nat} (h : Rch es a b) : a = b ∨ ∃ c, (a, c) ∈ es ∧ Rch es c b := by
  induction h with
  | refl => exact .inl rfl
  | @step y z hr hm ih =>
    right
    rcases ih with rfl | ⟨c, h1, h2⟩
    · exact ⟨z, hm, .refl z⟩
    · exact ⟨c, h1, .step h2 hm⟩
theorem two_of {α : Type} {r : List α} (hn : r.Nodup) (h : 1 < r.length) : ∃ x y, x ∈ r ∧ y ∈ r ∧ x ≠ y := by
  match r, hn, h with
  | x :: y :: l, hn, _ =>
    refine ⟨x, y, by simp, by simp, fun e => ?_⟩
    subst e
    have := (List.nodup_cons.1 hn).1
    simp at this
theorem cyc_iff {n : Nat} {es : List (Nat × Nat)} (he : EndsD n es) : hasCyc es ↔ (es.any (fun e => e.1 == e.2) || (partsOf n es).any (fun r => decide (1 < r.length))) = true := by
  rw [Bool.or_eq_true, List.any_eq_true, List.any_eq_true]
  constructor
  · rintro ⟨x, y, hm, hr⟩
    by_cases e : x = y
    · subst e
      exact .inl ⟨(x, x), hm, by simp⟩
    · right
      have hx := (he.mem hm).1
      have hy := (he.mem hm).2
      obtain ⟨i, h1, h2, h3⟩ := lead_ex es hx
      have hxy : mutl es x y = true := mutl_iff.2 ⟨Rch.one hm, hr⟩
      refine ⟨_, parts_of h1 h2, dec_yes ?_⟩
      have m1 : x ∈ cls n es i := cls_mem.2 ⟨hx, h3⟩
      have m2 : y ∈ cls n es i := cls_mem.2 ⟨hy, mutl_trans h3 hxy⟩
      have := sub_len [x, y] (cls n es i) (by simp [e]) (fun z hz => by
        simp only [List.mem_cons, List.not_mem_nil, or_false] at hz
        rcases hz with rfl | rfl
        · exact m1
        · exact m2)
      simp only [List.length_cons, List.length_nil] at this
      omega
  · rintro (⟨⟨a, b⟩, hm, h⟩ | ⟨r, hr, h⟩)
    · have : a = b := by simpa using h
      subst this
      exact ⟨a, a, hm, .refl a⟩
    · have hnd : r.Nodup := by
        obtain ⟨i, _, _, rfl⟩ := parts_mem hr
        exact List.nodup_range.filter _
      obtain ⟨x, y, hx, hy, hne⟩ := two_of hnd (of_decide_eq_true h)
      obtain ⟨h1, h2⟩ := mutl_iff.1 (part_mut hr hx hy)
      rcases h1.first with e | ⟨c, hc1, hc2⟩
      · exact absurd e hne
      · exact ⟨x, c, hc1, hc2.trans h2⟩
end Go.Proofs.Ythhhcaleoiopgaa
