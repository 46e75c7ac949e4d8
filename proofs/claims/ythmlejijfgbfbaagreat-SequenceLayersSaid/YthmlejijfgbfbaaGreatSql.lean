/-
  Sequences: layers (plain).
-/
import Derived.Test.YthmlejijfgbfbaaGreatSqm
namespace Go.Proofs.YthmlejijfgbfbaaGreat
open Go.RowKit
set_option linter.unusedVariables false
set_option linter.unusedSimpArgs false

theorem mx_left (a b : Int) : a ≤ mx a b := by unfold mx; split <;> omega
theorem mx_right (a b : Int) : b ≤ mx a b := by unfold mx; split <;> omega
theorem mx_or (a b : Int) : mx a b = a ∨ mx a b = b := by unfold mx; split <;> simp
theorem getD_setI {A : List Int} {v : Nat} (hv : v < A.length) (x : Nat) (y : Int) : (A.set v y).getD x 0 = if x = v then y else A.getD x 0 := by
  rw [List.getD_eq_getElem?_getD, List.getElem?_set, List.getD_eq_getElem?_getD]
  by_cases h : v = x
  · subst h
    rw [if_pos rfl, if_pos hv, if_pos rfl]
    rfl
  · rw [if_neg h, if_neg (fun e => h e.symm)]
structure RowL (es : List (Nat × Nat)) (v : Nat) (A B : List Int) (m : Nat) : Prop where
  len : B.length = A.length
  other : ∀ x, x ≠ v → B.getD x 0 = A.getD x 0
  low : A.getD v 0 ≤ B.getD v 0
  ge : ∀ e ∈ es.take m, e.2 = v → A.getD e.1 0 + 1 ≤ B.getD v 0
  is_ : B.getD v 0 = A.getD v 0 ∨ ∃ e ∈ es.take m, e.2 = v ∧ B.getD v 0 = A.getD e.1 0 + 1
theorem rowL_all {es : List (Nat × Nat)} {v : Nat} {A : List Int} (hv : v < A.length) (hs : ∀ x, (x, x) ∉ es) : ∀ m, m ≤ es.length → RowL es v A (layR es v A m) m
  | 0, _ => ⟨rfl, fun _ _ => rfl, Int.le_refl _, fun e he => by simp at he, Or.inl rfl⟩
  | m + 1, hm => by
    have ih := rowL_all (es := es) hv hs m (by omega)
    obtain ⟨e, he⟩ : ∃ e, es[m]? = some e := ⟨_, List.getElem?_eq_getElem (by omega)⟩
    have ht : es.take (m + 1) = es.take m ++ [e] := by
      rw [List.take_succ_eq_append_getElem (by omega), (List.getElem?_eq_some_iff.1 he).2]
    rw [layR_succ he]
    unfold layS
    by_cases h : e.2 = v
    · rw [if_pos h]
      have hl : v < (layR es v A m).length := by rw [ih.len]; exact hv
      have hne : e.1 ≠ v := by
        intro h1
        have := List.mem_of_getElem? he
        obtain ⟨a, b⟩ := e
        simp only at h h1
        subst h
        subst h1
        exact hs _ this
      have hg := getD_setI hl v (mx ((layR es v A m).getD v 0) ((layR es v A m).getD e.1 0 + 1))
      rw [if_pos rfl, ih.other e.1 hne] at hg
      rw [ih.other e.1 hne]
      have m1 := mx_left ((layR es v A m).getD v 0) (A.getD e.1 0 + 1)
      have m2 := mx_right ((layR es v A m).getD v 0) (A.getD e.1 0 + 1)
      refine ⟨by rw [List.length_set]; exact ih.len, fun x hx => ?_, ?_, fun d hd hdv => ?_, ?_⟩
      · rw [getD_setI hl, if_neg hx]; exact ih.other x hx
      · rw [hg]; have := ih.low; omega
      · rw [hg]
        rw [ht, List.mem_append, List.mem_singleton] at hd
        rcases hd with hd | rfl
        · have := ih.ge d hd hdv; omega
        · exact m2
      · rw [hg]
        rcases mx_or ((layR es v A m).getD v 0) (A.getD e.1 0 + 1) with h2 | h2
        · rw [h2]
          rcases ih.is_ with h3 | ⟨d, h3, h4, h5⟩
          · exact Or.inl h3
          · exact Or.inr ⟨d, by rw [ht]; exact List.mem_append_left _ h3, h4, h5⟩
        · rw [h2]
          exact Or.inr ⟨e, by rw [ht]; exact List.mem_append_right _ (List.mem_singleton.2 rfl), h, rfl⟩
    · rw [if_neg h]
      refine ⟨ih.len, ih.other, ih.low, fun d hd hdv => ?_, ?_⟩
      · rw [ht, List.mem_append, List.mem_singleton] at hd
        rcases hd with hd | rfl
        · exact ih.ge d hd hdv
        · exact absurd hdv h
      · rcases ih.is_ with h3 | ⟨d, h3, h4, h5⟩
        · exact Or.inl h3
        · exact Or.inr ⟨d, by rw [ht]; exact List.mem_append_left _ h3, h4, h5⟩
structure LayI (n : Nat) (es : List (Nat × Nat)) (D : List Nat) (k : Nat) (A : List Int) : Prop where
  len : A.length = n
  zero : ∀ x, x ∉ D.take k → A.getD x 0 = 0
  ge : ∀ e ∈ es, e.2 ∈ D.take k → A.getD e.1 0 + 1 ≤ A.getD e.2 0
  is_ : ∀ x, A.getD x 0 = 0 ∨ ∃ u, (u, x) ∈ es ∧ A.getD x 0 = A.getD u 0 + 1
  lo : ∀ x, 0 ≤ A.getD x 0
  hi : ∀ x ∈ D.take k, A.getD x 0 ≤ (D.idxOf x : Int)
theorem layI_all {n : Nat} {es : List (Nat × Nat)} {D : List Nat} (he : EndsD n es) (hs : ∀ x, (x, x) ∉ es) (hD : orderOf n es = some D) : ∀ k, k ≤ n → LayI n es D k (layT n es D k)
  | 0, _ => by
    refine ⟨layT_len n es D 0, fun x _ => ?_, fun e _ h => by simp at h, fun x => Or.inl ?_, fun x => ?_, fun x h => by simp at h⟩
    all_goals
      have : (layT n es D 0).getD x 0 = 0 := by
        show (List.replicate n (0 : Int)).getD x 0 = 0
        rw [List.getD_eq_getElem?_getD, List.getElem?_replicate]
        split <;> rfl
      rw [this]
    exact Int.le_refl _
  | k + 1, hk => by
    have ih := layI_all he hs hD k (by omega)
    obtain ⟨hDl, hO⟩ := ordTo_ok n D hD
    obtain ⟨v, hv⟩ : ∃ v, D[k]? = some v := ⟨_, List.getElem?_eq_getElem (by omega)⟩
    have hvm := List.mem_of_getElem? hv
    have hvn := hO.lt v hvm
    have ht : D.take (k + 1) = D.take k ++ [v] := by
      rw [List.take_succ_eq_append_getElem (by omega), (List.getElem?_eq_some_iff.1 hv).2]
    have hvt : v ∉ D.take k := by
      intro hm
      have hnd := hO.nodup
      rw [← List.take_append_drop (k + 1) D, ht] at hnd
      rw [List.nodup_append] at hnd
      have h2 := hnd.1
      rw [List.nodup_append] at h2
      exact h2.2.2 v hm v (List.mem_singleton.2 rfl) rfl
    have hvi : D.idxOf v = k := idxOf_at hv hvt
    rw [layT_succ hv]
    have R := rowL_all (es := es) (v := v) (A := layT n es D k) (by rw [ih.len]; exact hvn) hs es.length (Nat.le_refl _)
    generalize layR es v (layT n es D k) es.length = B at R
    generalize layT n es D k = A at ih R
    have hpre : ∀ u, (u, v) ∈ es → u ∈ D.take k := by
      intro u hu
      obtain ⟨h1, h2⟩ := hO.pre _ hu hvm
      simp only at h1 h2
      rw [hvi] at h2
      have hl := List.idxOf_lt_length_iff.2 h1
      rw [List.mem_take_iff_getElem]
      exact ⟨D.idxOf u, by omega, by simp⟩
    have huv : ∀ u, (u, v) ∈ es → u ≠ v := fun u hu e => by subst e; exact hs _ hu
    refine ⟨R.len.trans ih.len, fun x hx => ?_, fun e hem hx => ?_, fun x => ?_, fun x => ?_, fun x hx => ?_⟩
    · rw [ht, List.mem_append, List.mem_singleton] at hx
      rw [R.other x (fun e => hx (Or.inr e))]
      exact ih.zero x (fun h => hx (Or.inl h))
    · obtain ⟨a, b⟩ := e
      simp only at hx ⊢
      by_cases hb : b = v
      · subst hb
        rw [R.other a (huv a hem)]
        exact R.ge (a, b) (by rw [List.take_length]; exact hem) rfl
      · rw [ht, List.mem_append, List.mem_singleton] at hx
        have hbt : b ∈ D.take k := hx.resolve_right hb
        have h1 := ih.ge (a, b) hem hbt
        simp only at h1
        have hav : a ≠ v := by
          intro e
          subst e
          have hbm : b ∈ D := List.mem_of_mem_take hbt
          have h2 := (hO.pre _ hem hbm).2
          simp only at h2
          rw [hvi] at h2
          obtain ⟨j, hj, hj2⟩ := List.mem_take_iff_getElem.1 hbt
          have : D.idxOf b = j := by
            rw [← hj2]
            exact List.Nodup.idxOf_getElem hO.nodup j (by omega)
          omega
        rw [R.other a hav, R.other b hb]
        exact h1
    · by_cases hx : x = v
      · subst hx
        rcases R.is_ with h1 | ⟨e, h1, h2, h3⟩
        · left; rw [h1]; exact ih.zero x hvt
        · right
          obtain ⟨a, b⟩ := e
          rw [List.take_length] at h1
          simp only at h2 h3
          subst h2
          exact ⟨a, h1, by rw [h3, R.other a (huv a h1)]⟩
      · rw [R.other x hx]
        rcases ih.is_ x with h1 | ⟨u, h1, h2⟩
        · exact Or.inl h1
        · by_cases hu : u = v
          · subst hu
            have : A.getD u 0 = 0 := ih.zero u hvt
            by_cases hxt : x ∈ D.take k
            · exfalso
              have hxm : x ∈ D := List.mem_of_mem_take hxt
              have h2 := (hO.pre _ h1 hxm).2
              simp only at h2
              rw [hvi] at h2
              obtain ⟨j, hj, hj2⟩ := List.mem_take_iff_getElem.1 hxt
              have : D.idxOf x = j := by
                rw [← hj2]
                exact List.Nodup.idxOf_getElem hO.nodup j (by omega)
              omega
            · left; exact ih.zero x hxt
          · exact Or.inr ⟨u, h1, by rw [R.other u hu]; exact h2⟩
    · by_cases hx : x = v
      · subst hx; have := R.low; have := ih.lo x; omega
      · rw [R.other x hx]; exact ih.lo x
    · rw [ht, List.mem_append, List.mem_singleton] at hx
      by_cases hxv : x = v
      · subst hxv
        rw [hvi]
        rcases R.is_ with h1 | ⟨e, h1, h2, h3⟩
        · rw [h1, ih.zero x hvt]; omega
        · obtain ⟨a, b⟩ := e
          rw [List.take_length] at h1
          simp only at h2 h3
          subst h2
          have ha := ih.hi a (hpre a h1)
          have h4 := (hO.pre _ h1 hvm).2
          simp only at h4
          rw [hvi] at h4
          omega
      · rw [R.other x hxv]
        exact ih.hi x (hx.resolve_right hxv)
/-- The layers of a graph with an order. -/
structure Lays (n : Nat) (es : List (Nat × Nat)) (A : List Int) : Prop where
  len : A.length = n
  ge : ∀ u v, (u, v) ∈ es → A.getD u 0 < A.getD v 0
  is_ : ∀ x, A.getD x 0 = 0 ∨ ∃ u, (u, x) ∈ es ∧ A.getD x 0 = A.getD u 0 + 1
  bd : ∀ x, x < n → 0 ≤ A.getD x 0 ∧ A.getD x 0 < n
theorem lays_of {n : Nat} {es : List (Nat × Nat)} {D : List Nat} (he : EndsD n es) (hs : ∀ x, (x, x) ∉ es) (hD : orderOf n es = some D) : Lays n es (layT n es D D.length) := by
  obtain ⟨hDl, hO⟩ := ordTo_ok n D hD
  have h := layI_all he hs hD n (Nat.le_refl _)
  rw [hDl]
  have ht : D.take n = D := List.take_of_length_le (by omega)
  have hall : ∀ x, x < n → x ∈ D := fun x hx => nodup_full hO.nodup hO.lt hDl hx
  refine ⟨h.len, fun u v huv => ?_, h.is_, fun x hx => ⟨h.lo x, ?_⟩⟩
  · have := h.ge (u, v) huv (by rw [ht]; exact hall v (he.mem huv).2)
    simp only at this
    omega
  · have h1 := h.hi x (by rw [ht]; exact hall x hx)
    have h2 := List.idxOf_lt_length_iff.2 (hall x hx)
    omega
/-- The nodes by ascending layers. -/
def ordR (A : List Int) (m : Nat) : List Nat := (List.range A.length).filter fun i => decide (A.getD i 0 = (m : Int))
def ordL (A : List Int) (k : Nat) : List Nat := (List.range k).flatMap (ordR A)
theorem ordL_mem {A : List Int} {k x : Nat} : x ∈ ordL A k ↔ x < A.length ∧ 0 ≤ A.getD x 0 ∧ A.getD x 0 < k := by
  unfold ordL ordR
  simp only [List.mem_flatMap, List.mem_range, List.mem_filter, decide_eq_true_eq]
  constructor
  · rintro ⟨m, hm, hx, h⟩; omega
  · rintro ⟨hx, h1, h2⟩
    exact ⟨(A.getD x 0).toNat, by omega, hx, by omega⟩
theorem ordL_sorted (A : List Int) : ∀ k, (ordL A k).Pairwise (fun a b => a ≠ b ∧ A.getD a 0 ≤ A.getD b 0)
  | 0 => by unfold ordL; simp
  | k + 1 => by
    have e : ordL A (k + 1) = ordL A k ++ ordR A k := by unfold ordL; rw [List.range_succ, List.flatMap_append]; simp
    rw [e, List.pairwise_append]
    refine ⟨ordL_sorted A k, ?_, fun a ha b hb => ?_⟩
    · unfold ordR
      refine List.Pairwise.imp_of_mem ?_ ((List.nodup_range (n := A.length)).sublist List.filter_sublist)
      intro a b ha hb hab
      rw [List.mem_filter, decide_eq_true_eq] at ha hb
      exact ⟨hab, by rw [ha.2, hb.2]; exact Int.le_refl _⟩
    · have h1 := ordL_mem.1 ha
      unfold ordR at hb
      rw [List.mem_filter, decide_eq_true_eq] at hb
      refine ⟨fun h => by subst h; omega, by omega⟩
theorem ordL_nodup (A : List Int) (k : Nat) : (ordL A k).Nodup := (ordL_sorted A k).imp fun h => h.1
theorem ordL_len {n : Nat} {es : List (Nat × Nat)} {A : List Int} (h : Lays n es A) : (ordL A A.length).length = n := by
  have h1 : (ordL A A.length).length ≤ n := nodup_len_le n _ (ordL_nodup A _) (fun x hx => by have := ordL_mem.1 hx; have := h.len; omega)
  have h2 : (List.range n).length ≤ (ordL A A.length).length := sub_len _ _ List.nodup_range (fun x hx => by
    have hx := List.mem_range.1 hx
    have := h.bd x hx
    have hl := h.len
    exact ordL_mem.2 ⟨by omega, this.1, by omega⟩)
  rw [List.length_range] at h2
  omega
theorem ordL_idx {n : Nat} {es : List (Nat × Nat)} {A : List Int} (h : Lays n es A) {u v : Nat} (he : EndsD n es) (hm : (u, v) ∈ es) : (ordL A A.length).idxOf u < (ordL A A.length).idxOf v := by
  have hl := h.len
  have hn := he.mem hm
  have hu : u ∈ ordL A A.length := ordL_mem.2 ⟨by omega, (h.bd u hn.1).1, by have := (h.bd u hn.1).2; omega⟩
  have hv : v ∈ ordL A A.length := ordL_mem.2 ⟨by omega, (h.bd v hn.2).1, by have := (h.bd v hn.2).2; omega⟩
  have lu := List.idxOf_lt_length_iff.2 hu
  have lv := List.idxOf_lt_length_iff.2 hv
  have hlt := h.ge u v hm
  have hp := ordL_sorted A A.length
  by_cases hc : (ordL A A.length).idxOf u < (ordL A A.length).idxOf v
  · exact hc
  · exfalso
    by_cases e : (ordL A A.length).idxOf v = (ordL A A.length).idxOf u
    · have : u = v := by rw [← getD_idx hu, ← getD_idx hv, e]
      subst this
      omega
    · have := (List.pairwise_iff_getElem.1 hp _ _ lv lu (by omega)).2
      have e1 : (ordL A A.length)[(ordL A A.length).idxOf v] = v := by simp
      have e2 : (ordL A A.length)[(ordL A A.length).idxOf u] = u := by simp
      rw [e1, e2] at this
      omega
theorem ordL_chk {n : Nat} {es : List (Nat × Nat)} {A : List Int} (h : Lays n es A) (he : EndsD n es) : chkRes n es ((ordL A A.length).map fun k : Nat => (k : Int)) = (true, 0) := by
  have hl := h.len
  have hb : ((ordL A A.length).map fun k : Nat => (k : Int)).any (badN n) = false := by
    rw [List.any_eq_false]
    intro x hx
    obtain ⟨k, hk, rfl⟩ := List.mem_map.1 hx
    have := ordL_mem.1 hk
    unfold badN
    rw [decide_eq_true_eq]
    omega
  unfold chkRes
  rw [if_neg (by rw [List.length_map, ordL_len h]; simp), if_neg (by rw [hb]; simp), List.map_map]
  have e : (ordL A A.length).map (Int.toNat ∘ fun k : Nat => (k : Int)) = ordL A A.length := by
    conv => rhs; rw [← List.map_id (ordL A A.length)]
    apply List.map_congr_left
    intro x _
    simp [Function.comp]
  rw [e]
  unfold chkN
  rw [if_pos (ordL_nodup A _)]
  congr 1
  rw [List.all_eq_true]
  intro x hx
  obtain ⟨u, v⟩ := x
  rw [decide_eq_true_eq]
  exact ordL_idx h he hx
end Go.Proofs.YthmlejijfgbfbaaGreat
