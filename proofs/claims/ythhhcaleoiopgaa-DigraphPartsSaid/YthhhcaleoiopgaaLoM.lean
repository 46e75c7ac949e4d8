/-
  Directed graphs: the loop that is found. Plain.
-/
import Derived.Test.YthhhcaleoiopgaaCyM
import Derived.Test.YthhhcaleoiopgaaLpP
namespace Go.Proofs.Ythhhcaleoiopgaa
set_option linter.unusedVariables false

theorem far_rch {es : List (Nat × Nat)} {b : Nat} {d : Nat → Int} (h : IsFar es b d) : ∀ (m : Nat) v, d v = m → Rch es v b := by
  intro m
  induction m with
  | zero =>
    intro v hv
    rcases h.from_ v with h1 | ⟨rfl, _⟩ | ⟨h1, _⟩
    · omega
    · exact .refl _
    · omega
  | succ m ih =>
    intro v hv
    rcases h.from_ v with h1 | ⟨rfl, _⟩ | ⟨_, k, h1, h2⟩
    · omega
    · exact .refl _
    · exact (Rch.one h1).trans (ih k (by omega))
theorem rch_far {es : List (Nat × Nat)} {b : Nat} {d : Nat → Int} (h : IsFar es b d) {v : Nat} (hr : Rch es v b) : 0 ≤ d v := by
  have key : ∀ x y, Rch es x y → 0 ≤ d y → 0 ≤ d x := by
    intro x y hr
    induction hr with
    | refl => exact fun h => h
    | step _ hm ih => exact fun hz => ih (h.to_ _ hz _ hm).1
  exact key v b hr (by rw [h.zero]; exact Int.le_refl _)
theorem far_zero {es : List (Nat × Nat)} {b v : Nat} {d : Nat → Int} (h : IsFar es b d) (hv : d v = 0) : v = b := by
  rcases h.from_ v with h1 | ⟨rfl, _⟩ | ⟨h1, _⟩
  · omega
  · rfl
  · omega
theorem leastM_le {d : Nat → Int} {l : List Nat} {k : Nat} : k ∈ l → 0 ≤ d k → 0 ≤ leastM d l := by
  refine snoc_ind (p := fun l => k ∈ l → 0 ≤ d k → 0 ≤ leastM d l) (fun h => by simp at h) (fun l j ih h h0 => ?_) l
  rw [leastM_snoc]
  unfold leastStep
  rcases List.mem_append.1 h with h | h
  · have := ih h h0
    split
    · next hh => exact hh.1
    · exact this
  · rw [List.mem_singleton] at h
    subst h
    split
    · exact h0
    · next hh =>
      rcases Int.lt_or_le (leastM d l) 0 with h1 | h1
      · exact absurd ⟨h0, .inl h1⟩ hh
      · exact h1
structure IsLoop (n : Nat) (es : List (Nat × Nat)) (L : List Nat) : Prop where
  pos : 0 < L.length
  lt : ∀ x ∈ L, x < n
  nodup : L.Nodup
  edge : ∀ (j x y : Nat), L[j]? = some x → L[j + 1]? = some y → (x, y) ∈ es
  back : ∀ x y, L[0]? = some x → L[L.length - 1]? = some y → (y, x) ∈ es
  near : ∀ x ∈ L, ∀ y, L[0]? = some y → mutl es y x = true
/-- The walk along the distances. -/
theorem walk_loop {n : Nat} {es : List (Nat × Nat)} {b : Nat} {d : Nat → Int} (h : IsFar es b d) (he : EndsD n es) : ∀ (f x : Nat), (f = 0 ∨ ∃ k ∈ nextsS n es x, d k = (f : Int)) →
    (loopWalk n es d f x).length = f ∧ (∀ (j y : Nat), (loopWalk n es d f x)[j]? = some y → d y = (f : Int) - j ∧ y < n ∧ Rch es x y) ∧ (∀ y, (loopWalk n es d f x)[0]? = some y → (x, y) ∈ es) ∧ ∀ (j y z : Nat), (loopWalk n es d f x)[j]? = some y → (loopWalk n es d f x)[j + 1]? = some z → (y, z) ∈ es := by
  intro f
  induction f with
  | zero =>
    intro x _
    have e0 : loopWalk n es d 0 x = [] := rfl
    rw [e0]
    exact ⟨rfl, fun j y hy => by simp at hy, fun y hy => by simp at hy, fun j y z hy => by simp at hy⟩
  | succ f ih =>
    intro x hx
    obtain ⟨k0, hk0, hd0⟩ : ∃ k ∈ nextsS n es x, d k = ((f + 1 : Nat) : Int) := by
      rcases hx with h1 | h1
      · omega
      · exact h1
    have hdd : ∃ k ∈ nextsS n es x, (fun k => d k == ((f + 1 : Nat) : Int)) k = true := ⟨k0, hk0, by simpa using hd0⟩
    obtain ⟨j0, k, hj, hpk, _, hfind⟩ := find_at hdd
    have hk := nextsS_mem.1 (List.mem_of_getElem? hj)
    have hdk : d k = ((f + 1 : Nat) : Int) := by simpa using hpk
    have hnx : f = 0 ∨ ∃ k' ∈ nextsS n es k, d k' = (f : Int) := by
      by_cases h0 : f = 0
      · exact .inl h0
      · right
        rcases h.from_ k with h1 | ⟨_, h1⟩ | ⟨_, k', h1, h2⟩
        · omega
        · omega
        · exact ⟨k', nextsS_mem.2 ⟨(he.mem h1).2, h1⟩, by omega⟩
    obtain ⟨i1, i2, i3, i4⟩ := ih k hnx
    rw [loopWalk_step hfind]
    refine ⟨by simp [i1], fun j y hy => ?_, fun y hy => ?_, fun j y z hy hz => ?_⟩
    · cases j with
      | zero => simp at hy; subst hy; exact ⟨by rw [hdk]; omega, hk.1, Rch.one hk.2⟩
      | succ j =>
        rw [List.getElem?_cons_succ] at hy
        obtain ⟨a1, a2, a3⟩ := i2 j y hy
        exact ⟨by rw [a1]; omega, a2, (Rch.one hk.2).trans a3⟩
    · simp at hy; subst hy; exact hk.2
    · rw [List.getElem?_cons_succ] at hz
      cases j with
      | zero =>
        simp at hy
        subst hy
        exact i3 z hz
      | succ j =>
        rw [List.getElem?_cons_succ] at hy
        exact i4 j y z hy hz
theorem loopAt_is {n : Nat} {es : List (Nat × Nat)} {s : Nat} {d : Nat → Int} {L : List Nat} (h : IsFar es s d) (he : EndsD n es) (hs : s < n) (hL : loopAt n es d s = some L) : IsLoop n es L := by
  unfold loopAt at hL
  split at hL
  · cases hL
  · next hm =>
    cases hL
    rcases leastM_is d (nextsS n es s) with h1 | ⟨h1, k, hk, hd⟩
    · omega
    · obtain ⟨M, hM⟩ := Int.eq_ofNat_of_zero_le h1
      rw [hM] at hd ⊢
      rw [show (M : Int).toNat = M from rfl]
      obtain ⟨i1, i2, i3, i4⟩ := walk_loop h he M s (.inr ⟨k, hk, hd⟩)
      have hall : ∀ (j y : Nat), (s :: loopWalk n es d M s)[j]? = some y → y < n ∧ Rch es s y ∧ 0 ≤ d y ∧ (j = 0 → y = s) ∧ (0 < j → d y = (M : Int) - ((j : Int) - 1) ∧ j ≤ M) := by
        intro j y hy
        cases j with
        | zero => simp at hy; subst hy; exact ⟨hs, .refl _, by rw [h.zero]; exact Int.le_refl _, fun _ => rfl, fun h => by omega⟩
        | succ j =>
          rw [List.getElem?_cons_succ] at hy
          obtain ⟨a1, a2, a3⟩ := i2 j y hy
          have hlt := (List.getElem?_eq_some_iff.1 hy).1
          exact ⟨a2, a3, by rw [a1]; omega, fun h => by omega, fun _ => ⟨by rw [a1]; omega, by omega⟩⟩
      have hlen : (s :: loopWalk n es d M s).length = M + 1 := by simp [i1]
      refine ⟨by rw [hlen]; omega, fun x hx => ?_, ?_, fun j x y hx hy => ?_, fun x y hx hy => ?_, fun x hx y hy => ?_⟩
      · obtain ⟨j, hj⟩ := List.mem_iff_getElem?.1 hx
        exact (hall j x hj).1
      · rw [List.nodup_iff_pairwise_ne, List.pairwise_iff_getElem]
        intro i j hi hj hij heq
        have h1 := hall i _ (List.getElem?_eq_getElem hi)
        have h2 := hall j _ (List.getElem?_eq_getElem hj)
        rw [heq] at h1
        obtain ⟨b1, b2⟩ := h2.2.2.2.2 (by omega)
        by_cases h0 : i = 0
        · have := h1.2.2.2.1 h0
          rw [this, h.zero] at b1
          omega
        · obtain ⟨c1, c2⟩ := h1.2.2.2.2 (by omega)
          omega
      · rw [List.getElem?_cons_succ] at hy
        cases j with
        | zero => simp at hx; subst hx; exact i3 y hy
        | succ j =>
          rw [List.getElem?_cons_succ] at hx
          exact i4 j x y hx hy
      · simp at hx
        subst hx
        rw [hlen, Nat.add_sub_cancel] at hy
        by_cases h0 : M = 0
        · subst h0
          simp at hy
          subst hy
          have := far_zero h hd
          subst this
          exact (nextsS_mem.1 hk).2
        · obtain ⟨b1, _⟩ := (hall M y hy).2.2.2.2 (by omega)
          rcases h.from_ y with c1 | ⟨_, c1⟩ | ⟨_, q, c1, c2⟩
          · omega
          · omega
          · have := far_zero h (show d q = 0 by omega)
            subst this
            exact c1
      · simp at hy
        subst hy
        obtain ⟨j, hj⟩ := List.mem_iff_getElem?.1 hx
        obtain ⟨_, a2, a3, _⟩ := hall j x hj
        obtain ⟨m, hm⟩ := Int.eq_ofNat_of_zero_le a3
        exact mutl_iff.2 ⟨a2, far_rch h m x hm⟩
theorem loopAt_none {n : Nat} {es : List (Nat × Nat)} {s : Nat} {d : Nat → Int} (h : IsFar es s d) (hL : loopAt n es d s = none) : ∀ k ∈ nextsS n es s, ¬ Rch es k s := by
  intro k hk hr
  unfold loopAt at hL
  split at hL
  · next hm =>
    have := leastM_le hk (rch_far h hr)
    omega
  · cases hL
/-- The distances exist. -/
def AllFar (n : Nat) (es : List (Nat × Nat)) : Prop := ∀ s, s < n → IsFar es s (farD es s)
theorem loop_some {n : Nat} {es : List (Nat × Nat)} (he : EndsD n es) (ha : AllFar n es) : ∀ k, k ≤ n → ∀ L, loopFrom n es k = some L → IsLoop n es L := by
  intro k
  induction k with
  | zero => intro _ L h; cases h
  | succ k ih =>
    intro hk L h
    rw [loopFrom] at h
    cases h1 : loopFrom n es k with
    | some L' =>
      rw [h1] at h
      cases h
      exact ih (by omega) L h1
    | none =>
      rw [h1] at h
      exact loopAt_is (ha k (by omega)) he (by omega) h
theorem loop_none {n : Nat} {es : List (Nat × Nat)} (he : EndsD n es) (ha : AllFar n es) (h : loopOf n es = none) : ¬ hasCyc es := by
  have key : ∀ k, k ≤ n → loopFrom n es k = none → ∀ s, s < k → ∀ q ∈ nextsS n es s, ¬ Rch es q s := by
    intro k
    induction k with
    | zero => intro _ _ s hs; omega
    | succ k ih =>
      intro hk h s hs
      rw [loopFrom] at h
      cases h1 : loopFrom n es k with
      | some L' => rw [h1] at h; cases h
      | none =>
        rw [h1] at h
        by_cases e : s = k
        · subst e; exact loopAt_none (ha s (by omega)) h
        · exact ih (by omega) h1 s (by omega)
  rintro ⟨x, y, hm, hr⟩
  exact key n (Nat.le_refl _) h x (he.mem hm).1 y (nextsS_mem.2 ⟨(he.mem hm).2, hm⟩) hr
theorem loop_cyc {n : Nat} {es : List (Nat × Nat)} {L : List Nat} (h : IsLoop n es L) : hasCyc es := by
  have hp := h.pos
  obtain ⟨x, hx⟩ : ∃ x, L[0]? = some x := ⟨_, List.getElem?_eq_getElem hp⟩
  obtain ⟨y, hy⟩ : ∃ y, L[L.length - 1]? = some y := ⟨_, List.getElem?_eq_getElem (by omega)⟩
  exact ⟨y, x, h.back x y hx hy, (mutl_iff.1 (h.near y (List.mem_of_getElem? hy) x hx)).1⟩
/-! ### the distances exist -/
def stepsTo (es : List (Nat × Nat)) (b : Nat) : Nat → Nat → Prop
  | 0, v => v = b
  | k + 1, v => ∃ q, (v, q) ∈ es ∧ stepsTo es b k q
theorem least_ex {P : Nat → Prop} : (∃ k, P k) → ∃ k, P k ∧ ∀ j, j < k → ¬ P j := by
  rintro ⟨k, hk⟩
  induction k using Nat.strongRecOn with
  | _ k ih =>
    by_cases h : ∃ j, j < k ∧ P j
    · obtain ⟨j, hj, hp⟩ := h
      exact ih j hj hp
    · exact ⟨k, hk, fun j hj hp => h ⟨j, hj, hp⟩⟩
open Classical in
noncomputable def distN (es : List (Nat × Nat)) (b v : Nat) : Int := if h : ∃ k, stepsTo es b k v then ((least_ex h).choose : Int) else -1
theorem distN_some {es : List (Nat × Nat)} {b v k : Nat} (h : stepsTo es b k v) : ∃ m : Nat, distN es b v = (m : Int) ∧ stepsTo es b m v ∧ m ≤ k := by
  have hex : ∃ k, stepsTo es b k v := ⟨k, h⟩
  refine ⟨(least_ex hex).choose, by unfold distN; rw [dif_pos hex], (least_ex hex).choose_spec.1, ?_⟩
  refine Nat.not_lt.1 fun hlt => (least_ex hex).choose_spec.2 k hlt h
theorem distN_cases (es : List (Nat × Nat)) (b v : Nat) : distN es b v = -1 ∨ ∃ m : Nat, distN es b v = (m : Int) ∧ stepsTo es b m v := by
  by_cases h : ∃ k, stepsTo es b k v
  · obtain ⟨k, hk⟩ := h
    obtain ⟨m, h1, h2, _⟩ := distN_some hk
    exact .inr ⟨m, h1, h2⟩
  · left
    unfold distN
    rw [dif_neg h]
theorem distN_far (es : List (Nat × Nat)) (b : Nat) : IsFar es b (distN es b) := by
  have h0 : distN es b b = 0 := by
    obtain ⟨m, h1, _, h3⟩ := distN_some (es := es) (b := b) (v := b) (k := 0) rfl
    rw [h1]; omega
  refine ⟨h0, fun v => ?_, fun v hv i hi => ?_⟩
  · rcases distN_cases es b v with h | ⟨m, h1, h2⟩
    · exact .inl h
    · cases m with
      | zero => exact .inr (.inl ⟨h2, by rw [h1]; rfl⟩)
      | succ m =>
        obtain ⟨q, hq, hs⟩ := h2
        obtain ⟨m2, k1, k2, k3⟩ := distN_some hs
        obtain ⟨m3, j1, _, j3⟩ := distN_some (show stepsTo es b (m2 + 1) v from ⟨q, hq, k2⟩)
        rw [h1] at j1
        exact .inr (.inr ⟨by rw [h1]; omega, q, hq, by rw [h1, k1]; omega⟩)
  · rcases distN_cases es b v with h | ⟨m, h1, h2⟩
    · omega
    · obtain ⟨m2, k1, _, k3⟩ := distN_some (show stepsTo es b (m + 1) i from ⟨v, hi, h2⟩)
      rw [k1, h1]; omega
theorem all_far (n : Nat) (es : List (Nat × Nat)) : AllFar n es := fun s _ => by
  have := distN_far es s
  rw [farD_eq this]; exact this
/-- The loop lies within a part. -/
theorem loop_part {n : Nat} {es : List (Nat × Nat)} {L : List Nat} (h : IsLoop n es L) : ∃ r ∈ partsOf n es, ∀ x ∈ L, x ∈ r := by
  have hp := h.pos
  obtain ⟨s, hs⟩ : ∃ x, L[0]? = some x := ⟨_, List.getElem?_eq_getElem hp⟩
  have hsn := h.lt s (List.mem_of_getElem? hs)
  have hlead : ∃ i, i < n ∧ anyB es i i = false ∧ mutl es i s = true := by
    have key : ∀ m i, i ≤ m → i < n → mutl es i s = true → ∃ i, i < n ∧ anyB es i i = false ∧ mutl es i s = true := by
      intro m
      induction m with
      | zero =>
        intro i hi hin hm
        obtain rfl : i = 0 := by omega
        exact ⟨0, hin, rfl, hm⟩
      | succ m ih =>
        intro i hi hin hm
        cases ha : anyB es i i
        · exact ⟨i, hin, ha, hm⟩
        · obtain ⟨j, hj, hj2⟩ := anyB_iff.1 ha
          exact ih j (by omega) (by omega) (mutl_trans hj2 hm)
    exact key s s (Nat.le_refl _) hsn (mutl_refl es s)
  obtain ⟨i, hi, ha, hm⟩ := hlead
  refine ⟨cls n es i, ?_, fun x hx => ?_⟩
  · unfold partsOf partsTo
    exact List.mem_map.2 ⟨i, List.mem_filter.2 ⟨List.mem_range.2 hi, by rw [ha]; rfl⟩, rfl⟩
  · unfold cls
    exact List.mem_filter.2 ⟨List.mem_range.2 (h.lt x hx), mutl_trans hm (h.near x hx s hs)⟩
end Go.Proofs.Ythhhcaleoiopgaa
