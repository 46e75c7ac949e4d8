/-
  Directed graphs: longest paths are longest, plain.
-/
import Derived.Test.YthhhcaleoiopgaaWgh
import Derived.Test.YthhhcaleoiopgaaDlL
namespace Go.Proofs.Ythhhcaleoiopgaa
set_option linter.unusedVariables false

def pathB (n : Nat) (es : List (Nat × Nat)) : List Nat → Prop
  | [] => True
  | [x] => x < n
  | x :: y :: r => x < n ∧ (x, y) ∈ es ∧ pathB n es (y :: r)
def nsum (ws : List Int) (p : List Nat) : Int := (p.map fun x => ws.getD x 0).sum
theorem nsum_cons (ws : List Int) (x : Nat) (p : List Nat) : nsum ws (x :: p) = ws.getD x 0 + nsum ws p := by simp [nsum]
theorem pathB_head {n : Nat} {es : List (Nat × Nat)} {x : Nat} {p : List Nat} (h : pathB n es (x :: p)) : x < n := by
  cases p with
  | nil => exact h
  | cons y r => exact h.1
theorem pathB_tail {n : Nat} {es : List (Nat × Nat)} {x : Nat} {p : List Nat} (h : pathB n es (x :: p)) : pathB n es p := by
  cases p with
  | nil => trivial
  | cons y r => exact h.2.2

theorem cst_mem {es : List (Nat × Nat)} {x y : Nat} : ((x : Int), (y : Int)) ∈ cst es ↔ (x, y) ∈ es := by
  unfold cst
  rw [List.mem_map]
  constructor
  · rintro ⟨⟨a, b⟩, h, e⟩
    injection e with e1 e2
    have h1 : a = x := by simp only at e1; omega
    have h2 : b = y := by simp only at e2; omega
    rw [← h1, ← h2]; exact h
  · intro h
    exact ⟨(x, y), h, rfl⟩

theorem wpath_of {n : Nat} {es : List (Nat × Nat)} {ws : List Int} (hl : ws.length = n) : ∀ p : List Nat, pathB n es p → WPath n es ws (p.map fun k : Nat => (k : Int))
  | [], _ => fun i x hx => by simp at hx
  | x :: p, h => fun i z hz => by
    have ih := wpath_of hl p (pathB_tail h)
    cases i with
    | zero =>
      simp at hz
      have := pathB_head h
      exact ⟨by omega, by omega, by omega, fun j y hj => by omega⟩
    | succ i =>
      rw [List.map_cons, List.getElem?_cons_succ] at hz
      obtain ⟨h1, h2, h3, h4⟩ := ih i z hz
      refine ⟨h1, h2, h3, fun j y hj hy => ?_⟩
      obtain rfl : j = i := by omega
      cases j with
      | zero =>
        cases p with
        | nil => simp at hz
        | cons q r =>
          simp at hz hy
          subst hz hy
          exact cst_mem.2 h.2.1
      | succ j =>
        rw [List.map_cons, List.getElem?_cons_succ] at hy
        exact h4 j y rfl hy
theorem path_of {n : Nat} {es : List (Nat × Nat)} {ws : List Int} : ∀ l : List Int, WPath n es ws l → ∃ p : List Nat, l = (p.map fun k : Nat => (k : Int)) ∧ pathB n es p
  | [], _ => ⟨[], rfl, trivial⟩
  | x :: l, h => by
    have hx := h 0 x rfl
    obtain ⟨p, hp, hpb⟩ := path_of l (fun i z hz => by
      obtain ⟨h1, h2, h3, h4⟩ := h (i + 1) z (by rw [List.getElem?_cons_succ]; exact hz)
      exact ⟨h1, h2, h3, fun j y hj hy => h4 (j + 1) y (by omega) (by rw [List.getElem?_cons_succ]; exact hy)⟩)
    obtain ⟨X, rfl⟩ : ∃ X : Nat, x = (X : Int) := ⟨x.toNat, by omega⟩
    refine ⟨X :: p, by rw [hp]; rfl, ?_⟩
    cases p with
    | nil => show X < n; omega
    | cons q r =>
      refine ⟨by omega, ?_, hpb⟩
      subst hp
      exact cst_mem.1 ((h 1 (q : Int) rfl).2.2.2 0 (X : Int) rfl rfl)
theorem wsum_nat (ws : List Int) (p : List Nat) : wsum ws (p.map fun k : Nat => (k : Int)) = nsum ws p := by
  unfold wsum nsum
  rw [List.map_map]
  congr 1

section
variable {n : Nat} {es : List (Nat × Nat)} {ws : List Int} {D : List Nat}
theorem best_ge (hD : orderOf n es = some D) : ∀ (p : List Nat) (x : Nat), pathB n es (x :: p) → nsum ws (x :: p) ≤ (bestOf n es ws D).getD x 0
  | [], x, h => by
    have hb := best_is (ws := ws) hD (pathB_head h)
    unfold BestAt at hb
    have := maxOver_nonneg (bestOf n es ws D) (nextsS n es x)
    rw [nsum_cons, hb]
    have e : nsum ws [] = 0 := rfl
    omega
  | y :: r, x, h => by
    have ih := best_ge hD r y (pathB_tail h)
    have hb := best_is (ws := ws) hD (pathB_head h)
    unfold BestAt at hb
    have := maxOver_ge (A := bestOf n es ws D) (nextsS_mem.2 ⟨pathB_head (pathB_tail h), h.2.1⟩)
    rw [nsum_cons, hb]
    omega
theorem walk_path (hD : orderOf n es = some D) : ∀ (f x : Nat) (r : Int), x < n → r = (bestOf n es ws D).getD x 0 - ws.getD x 0 → n ≤ f + D.idxOf x + 1 →
    pathB n es (x :: longWalk n es ws (bestOf n es ws D) f x r) ∧ nsum ws (longWalk n es ws (bestOf n es ws D) f x r) = r := by
  intro f
  induction f with
  | zero =>
    intro x r hx hr hf
    have hb := best_is (ws := ws) hD hx
    unfold BestAt at hb
    have := maxOver_nonneg (bestOf n es ws D) (nextsS n es x)
    have h0 : r = 0 := by
      rcases Decidable.em (0 < r) with h | h
      · obtain ⟨k, hk, _⟩ := long_next (ws := ws) hD hx hr h
        have hke := ord_edge hD hk
        have := List.idxOf_lt_length_of_mem hke.2.1
        have := (ordTo_ok n D hD).1
        omega
      · omega
    exact ⟨hx, h0.symm⟩
  | succ f ih =>
    intro x r hx hr hf
    have hb := best_is (ws := ws) hD hx
    unfold BestAt at hb
    have := maxOver_nonneg (bestOf n es ws D) (nextsS n es x)
    rcases Decidable.em (0 < r) with h | h
    · have hex : ∃ k ∈ nextsS n es x, (fun k => (bestOf n es ws D).getD k 0 == r) k = true := by
        obtain ⟨k, hk, h⟩ := long_next (ws := ws) hD hx hr h
        exact ⟨k, hk, by simpa using h⟩
      obtain ⟨j, k, hj, hpk, _, hfind⟩ := find_at hex
      have hpk' : (bestOf n es ws D).getD k 0 = r := by simpa using hpk
      have hkm := List.mem_of_getElem? hj
      have hke := ord_edge hD hkm
      obtain ⟨k1, k2⟩ := nextsS_mem.1 hkm
      rw [longWalk_step h hfind]
      obtain ⟨i1, i2⟩ := ih k (r - ws.getD k 0) k1 (by rw [hpk']) (by omega)
      refine ⟨⟨hx, k2, i1⟩, ?_⟩
      rw [nsum_cons, i2]
      omega
    · have h0 : r = 0 := by omega
      rw [longWalk_end (by omega)]
      exact ⟨hx, h0.symm⟩
theorem long_is (hD : orderOf n es = some D) (hn : 0 < n) : pathB n es (longOf n es ws D).2 ∧ nsum ws (longOf n es ws D).2 = (longOf n es ws D).1 ∧ 0 < (longOf n es ws D).2.length ∧ (longOf n es ws D).2.length ≤ n + 1 := by
  have hAl := bestOf_len n es ws D
  obtain ⟨x, h1, h2, _⟩ := idxOf_is (maxOf_mem (bestOf n es ws D) (by omega)).1
  have hx : x < n := by have := (List.getElem?_eq_some_iff.1 h2).1; omega
  have hM : (bestOf n es ws D).getD x 0 = Lib.maxOf (bestOf n es ws D) := by rw [List.getD_eq_getElem?_getD, h2]; rfl
  obtain ⟨w1, w2⟩ := walk_path (ws := ws) hD n x (Lib.maxOf (bestOf n es ws D) - ws.getD x 0) hx (by rw [hM]) (by omega)
  have hl := longWalk_len n es ws (bestOf n es ws D) n x (Lib.maxOf (bestOf n es ws D) - ws.getD x 0)
  have e2 : (longOf n es ws D).2 = x :: longWalk n es ws (bestOf n es ws D) n x (Lib.maxOf (bestOf n es ws D) - ws.getD x 0) := by
    unfold longOf
    simp only [h1, Int.toNat_natCast]
  have e1 : (longOf n es ws D).1 = Lib.maxOf (bestOf n es ws D) := rfl
  rw [e2, e1]
  refine ⟨w1, ?_, Nat.succ_pos _, Nat.succ_le_succ hl⟩
  rw [nsum_cons, w2]; omega
theorem long_most (hD : orderOf n es = some D) (hn : 0 < n) (hw : ∀ x ∈ ws, 0 ≤ x) (p : List Nat) (hp : pathB n es p) : nsum ws p ≤ (longOf n es ws D).1 := by
  have hAl := bestOf_len n es ws D
  have hm := maxOf_mem (bestOf n es ws D) (by omega)
  have key : ∀ x, x < n → (bestOf n es ws D).getD x 0 ≤ Lib.maxOf (bestOf n es ws D) := fun x hx => by
    rw [List.getD_eq_getElem?_getD, List.getElem?_eq_getElem (by omega)]
    exact hm.2 _ (List.getElem_mem _)
  cases p with
  | nil =>
    have h1 := best_ge (ws := ws) hD [] 0 hn
    have h2 := key 0 hn
    have h3 : 0 ≤ ws.getD 0 0 := by
      rw [List.getD_eq_getElem?_getD]
      cases hk : ws[0]? with
      | none => simp
      | some y => exact hw y (List.mem_of_getElem? hk)
    rw [nsum_cons] at h1
    show nsum ws [] ≤ Lib.maxOf (bestOf n es ws D)
    omega
  | cons x p => exact Int.le_trans (best_ge hD p x hp) (key x (pathB_head hp))
theorem pathB_more {es' : List (Nat × Nat)} (h : ∀ e ∈ es, e ∈ es') : ∀ p, pathB n es p → pathB n es' p
  | [], _ => trivial
  | [x], hp => hp
  | x :: y :: r, hp => ⟨hp.1, h _ hp.2.1, pathB_more h (y :: r) hp.2.2⟩
theorem pathB_up (hD : orderOf n es = some D) : ∀ (p : List Nat) (x : Nat), pathB n es (x :: p) → ∀ y ∈ p, D.idxOf x < D.idxOf y
  | [], x, _, y, hy => by simp at hy
  | z :: r, x, h, y, hy => by
    have h1 := (ord_edge hD (nextsS_mem.2 ⟨pathB_head (pathB_tail h), h.2.1⟩)).2.2
    rcases List.mem_cons.1 hy with rfl | hy
    · exact h1
    · have := pathB_up hD r z (pathB_tail h) y hy
      omega
theorem pathB_nodup (hD : orderOf n es = some D) : ∀ p, pathB n es p → p.Nodup
  | [], _ => List.nodup_nil
  | x :: p, h => List.nodup_cons.2 ⟨fun hm => by have := pathB_up hD p x h x hm; omega, pathB_nodup hD p (pathB_tail h)⟩
theorem nsum_set {u : Nat} (hu : u < ws.length) (m : Int) : ∀ p : List Nat, p.Nodup → nsum (ws.set u (ws.getD u 0 + m)) p = nsum ws p + if u ∈ p then m else 0
  | [], _ => by simp [nsum]
  | x :: p, h => by
    obtain ⟨h1, h2⟩ := List.nodup_cons.1 h
    rw [nsum_cons, nsum_cons, nsum_set hu m p h2, getD_set hu]
    by_cases e : x = u
    · subst e
      rw [if_pos rfl, if_neg h1, if_pos (by simp)]; omega
    · rw [if_neg e]
      by_cases hm : u ∈ p
      · rw [if_pos hm, if_pos (by simp [hm])]; omega
      · rw [if_neg hm, if_neg (by simp only [List.mem_cons]; rintro (h | h); exact e h.symm; exact hm h)]; omega
/-- A further edge: never shorter. -/
theorem long_wider {e : Nat × Nat} {D' : List Nat} (hD : orderOf n es = some D) (hD' : orderOf n (es ++ [e]) = some D') (hn : 0 < n) (hw : ∀ x ∈ ws, 0 ≤ x) : (longOf n es ws D).1 ≤ (longOf n (es ++ [e]) ws D').1 := by
  obtain ⟨h1, h2, _⟩ := long_is (ws := ws) hD hn
  rw [← h2]
  exact long_most hD' hn hw _ (pathB_more (fun e he => by simp [he]) _ h1)
/-- More weight: no shorter, and by no more than that longer. -/
theorem long_heavy {u : Nat} {m : Int} (hD : orderOf n es = some D) (hn : 0 < n) (hu : u < ws.length) (hm : 0 ≤ m) (hw : ∀ x ∈ ws, 0 ≤ x) :
    (longOf n es ws D).1 ≤ (longOf n es (ws.set u (ws.getD u 0 + m)) D).1 ∧ (longOf n es (ws.set u (ws.getD u 0 + m)) D).1 ≤ (longOf n es ws D).1 + m := by
  have hw' : ∀ x ∈ ws.set u (ws.getD u 0 + m), 0 ≤ x := fun x hx => by
    rcases List.mem_or_eq_of_mem_set hx with h | rfl
    · exact hw x h
    · have : 0 ≤ ws.getD u 0 := by
        rw [List.getD_eq_getElem?_getD, List.getElem?_eq_getElem hu]
        exact hw _ (List.getElem_mem _)
      omega
  obtain ⟨h1, h2, _⟩ := long_is (ws := ws) hD hn
  obtain ⟨k1, k2, _⟩ := long_is (ws := ws.set u (ws.getD u 0 + m)) hD hn
  refine ⟨?_, ?_⟩
  · rw [← h2]
    refine Int.le_trans ?_ (long_most hD hn hw' _ h1)
    rw [nsum_set hu m _ (pathB_nodup hD _ h1)]
    split <;> omega
  · rw [← k2, nsum_set hu m _ (pathB_nodup hD _ k1)]
    have := long_most hD hn hw _ k1
    split <;> omega
end
end Go.Proofs.Ythhhcaleoiopgaa
