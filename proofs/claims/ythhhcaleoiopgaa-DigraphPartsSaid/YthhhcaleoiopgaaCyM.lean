/-
  Directed graphs: there is an order, or a loop; the graph turned round. Plain.
-/
import Derived.Test.YthhhcaleoiopgaaRcC
import Derived.Test.YthhhcaleoiopgaaPaM
namespace Go.Proofs.Ythhhcaleoiopgaa
set_option linter.unusedVariables false

theorem sub_len : ∀ (l D : List Nat), l.Nodup → (∀ x ∈ l, x ∈ D) → l.length ≤ D.length
  | [], D, _, _ => by simp
  | a :: l, D, hn, h => by
    obtain ⟨h1, h2⟩ := List.nodup_cons.1 hn
    have ih := sub_len l (D.erase a) h2 (fun x hx => (List.mem_erase_of_ne (fun e => by subst e; exact h1 hx)).2 (h x (by simp [hx])))
    rw [List.length_erase_of_mem (h a (by simp))] at ih
    have : 0 < D.length := List.length_pos_of_mem (h a (by simp))
    simp; omega
theorem countP_lt {α : Type} {P Q : α → Bool} : ∀ l : List α, (∀ a ∈ l, P a = true → Q a = true) → (∃ z ∈ l, Q z = true ∧ P z = false) → l.countP P < l.countP Q
  | [], _, h => by obtain ⟨z, hz, _⟩ := h; simp at hz
  | a :: l, h, hz => by
    rw [List.countP_cons, List.countP_cons]
    have hmono : l.countP P ≤ l.countP Q := List.countP_mono_left (fun x hx => h x (by simp [hx]))
    obtain ⟨z, hz1, hz2, hz3⟩ := hz
    rcases List.mem_cons.1 hz1 with rfl | hz1
    · rw [hz2, hz3]; simp; omega
    · have ih := countP_lt l (fun x hx => h x (by simp [hx])) ⟨z, hz1, hz2, hz3⟩
      have ha := h a (by simp)
      cases h1 : P a
      · cases Q a <;> simp <;> omega
      · rw [ha h1]; simp; omega

def hasCyc (es : List (Nat × Nat)) : Prop := ∃ x y, (x, y) ∈ es ∧ Rch es y x
noncomputable def cntR (n : Nat) (es : List (Nat × Nat)) (x : Nat) : Nat := (List.range n).countP fun y => reaB es y x
theorem cyc_of_pred {n : Nat} {es : List (Nat × Nat)} {S : Nat → Prop} (hS : ∀ x, S x → x < n) (hp : ∀ x, S x → ∃ p, S p ∧ (p, x) ∈ es) : ∀ (m x : Nat), S x → cntR n es x ≤ m → hasCyc es := by
  intro m
  induction m with
  | zero =>
    intro x hx hc
    have : 0 < cntR n es x := List.countP_pos_iff.2 ⟨x, List.mem_range.2 (hS x hx), reaB_iff.2 (.refl x)⟩
    omega
  | succ m ih =>
    intro x hx hc
    obtain ⟨p, hp1, hp2⟩ := hp x hx
    by_cases h : Rch es x p
    · exact ⟨p, x, hp2, h⟩
    · refine ih p hp1 ?_
      have : cntR n es p < cntR n es x := countP_lt _ (fun y _ hy => reaB_iff.2 ((reaB_iff.1 hy).trans (Rch.one hp2))) ⟨x, List.mem_range.2 (hS x hx), reaB_iff.2 (.refl x), by
        cases hr : reaB es x p
        · rfl
        · exact absurd (reaB_iff.1 hr) h⟩
      omega
theorem ordTo_fail {n : Nat} {es : List (Nat × Nat)} : ∀ k, ordTo n es k = none → ∃ j D, j < k ∧ ordTo n es j = some D ∧ nextFree n es D = none := by
  intro k
  induction k with
  | zero => intro h; cases h
  | succ k ih =>
    intro h
    cases hk : ordTo n es k with
    | none =>
      obtain ⟨j, D, hj, h1, h2⟩ := ih hk
      exact ⟨j, D, by omega, h1, h2⟩
    | some D =>
      refine ⟨k, D, by omega, hk, ?_⟩
      rw [ordTo, hk] at h
      simp only at h
      cases hf : nextFree n es D with
      | none => rfl
      | some i => rw [hf] at h; cases h
theorem order_none {n : Nat} {es : List (Nat × Nat)} (he : EndsD n es) (h : orderOf n es = none) : hasCyc es := by
  obtain ⟨j, D, hj, h1, h2⟩ := ordTo_fail n h
  obtain ⟨hl, ho⟩ := ordTo_ok j D h1
  have hno := nextFree_none h2
  have hex : ∃ i, i < n ∧ i ∉ D := by
    refine Classical.byContradiction fun hc => ?_
    have := sub_len (List.range n) D List.nodup_range (fun x hx => Classical.byContradiction fun hx2 => hc ⟨x, List.mem_range.1 hx, hx2⟩)
    rw [List.length_range] at this
    omega
  obtain ⟨i, hi, hiD⟩ := hex
  refine cyc_of_pred (n := n) (S := fun x => x < n ∧ x ∉ D) (fun x h => h.1) (fun x hx => ?_) _ i ⟨hi, hiD⟩ (Nat.le_refl _)
  have hav := hno x hx.1
  refine Classical.byContradiction fun hc => ?_
  have : avail es D x = true := avail_iff.2 ⟨hx.2, fun e hm e2 => Classical.byContradiction fun h3 => hc ⟨e.1, ⟨(he.mem hm).1, h3⟩, by rw [← e2]; exact hm⟩⟩
  rw [hav] at this
  cases this
theorem ord_rch {n : Nat} {es : List (Nat × Nat)} {D : List Nat} (he : EndsD n es) (h : orderOf n es = some D) {x y : Nat} (hr : Rch es x y) : D.idxOf x ≤ D.idxOf y := by
  induction hr with
  | refl => exact Nat.le_refl _
  | @step y z _ hm ih =>
    have hz : z < n := (he.mem hm).2
    have := (ord_edge h (nextsS_mem.2 ⟨hz, hm⟩)).2.2
    omega
theorem order_some {n : Nat} {es : List (Nat × Nat)} {D : List Nat} (he : EndsD n es) (h : orderOf n es = some D) : ¬ hasCyc es := by
  rintro ⟨x, y, hm, hr⟩
  have hy : y < n := (he.mem hm).2
  have h1 := (ord_edge h (nextsS_mem.2 ⟨hy, hm⟩)).2.2
  have h2 := ord_rch he h hr
  omega

/-! ### turned round -/
def turn (es : List (Nat × Nat)) : List (Nat × Nat) := es.map fun e => (e.2, e.1)
theorem turn_mem {es : List (Nat × Nat)} {x y : Nat} : (x, y) ∈ turn es ↔ (y, x) ∈ es := by
  unfold turn
  rw [List.mem_map]
  constructor
  · rintro ⟨⟨a, b⟩, h, e⟩
    injection e with e1 e2
    simp only at e1 e2
    subst e1 e2
    exact h
  · intro h; exact ⟨(y, x), h, rfl⟩
theorem turn_len (es : List (Nat × Nat)) : (turn es).length = es.length := by simp [turn]
theorem turn_ends {n : Nat} {es : List (Nat × Nat)} (h : EndsD n es) : EndsD n (turn es) := by
  intro k e he
  unfold turn at he
  rw [List.getElem?_map] at he
  obtain ⟨a, ha, rfl⟩ := Option.map_eq_some_iff.1 he
  exact (h k a ha).symm
theorem turn_rch1 {es : List (Nat × Nat)} {x y : Nat} (h : Rch es x y) : Rch (turn es) y x := by
  induction h with
  | refl => exact .refl _
  | step _ hm ih => exact (Rch.one (turn_mem.2 hm)).trans ih
theorem turn_turn (es : List (Nat × Nat)) : turn (turn es) = es := by
  unfold turn
  rw [List.map_map]
  have : es = es.map id := by simp
  conv => rhs; rw [this]
  exact List.map_congr_left fun e _ => rfl
theorem turn_rch {es : List (Nat × Nat)} {x y : Nat} : Rch (turn es) x y ↔ Rch es y x := by
  constructor
  · intro h
    have := turn_rch1 h
    rwa [turn_turn] at this
  · exact turn_rch1
theorem bool_ext {a b : Bool} (h : a = true ↔ b = true) : a = b := by cases a <;> cases b <;> simp_all
theorem turn_reaB (es : List (Nat × Nat)) (x y : Nat) : reaB (turn es) x y = reaB es y x := bool_ext (by rw [reaB_iff, reaB_iff, turn_rch])
theorem turn_mutl (es : List (Nat × Nat)) (x y : Nat) : mutl (turn es) x y = mutl es x y := by
  unfold mutl
  rw [turn_reaB, turn_reaB, Bool.and_comm]
theorem turn_parts (n : Nat) (es : List (Nat × Nat)) : partsOf n (turn es) = partsOf n es := by
  have h1 : ∀ t k, anyB (turn es) t k = anyB es t k := fun t k => by
    unfold anyB
    congr 1
    funext j
    exact turn_mutl es j k
  have h2 : ∀ i, cls n (turn es) i = cls n es i := fun i => by
    unfold cls
    congr 1
    funext k
    exact turn_mutl es i k
  unfold partsOf partsTo
  rw [show (fun i => !anyB (turn es) i i) = (fun i => !anyB es i i) from funext fun i => by rw [h1]]
  exact List.map_congr_left fun i _ => h2 i
theorem turn_cyc {es : List (Nat × Nat)} : hasCyc (turn es) ↔ hasCyc es := by
  have key : ∀ es, hasCyc es → hasCyc (turn es) := fun es ⟨x, y, h, hr⟩ => ⟨y, x, turn_mem.2 h, turn_rch1 hr⟩
  exact ⟨fun h => by have := key _ h; rwa [turn_turn] at this, key es⟩
theorem turn_order {n : Nat} {es : List (Nat × Nat)} (he : EndsD n es) : (orderOf n es = none ∧ orderOf n (turn es) = none) ∨ ∃ D D', orderOf n es = some D ∧ orderOf n (turn es) = some D' := by
  cases h1 : orderOf n es with
  | none =>
    left
    refine ⟨rfl, ?_⟩
    cases h2 : orderOf n (turn es) with
    | none => rfl
    | some D' => exact absurd (turn_cyc.2 (order_none he h1)) (order_some (turn_ends he) h2)
  | some D =>
    right
    cases h2 : orderOf n (turn es) with
    | none => exact absurd (turn_cyc.1 (order_none (turn_ends he) h2)) (order_some he h1)
    | some D' => exact ⟨D, D', rfl, rfl⟩
theorem pathB_snoc {n : Nat} {es : List (Nat × Nat)} : ∀ (p : List Nat) (x y : Nat), pathB n es (p ++ [x]) → y < n → (x, y) ∈ es → pathB n es (p ++ [x, y])
  | [], x, y, h, hy, he => ⟨h, he, hy⟩
  | [a], x, y, h, hy, he => ⟨h.1, h.2.1, h.2.2, he, hy⟩
  | a :: b :: r, x, y, h, hy, he => ⟨h.1, h.2.1, pathB_snoc (b :: r) x y h.2.2 hy he⟩
theorem pathB_turn {n : Nat} {es : List (Nat × Nat)} : ∀ p, pathB n es p → pathB n (turn es) p.reverse
  | [], _ => trivial
  | [x], h => h
  | x :: y :: r, h => by
    have ih := pathB_turn (y :: r) h.2.2
    rw [List.reverse_cons] at ih ⊢
    rw [List.reverse_cons, List.append_assoc]
    exact pathB_snoc r.reverse y x ih h.1 (turn_mem.2 h.2.1)
theorem nsum_perm {ws : List Int} {p q : List Nat} (h : p.Perm q) : nsum ws p = nsum ws q := by
  induction h with
  | nil => rfl
  | cons x _ ih => rw [nsum_cons, nsum_cons, ih]
  | swap x y l => rw [nsum_cons, nsum_cons, nsum_cons, nsum_cons]; omega
  | trans _ _ h1 h2 => exact h1.trans h2
theorem turn_long {n : Nat} {es : List (Nat × Nat)} {ws : List Int} {D D' : List Nat} (hD : orderOf n es = some D) (hD' : orderOf n (turn es) = some D') (hn : 0 < n) (hw : ∀ x ∈ ws, 0 ≤ x) : (longOf n es ws D).1 = (longOf n (turn es) ws D').1 := by
  have key : ∀ {es es' : List (Nat × Nat)} {D D' : List Nat}, orderOf n es = some D → orderOf n es' = some D' → es' = turn es → (longOf n es ws D).1 ≤ (longOf n es' ws D').1 := by
    intro es es' D D' h1 h2 h3
    subst h3
    obtain ⟨p1, p2, _⟩ := long_is (ws := ws) h1 hn
    rw [← p2, nsum_perm (List.reverse_perm _).symm]
    exact long_most h2 hn hw _ (pathB_turn _ p1)
  exact Int.le_antisymm (key hD hD' rfl) (key hD' hD (turn_turn es).symm)
theorem turn_res {n : Nat} {es : List (Nat × Nat)} (he : EndsD n es) (ws : List Int) : (longRes n es ws).1 = (longRes n (turn es) ws).1 ∧ (longRes n es ws).2.2 = (longRes n (turn es) ws).2.2 := by
  unfold longRes
  by_cases h1 : ws.length ≠ n
  · rw [if_pos h1, if_pos h1]; exact ⟨rfl, rfl⟩
  · rw [if_neg h1, if_neg h1]
    by_cases h2 : ws.any badW = true
    · rw [if_pos h2, if_pos h2]; exact ⟨rfl, rfl⟩
    · rw [if_neg h2, if_neg h2]
      have hwb : ∀ x ∈ ws, 0 ≤ x := fun x hx => by
        have h2' : ws.any badW = false := by simpa using h2
        have := List.any_eq_false.1 h2' x hx
        unfold badW at this
        simp at this
        omega
      rcases turn_order he with ⟨h3, h4⟩ | ⟨D, D', h3, h4⟩
      · rw [h3, h4]; exact ⟨rfl, rfl⟩
      · rw [h3, h4]
        by_cases h0 : n = 0
        · simp [h0]
        · simp only [if_neg h0]
          exact ⟨turn_long h3 h4 (by omega) hwb, trivial⟩
end Go.Proofs.Ythhhcaleoiopgaa
