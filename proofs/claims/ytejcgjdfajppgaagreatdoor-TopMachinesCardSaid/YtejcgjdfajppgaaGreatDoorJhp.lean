/-
  Johnson's order (plain): no order is shorter.
-/
import Derived.Test.YtejcgjdfajppgaaGreatDoorLaw
namespace Go.Proofs.YtejcgjdfajppgaaGreatDoor
section
open Go.RowKit
set_option linter.unusedVariables false
set_option linter.unusedSimpArgs false

/-- The machines after some jobs: when the first is free, when the second is. -/
def runS (c b : Nat → Int) : List Nat → Int × Int → Int × Int
  | [], s => s
  | i :: r, s => runS c b r (s.1 + c i, max (s.1 + c i) s.2 + b i)
def lenJ (c b : Nat → Int) (o : List Nat) : Int := (runS c b o (0, 0)).2
def sumL (f : Nat → Int) (l : List Nat) : Int := (l.map f).sum
theorem sumL_cons (f : Nat → Int) (i : Nat) (l : List Nat) : sumL f (i :: l) = f i + sumL f l := by unfold sumL; simp
theorem sumL_nil (f : Nat → Int) : sumL f [] = 0 := rfl
theorem sumL_append (f : Nat → Int) (l r : List Nat) : sumL f (l ++ r) = sumL f l + sumL f r := by unfold sumL; simp
theorem sumL_perm {f : Nat → Int} {l r : List Nat} (h : l.Perm r) : sumL f l = sumL f r := by
  induction h with
  | nil => rfl
  | cons x _ ih => rw [sumL_cons, sumL_cons, ih]
  | swap x y l => rw [sumL_cons, sumL_cons, sumL_cons, sumL_cons]; omega
  | trans _ _ h1 h2 => rw [h1, h2]
theorem sumL_le {f g : Nat → Int} : ∀ {l : List Nat}, (∀ x ∈ l, f x ≤ g x) → sumL f l ≤ sumL g l
  | [], _ => Int.le_refl _
  | x :: l, h => by
    rw [sumL_cons, sumL_cons]
    have h1 := h x List.mem_cons_self
    have h2 := sumL_le (f := f) (g := g) (l := l) (fun y hy => h y (List.mem_cons_of_mem _ hy))
    omega
theorem sumL_congr {f g : Nat → Int} {l : List Nat} (h : ∀ x ∈ l, f x = g x) : sumL f l = sumL g l := by
  unfold sumL
  rw [List.map_congr_left h]
theorem runS_append (c b : Nat → Int) : ∀ (P Q : List Nat) (s : Int × Int), runS c b (P ++ Q) s = runS c b Q (runS c b P s)
  | [], _, _ => rfl
  | i :: P, Q, s => runS_append c b P Q _
theorem runS_fst (c b : Nat → Int) : ∀ (P : List Nat) (s : Int × Int), (runS c b P s).1 = s.1 + sumL c P
  | [], s => by rw [sumL_nil]; show s.1 = s.1 + 0; omega
  | i :: P, s => by
    rw [sumL_cons]
    have := runS_fst c b P (s.1 + c i, max (s.1 + c i) s.2 + b i)
    show (runS c b P _).1 = _
    rw [this]
    simp only
    omega
theorem runS_snd (c b : Nat → Int) : ∀ (P : List Nat) (s : Int × Int), s.2 + sumL b P ≤ (runS c b P s).2
  | [], s => by rw [sumL_nil]; show s.2 + 0 ≤ s.2; omega
  | i :: P, s => by
    rw [sumL_cons]
    have := runS_snd c b P (s.1 + c i, max (s.1 + c i) s.2 + b i)
    show _ ≤ (runS c b P _).2
    simp only at this
    omega
theorem runS_low (c b : Nat → Int) (P Q : List Nat) (f : Nat) (s : Int × Int) : s.1 + sumL c P + c f + b f + sumL b Q ≤ (runS c b (P ++ f :: Q) s).2 := by
  rw [runS_append]
  have h1 := runS_fst c b P s
  have h2 := runS_snd c b Q ((runS c b P s).1 + c f, max ((runS c b P s).1 + c f) (runS c b P s).2 + b f)
  show _ ≤ (runS c b Q _).2
  simp only at h2
  omega
theorem runS_high (c b : Nat → Int) : ∀ (o : List Nat) (s : Int × Int), (runS c b o s).2 = s.2 + sumL b o ∨ ∃ P k Q, o = P ++ k :: Q ∧ (runS c b o s).2 = s.1 + sumL c P + c k + b k + sumL b Q
  | [], s => .inl (by rw [sumL_nil]; show s.2 = s.2 + 0; omega)
  | i :: r, s => by
    rcases runS_high c b r (s.1 + c i, max (s.1 + c i) s.2 + b i) with h | ⟨P, k, Q, h1, h2⟩
    · simp only at h
      by_cases hm : s.1 + c i ≤ s.2
      · left
        show (runS c b r _).2 = _
        rw [h, sumL_cons]
        omega
      · right
        refine ⟨[], i, r, rfl, ?_⟩
        show (runS c b r _).2 = _
        rw [h, sumL_nil]
        omega
    · right
      refine ⟨i :: P, k, Q, by rw [h1]; rfl, ?_⟩
      show (runS c b r _).2 = _
      rw [h2, sumL_cons]
      simp only
      omega
/-- Johnson's rule between a job and a later one. -/
def JohnR (c b : Nat → Int) (i j : Nat) : Prop := (c j ≤ b j → c i ≤ b i) ∧ (c i ≤ b i → c j ≤ b j → c i ≤ c j) ∧ (b i < c i → b j < c j → b j ≤ b i)
theorem first_split {p : Nat → Prop} [DecidablePred p] : ∀ {l : List Nat}, (∃ x ∈ l, p x) → ∃ P f Q, l = P ++ f :: Q ∧ p f ∧ ∀ j ∈ P, ¬ p j
  | [], h => by obtain ⟨x, hx, _⟩ := h; cases hx
  | a :: l, h => by
    by_cases ha : p a
    · exact ⟨[], a, l, rfl, ha, fun j hj => by cases hj⟩
    · obtain ⟨x, hx, hp⟩ := h
      have hx2 : x ∈ l := by
        rcases List.mem_cons.1 hx with rfl | h
        · exact absurd hp ha
        · exact h
      obtain ⟨P, f, Q, h1, h2, h3⟩ := first_split (l := l) ⟨x, hx2, hp⟩
      refine ⟨a :: P, f, Q, by rw [h1]; rfl, h2, fun j hj => ?_⟩
      rcases List.mem_cons.1 hj with rfl | hj
      · exact ha
      · exact h3 j hj
theorem last_split {p : Nat → Prop} [DecidablePred p] : ∀ {l : List Nat}, (∃ x ∈ l, p x) → ∃ P f Q, l = P ++ f :: Q ∧ p f ∧ ∀ j ∈ Q, ¬ p j
  | [], h => by obtain ⟨x, hx, _⟩ := h; cases hx
  | a :: l, h => by
    by_cases hl : ∃ x ∈ l, p x
    · obtain ⟨P, f, Q, h1, h2, h3⟩ := last_split hl
      exact ⟨a :: P, f, Q, by rw [h1]; rfl, h2, h3⟩
    · obtain ⟨x, hx, hp⟩ := h
      rcases List.mem_cons.1 hx with rfl | hx
      · exact ⟨[], x, l, rfl, hp, fun j hj hpj => hl ⟨j, hj, hpj⟩⟩
      · exact absurd ⟨x, hx, hp⟩ hl
theorem johnson_best {c b : Nat → Int} {J o : List Nat} (hJ : J.Pairwise (JohnR c b)) (hn : J.Nodup) (hp : o.Perm J) : lenJ c b J ≤ lenJ c b o := by
  unfold lenJ
  have hno : o.Nodup := hp.nodup_iff.2 hn
  rcases runS_high c b J (0, 0) with h | ⟨P, k, Q, hJe, h⟩
  · rw [h, ← sumL_perm hp]
    have := runS_snd c b o (0, 0)
    simp only at this ⊢
    omega
  · rw [h]
    subst hJe
    rw [List.pairwise_append] at hJ
    obtain ⟨hP, hkQ, hPk⟩ := hJ
    have hk := List.pairwise_cons.1 hkQ
    have hnd := List.nodup_append.1 hn
    have hnk := List.nodup_cons.1 hnd.2.1
    have hko : k ∈ o := hp.mem_iff.2 (by simp)
    by_cases hc : c k ≤ b k
    · obtain ⟨P', f, Q', ho, hf, hP'⟩ := first_split (p := fun j => c k ≤ c j) ⟨k, hko, Int.le_refl _⟩
      subst ho
      refine Int.le_trans ?_ (runS_low c b P' Q' f (0, 0))
      have hno2 := List.nodup_append.1 hno
      have e1 : sumL (fun j => if j ∈ P then c j else b j) (P ++ k :: Q) = sumL c P + (b k + sumL b Q) := by
        rw [sumL_append, sumL_cons]
        have h1 : sumL (fun j => if j ∈ P then c j else b j) P = sumL c P := sumL_congr fun x hx => if_pos hx
        have h2 : sumL (fun j => if j ∈ P then c j else b j) Q = sumL b Q := sumL_congr fun x hx => if_neg fun hxP => hnd.2.2 x hxP x (List.mem_cons_of_mem _ hx) rfl
        rw [h1, h2, if_neg fun hkP => hnd.2.2 k hkP k List.mem_cons_self rfl]
      have e2 : sumL (fun j => if j ∈ P' then c j else b j) (P' ++ f :: Q') = sumL c P' + (b f + sumL b Q') := by
        rw [sumL_append, sumL_cons]
        have h1 : sumL (fun j => if j ∈ P' then c j else b j) P' = sumL c P' := sumL_congr fun x hx => if_pos hx
        have h2 : sumL (fun j => if j ∈ P' then c j else b j) Q' = sumL b Q' := sumL_congr fun x hx => if_neg fun hxP => hno2.2.2 x hxP x (List.mem_cons_of_mem _ hx) rfl
        rw [h1, h2, if_neg fun hkP => hno2.2.2 f hkP f List.mem_cons_self rfl]
      have e3 : sumL (fun j => if j ∈ P then c j else b j) (P ++ k :: Q) ≤ sumL (fun j => if j ∈ P' then c j else b j) (P' ++ f :: Q') := by
        rw [sumL_perm hp]
        refine sumL_le fun j hj => ?_
        by_cases h1 : j ∈ P'
        · rw [if_pos h1]
          have hlt := hP' j h1
          by_cases h2 : j ∈ P
          · rw [if_pos h2]; exact Int.le_refl _
          · rw [if_neg h2]
            have hjQ : j ∈ Q := by
              rcases List.mem_append.1 hj with h3 | h3
              · exact absurd h3 h2
              · rcases List.mem_cons.1 h3 with rfl | h3
                · exact absurd (Int.le_refl _) hlt
                · exact h3
            have hR := hk.1 j hjQ
            by_cases h4 : c j ≤ b j
            · exact absurd (hR.2.1 hc h4) hlt
            · omega
        · rw [if_neg h1]
          by_cases h2 : j ∈ P
          · rw [if_pos h2]
            exact (hPk j h2 k List.mem_cons_self).1 hc
          · rw [if_neg h2]; exact Int.le_refl _
      rw [e1, e2] at e3
      simp only
      omega
    · obtain ⟨P', f, Q', ho, hf, hQ'⟩ := last_split (p := fun j => b k ≤ b j) ⟨k, hko, Int.le_refl _⟩
      subst ho
      refine Int.le_trans ?_ (runS_low c b P' Q' f (0, 0))
      have hno2 := List.nodup_append.1 hno
      have hnk2 := List.nodup_cons.1 hno2.2.1
      have e1 : sumL (fun j => if j ∈ Q then b j else c j) (P ++ k :: Q) = sumL c P + (c k + sumL b Q) := by
        rw [sumL_append, sumL_cons]
        have h1 : sumL (fun j => if j ∈ Q then b j else c j) P = sumL c P := sumL_congr fun x hx => if_neg fun hxQ => hnd.2.2 x hx x (List.mem_cons_of_mem _ hxQ) rfl
        have h2 : sumL (fun j => if j ∈ Q then b j else c j) Q = sumL b Q := sumL_congr fun x hx => if_pos hx
        rw [h1, h2, if_neg hnk.1]
      have e2 : sumL (fun j => if j ∈ Q' then b j else c j) (P' ++ f :: Q') = sumL c P' + (c f + sumL b Q') := by
        rw [sumL_append, sumL_cons]
        have h1 : sumL (fun j => if j ∈ Q' then b j else c j) P' = sumL c P' := sumL_congr fun x hx => if_neg fun hxQ => hno2.2.2 x hx x (List.mem_cons_of_mem _ hxQ) rfl
        have h2 : sumL (fun j => if j ∈ Q' then b j else c j) Q' = sumL b Q' := sumL_congr fun x hx => if_pos hx
        rw [h1, h2, if_neg hnk2.1]
      have e3 : sumL (fun j => if j ∈ Q then b j else c j) (P ++ k :: Q) ≤ sumL (fun j => if j ∈ Q' then b j else c j) (P' ++ f :: Q') := by
        rw [sumL_perm hp]
        refine sumL_le fun j hj => ?_
        by_cases h1 : j ∈ Q'
        · rw [if_pos h1]
          have hlt := hQ' j h1
          by_cases h2 : j ∈ Q
          · rw [if_pos h2]; exact Int.le_refl _
          · rw [if_neg h2]
            have hjP : j ∈ P := by
              rcases List.mem_append.1 hj with h3 | h3
              · exact h3
              · rcases List.mem_cons.1 h3 with rfl | h3
                · exact absurd (Int.le_refl _) hlt
                · exact absurd h3 h2
            have hR := hPk j hjP k List.mem_cons_self
            by_cases h4 : b j < c j
            · exact absurd (hR.2.2 h4 (by omega)) hlt
            · omega
        · rw [if_neg h1]
          by_cases h2 : j ∈ Q
          · rw [if_pos h2]
            have hR := (hk.1 j h2).1
            by_cases h4 : c j ≤ b j
            · exact absurd (hR h4) hc
            · omega
          · rw [if_neg h2]; exact Int.le_refl _
      rw [e1, e2] at e3
      simp only
      omega
end
end Go.Proofs.YtejcgjdfajppgaaGreatDoor
