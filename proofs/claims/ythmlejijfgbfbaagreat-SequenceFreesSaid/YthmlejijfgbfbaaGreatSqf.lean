/-
  Sequences: Free (plain).
-/
import Derived.Test.YthmlejijfgbfbaaGreatSqm
namespace Go.Proofs.YthmlejijfgbfbaaGreat
open Go.RowKit
set_option linter.unusedVariables false
set_option linter.unusedSimpArgs false

def ntI (l : List Nat) : List Int := l.map fun k : Nat => (k : Int)
def woN (l : List Nat) (i : Nat) : List Nat := l.filter fun x => decide (x ≠ i)
def wysF (L : List (List Bx)) (Z : List Int) (left : List Nat) (i : Nat) : List Int := waysL L Z i (ntI (woN left i))
def pickF (L : List (List Bx)) (Z : List Int) (left : List Nat) : Option Nat := left.reverse.find? fun i => !(wysF L Z left i).isEmpty
structure FrS where
  left : List Nat
  ord : List Nat
  ax : List Int
def stepF (L : List (List Bx)) (Z : List Int) (s : FrS) : Option FrS :=
  match pickF L Z s.left with
  | none => none
  | some i => some ⟨woN s.left i, s.ord ++ [i], s.ax.set i ((wysF L Z s.left i).headD 0)⟩
def freeTo (L : List (List Bx)) (Z : List Int) (n : Nat) : Nat → Option FrS
  | 0 => some ⟨List.range n, [], List.replicate n 0⟩
  | k + 1 => match freeTo L Z n k with
    | none => none
    | some s => stepF L Z s
theorem wys_mem {L : List (List Bx)} {Z : List Int} {i : Nat} {T : List Int} {x : Int} : x ∈ waysL L Z i T ↔ axB x = true ∧ blkL L Z x i T = [] := by
  unfold waysL
  rw [List.mem_filter, axes_mem, List.isEmpty_iff]
theorem freeTo_none {L : List (List Bx)} {Z : List Int} {n k : Nat} (h : freeTo L Z n k = none) : ∀ m, k ≤ m → freeTo L Z n m = none := by
  intro m hm
  induction m with
  | zero => obtain rfl : k = 0 := by omega
            exact h
  | succ m ih =>
    by_cases e : k = m + 1
    · rw [← e]; exact h
    · unfold freeTo; rw [ih (by omega)]
theorem pickF_some {L : List (List Bx)} {Z : List Int} {left : List Nat} {i : Nat} (h : pickF L Z left = some i) : i ∈ left ∧ (wysF L Z left i).isEmpty = false := by
  unfold pickF at h
  have h1 := List.find?_some h
  have h2 := List.mem_of_find?_eq_some h
  exact ⟨List.mem_reverse.1 h2, by simpa using h1⟩
theorem pickF_none {L : List (List Bx)} {Z : List Int} {left : List Nat} (h : pickF L Z left = none) : ∀ i ∈ left, (wysF L Z left i).isEmpty = true := by
  intro i hi
  unfold pickF at h
  rw [List.find?_eq_none] at h
  have := h i (List.mem_reverse.2 hi)
  simpa using this
theorem woN_mem {l : List Nat} {i x : Nat} : x ∈ woN l i ↔ x ∈ l ∧ x ≠ i := by unfold woN; simp
theorem woN_len : ∀ {l : List Nat} {i : Nat}, l.Nodup → i ∈ l → (woN l i).length + 1 = l.length
  | [], i, _, h => by simp at h
  | a :: l, i, hn, h => by
    obtain ⟨h1, h2⟩ := List.nodup_cons.1 hn
    unfold woN
    by_cases e : a = i
    · subst e
      rw [List.filter_cons_of_neg (by simp)]
      have : l.filter (fun x => decide (x ≠ a)) = l := by
        rw [List.filter_eq_self]
        intro x hx
        simp only [ne_eq, decide_not, Bool.not_eq_true', decide_eq_false_iff_not]
        intro e; subst e; exact h1 hx
      rw [this]; rfl
    · rw [List.filter_cons_of_pos (by simpa using e)]
      have hi : i ∈ l := by
        rcases List.mem_cons.1 h with e2 | h3
        · exact absurd e2.symm e
        · exact h3
      have := woN_len h2 hi
      unfold woN at this
      simp only [List.length_cons]
      omega
/-- The state of Free. -/
structure FrI (L : List (List Bx)) (Z : List Int) (n k : Nat) (s : FrS) : Prop where
  lnd : s.left.Nodup
  lsort : s.left.Pairwise (· < ·)
  llt : ∀ x ∈ s.left, x < n
  llen : s.left.length + k = n
  olen : s.ord.length = k
  ond : s.ord.Nodup
  olt : ∀ x ∈ s.ord, x < n
  apart : ∀ x ∈ s.ord, x ∉ s.left
  alen : s.ax.length = n
  axo : ∀ x ∈ s.ord, axB (s.ax.getD x 0) = true
  fre : ∀ x ∈ s.ord, ∀ y ∈ s.left, blkAt L Z (s.ax.getD x 0) x y = false
  fro : ∀ (i j : Nat) x y, s.ord[i]? = some x → s.ord[j]? = some y → i < j → blkAt L Z (s.ax.getD x 0) x y = false
theorem getD_setJ {A : List Int} {v : Nat} (hv : v < A.length) (x : Nat) (y : Int) : (A.set v y).getD x 0 = if x = v then y else A.getD x 0 := by
  rw [List.getD_eq_getElem?_getD, List.getElem?_set, List.getD_eq_getElem?_getD]
  by_cases h : v = x
  · subst h
    rw [if_pos rfl, if_pos hv, if_pos rfl]
    rfl
  · rw [if_neg h, if_neg (fun e => h e.symm)]
theorem blkL_nil {L : List (List Bx)} {Z : List Int} {x : Int} {i : Nat} {T : List Nat} : blkL L Z x i (ntI T) = [] ↔ ∀ k ∈ T, blkAt L Z x i k = false := by
  unfold blkL ntI
  rw [List.filter_eq_nil_iff]
  constructor
  · intro h k hk
    have := h (k : Int) (List.mem_map.2 ⟨k, hk, rfl⟩)
    simpa using this
  · intro h y hy
    obtain ⟨k, hk, rfl⟩ := List.mem_map.1 hy
    simpa using h k hk
theorem frI_start (L : List (List Bx)) (Z : List Int) (n : Nat) : FrI L Z n 0 ⟨List.range n, [], List.replicate n 0⟩ where
  lnd := List.nodup_range
  lsort := List.pairwise_lt_range
  llt := fun x hx => List.mem_range.1 hx
  llen := by simp
  olen := rfl
  ond := List.nodup_nil
  olt := fun x hx => by simp at hx
  apart := fun x hx => by simp at hx
  alen := by simp
  axo := fun x hx => by simp at hx
  fre := fun x hx => by simp at hx
  fro := fun i j x y hi => by simp at hi
theorem wys_head {L : List (List Bx)} {Z : List Int} {left : List Nat} {i : Nat} (h : (wysF L Z left i).isEmpty = false) :
    axB ((wysF L Z left i).headD 0) = true ∧ ∀ y ∈ left, y ≠ i → blkAt L Z ((wysF L Z left i).headD 0) i y = false := by
  obtain ⟨a, as', e⟩ : ∃ a b, wysF L Z left i = a :: b := by
    cases hw : wysF L Z left i with
    | nil => rw [hw] at h; cases h
    | cons a b => exact ⟨a, b, rfl⟩
  have ha : a ∈ wysF L Z left i := by rw [e]; exact List.mem_cons_self
  rw [e]
  obtain ⟨h1, h2⟩ := wys_mem.1 ha
  refine ⟨h1, fun y hy hne => ?_⟩
  exact blkL_nil.1 h2 y (woN_mem.2 ⟨hy, hne⟩)
theorem frI_step {L : List (List Bx)} {Z : List Int} {n k : Nat} {s s' : FrS} (h : FrI L Z n k s) (hs : stepF L Z s = some s') : FrI L Z n (k + 1) s' := by
  unfold stepF at hs
  cases hp : pickF L Z s.left with
  | none => rw [hp] at hs; cases hs
  | some i =>
    rw [hp] at hs
    cases hs
    obtain ⟨hi, hw⟩ := pickF_some hp
    obtain ⟨w1, w2⟩ := wys_head hw
    have hin : i ∉ s.ord := fun hm => h.apart i hm hi
    have hil := h.llt i hi
    have hl := woN_len h.lnd hi
    have hll := h.llen
    have hol := h.olen
    have hal := h.alen
    have hg := getD_setJ (A := s.ax) (v := i) (by omega)
    refine ⟨h.lnd.sublist List.filter_sublist, h.lsort.sublist List.filter_sublist, fun x hx => h.llt x (woN_mem.1 hx).1, ?_, ?_, ?_, fun x hx => ?_, fun x hx => ?_, ?_, fun x hx => ?_, fun x hx y hy => ?_, fun a b x y ha hb hab => ?_⟩
    · show (woN s.left i).length + (k + 1) = n; omega
    · show (s.ord ++ [i]).length = k + 1; simp [hol]
    · show (s.ord ++ [i]).Nodup
      rw [List.nodup_append]
      exact ⟨h.ond, by simp, fun a ha b hb e => by rw [List.mem_singleton] at hb; subst hb; subst e; exact hin ha⟩
    · rcases List.mem_append.1 hx with h1 | h1
      · exact h.olt x h1
      · rw [List.mem_singleton] at h1; subst h1; exact hil
    · intro hm
      rcases List.mem_append.1 hx with h1 | h1
      · exact h.apart x h1 (woN_mem.1 hm).1
      · rw [List.mem_singleton] at h1; exact (woN_mem.1 hm).2 h1
    · show (s.ax.set i _).length = n; rw [List.length_set]; exact hal
    · show axB ((s.ax.set i _).getD x 0) = true
      rw [hg]
      rcases List.mem_append.1 hx with h1 | h1
      · rw [if_neg (fun e => by subst e; exact hin h1)]; exact h.axo x h1
      · rw [List.mem_singleton] at h1; rw [if_pos h1]; exact w1
    · show blkAt L Z ((s.ax.set i _).getD x 0) x y = false
      obtain ⟨hy1, hy2⟩ := woN_mem.1 hy
      rw [hg]
      rcases List.mem_append.1 hx with h1 | h1
      · rw [if_neg (fun e => by subst e; exact hin h1)]; exact h.fre x h1 y hy1
      · rw [List.mem_singleton] at h1; subst h1; rw [if_pos rfl]; exact w2 y hy1 hy2
    · show blkAt L Z ((s.ax.set i _).getD x 0) x y = false
      simp only at ha hb
      rw [hg]
      have hbk : b < k + 1 := by
        have := (List.getElem?_eq_some_iff.1 hb).1
        simp [hol] at this
        omega
      rw [List.getElem?_append_left (by omega)] at ha
      have hx := List.mem_of_getElem? ha
      rw [if_neg (fun e => by subst e; exact hin hx)]
      by_cases e : b = k
      · subst e
        rw [List.getElem?_append_right (by omega)] at hb
        simp [hol] at hb
        subst hb
        exact h.fre x hx i hi
      · rw [List.getElem?_append_left (by omega)] at hb
        exact h.fro a b x y ha hb hab
theorem frI_all {L : List (List Bx)} {Z : List Int} {n : Nat} : ∀ (k : Nat) s, freeTo L Z n k = some s → FrI L Z n k s
  | 0, s, h => by cases h; exact frI_start L Z n
  | k + 1, s, h => by
    unfold freeTo at h
    cases hf : freeTo L Z n k with
    | none => rw [hf] at h; cases h
    | some t => rw [hf] at h; exact frI_step (frI_all k t hf) h
/-- What Free finds is right. -/
theorem free_right {L : List (List Bx)} {Z : List Int} {n : Nat} {s : FrS} (h : freeTo L Z n n = some s) (h60 : n ≤ 60) :
    edgE n s.ax = 0 ∧ chkRes n (edN L Z s.ax n) (ntI s.ord.reverse) = (true, 0) := by
  have I := frI_all n s h
  have hl0 : s.left = [] := List.eq_nil_of_length_eq_zero (by have := I.llen; omega)
  have hall : ∀ x, x < n → x ∈ s.ord := fun x hx => nodup_full I.ond I.olt I.olen hx
  have hax : s.ax.any (fun a => !axB a) = false := by
    rw [List.any_eq_false]
    intro a ha
    obtain ⟨k, hk, rfl⟩ := List.getElem_of_mem ha
    have h1 := I.axo k (hall k (by have := I.alen; omega))
    rw [List.getD_eq_getElem?_getD, List.getElem?_eq_getElem hk] at h1
    simp only [Option.getD_some] at h1
    rw [h1]
    simp
  refine ⟨edgE_ok (by omega) I.alen hax, ?_⟩
  have hbad : (ntI s.ord.reverse).any (badN n) = false := by
    rw [List.any_eq_false]
    intro x hx
    unfold ntI at hx
    obtain ⟨k, hk, rfl⟩ := List.mem_map.1 hx
    have := I.olt k (List.mem_reverse.1 hk)
    unfold badN
    rw [decide_eq_true_eq]
    omega
  have hq : (ntI s.ord.reverse).map Int.toNat = s.ord.reverse := by
    unfold ntI
    rw [List.map_map]
    conv => rhs; rw [← List.map_id s.ord.reverse]
    apply List.map_congr_left
    intro x _
    simp [Function.comp]
  have hnd : s.ord.reverse.Nodup := List.pairwise_reverse.2 (I.ond.imp fun h => Ne.symm h)
  have hn0 : nodesRes n (ntI s.ord.reverse) = 0 := by
    unfold nodesRes
    rw [if_neg (by unfold ntI; rw [List.length_map, List.length_reverse, I.olen]; simp), if_neg (by rw [hbad]; simp), if_pos ((nodup_nat hbad).1 (by rw [hq]; exact hnd))]
  have hf : (chkRes n (edN L Z s.ax n) (ntI s.ord.reverse)).1 = true := by
    rw [fst_chk (edN_ends L Z s.ax n) (fun x => edN_self) hn0, hq, fstE_none]
    intro i k hk hi hm
    have h1 := (edN_mem.1 hm).2.2.2
    have hlen : s.ord.reverse.length = n := by rw [List.length_reverse]; exact I.olen
    have ho := I.olen
    have e1 : s.ord.reverse.getD i 0 = s.ord[n - 1 - i]'(by omega) := by
      rw [List.getD_eq_getElem?_getD, List.getElem?_eq_getElem (by omega)]
      simp only [Option.getD_some]
      rw [List.getElem_reverse]
      congr 1
      omega
    have e2 : s.ord.reverse.getD k 0 = s.ord[n - 1 - k]'(by omega) := by
      rw [List.getD_eq_getElem?_getD, List.getElem?_eq_getElem (by omega)]
      simp only [Option.getD_some]
      rw [List.getElem_reverse]
      congr 1
      omega
    rw [e1, e2] at h1
    have := I.fro (n - 1 - i) (n - 1 - k) _ _ (List.getElem?_eq_getElem (by omega)) (List.getElem?_eq_getElem (by omega)) (by omega)
    rw [this] at h1
    cases h1
  have h2 : (chkRes n (edN L Z s.ax n) (ntI s.ord.reverse)).2 = 0 := by rw [chk_nodes]; exact hn0
  exact Prod.ext hf h2
theorem max_idx {q left : List Nat} : left ≠ [] → ∃ i ∈ left, ∀ x ∈ left, q.idxOf x ≤ q.idxOf i := by
  induction left with
  | nil => intro h; exact absurd rfl h
  | cons a l ih =>
    intro _
    by_cases hl : l = []
    · subst hl
      exact ⟨a, List.mem_singleton.2 rfl, fun x hx => by rw [List.mem_singleton.1 hx]; exact Nat.le_refl _⟩
    · obtain ⟨i, hi, hm⟩ := ih hl
      by_cases hc : q.idxOf i ≤ q.idxOf a
      · exact ⟨a, List.mem_cons_self, fun x hx => by
          rcases List.mem_cons.1 hx with rfl | h
          · exact Nat.le_refl _
          · exact Nat.le_trans (hm x h) hc⟩
      · exact ⟨i, List.mem_cons_of_mem _ hi, fun x hx => by
          rcases List.mem_cons.1 hx with rfl | h
          · omega
          · exact hm x h⟩
/-- Where Free finds nothing no sequence is right. -/
theorem free_none {L : List (List Bx)} {Z : List Int} {n : Nat} (h : freeTo L Z n n = none) {X l : List Int} (hX : edgE n X = 0) : chkRes n (edN L Z X n) l ≠ (true, 0) := by
  intro hc
  obtain ⟨hn60, hXl, hXa⟩ := edgE_zero hX
  -- the step that fails
  obtain ⟨k, s, hk, hs, hf⟩ : ∃ k s, k < n ∧ freeTo L Z n k = some s ∧ stepF L Z s = none := by
    have key : ∀ m, freeTo L Z n m = none → ∃ k s, k < m ∧ freeTo L Z n k = some s ∧ stepF L Z s = none := by
      intro m
      induction m with
      | zero => intro h; cases h
      | succ m ih =>
        intro h
        cases hf : freeTo L Z n m with
        | none =>
          obtain ⟨k, s, h1, h2, h3⟩ := ih hf
          exact ⟨k, s, by omega, h2, h3⟩
        | some s =>
          refine ⟨m, s, by omega, hf, ?_⟩
          unfold freeTo at h
          rw [hf] at h
          exact h
    exact key n h
  have I := frI_all k s hs
  have hpick : pickF L Z s.left = none := by
    unfold stepF at hf
    cases hp : pickF L Z s.left with
    | none => rfl
    | some i => rw [hp] at hf; cases hf
  have hne : s.left ≠ [] := by
    intro e
    have := I.llen
    rw [e] at this
    simp at this
    omega
  have hn0 : nodesRes n l = 0 := by rw [← chk_nodes n (edN L Z X n) l, hc]
  have hg := chk_good (es := edN L Z X n) hn0
  obtain ⟨l1, l2, l3⟩ := nodes_zero hn0
  obtain ⟨i, hi, hm⟩ := max_idx (q := l.map Int.toNat) hne
  have hin := I.llt i hi
  have hall : ∀ x, x < n → x ∈ l.map Int.toNat := fun x hx => nodup_full ((nodup_nat l2).2 l3) (fun y hy => by
    obtain ⟨z, hz, rfl⟩ := List.mem_map.1 hy
    have := bad_none l2 z hz
    omega) (by simpa using l1) hx
  have hno : ∀ y ∈ s.left, y ≠ i → blkAt L Z (X.getD i 0) i y = false := by
    intro y hy hyi
    cases hb : blkAt L Z (X.getD i 0) i y with
    | false => rfl
    | true =>
      exfalso
      have hyn := I.llt y hy
      have hmem : (i, y) ∈ edN L Z X n := edN_mem.2 ⟨hin, hyn, fun e => hyi e.symm, hb⟩
      have h1 : (chkN (edN L Z X n) (l.map Int.toNat)).1 = true := by rw [← hg, hc]
      unfold chkN at h1
      rw [if_pos ((nodup_nat l2).2 l3)] at h1
      simp only [List.all_eq_true, decide_eq_true_eq] at h1
      have h2 := h1 _ hmem
      have h3 := hm y hy
      simp only at h2
      omega
  have hw : X.getD i 0 ∈ wysF L Z s.left i := wys_mem.2 ⟨hXa i hin, blkL_nil.2 (fun y hy => hno y (woN_mem.1 hy).1 (woN_mem.1 hy).2)⟩
  have := pickF_none hpick i hi
  rw [List.isEmpty_iff] at this
  rw [this] at hw
  simp at hw
end Go.Proofs.YthmlejijfgbfbaaGreat
