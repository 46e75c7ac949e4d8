/-
  Ways of boxes, and what blocks: plain part of the laws on blocks. Boxes moved back along their way; the witness; what blocks, as lists: plain part of the laws on blocks. The first pair that is too near: plain part; rods as memory; all laid bars as rods.
-/
import Derived.Test.YtpiigmhbbcjamaaGreatClp
import Derived.Test.YtpiigmhbbcjamaaGreatBka
namespace Go.Proofs.YtpiigmhbbcjamaaGreat
section
open Go.RowKit
set_option linter.unusedVariables false
set_option linter.unusedSimpArgs false

theorem axB_neg {x : Int} (h : axB x = true) : axB (-x) = true := by
  unfold axB at h ⊢
  rw [decide_eq_true_eq] at h ⊢
  omega
theorem bxOk_dec {b : Bx} : bxOk b = true ↔ ((b.lo.x ≤ b.hi.x ∧ -1048576 ≤ b.lo.x ∧ b.hi.x ≤ 1048576) ∧ (b.lo.y ≤ b.hi.y ∧ -1048576 ≤ b.lo.y ∧ b.hi.y ≤ 1048576) ∧ (b.lo.z ≤ b.hi.z ∧ -1048576 ≤ b.lo.z ∧ b.hi.z ≤ 1048576)) := by
  unfold bxOk
  rw [decide_eq_true_eq]
theorem wayB_ok {b : Bx} (h : bxOk b = true) (x : Int) : bxOk (wayB b x) = true := by
  rw [bxOk_dec] at h ⊢
  obtain ⟨⟨h1, h2, h3⟩, ⟨h4, h5, h6⟩, h7, h8, h9⟩ := h
  unfold wayB
  (repeat' split) <;> simp only <;> refine ⟨⟨?_, ?_, ?_⟩, ⟨?_, ?_, ?_⟩, ?_, ?_, ?_⟩ <;> omega
theorem way_in {b : Bx} (h : bxOk b = true) (x : Int) {p : Pt} (hp : inBx b p) : inBx (wayB b x) p := by
  rw [bxOk_dec] at h
  obtain ⟨⟨h1, h2, h3⟩, ⟨h4, h5, h6⟩, h7, h8, h9⟩ := h
  obtain ⟨⟨p1, p2⟩, ⟨p3, p4⟩, p5, p6⟩ := hp
  unfold wayB inBx
  (repeat' split) <;> simp only <;> refine ⟨⟨?_, ?_⟩, ⟨?_, ?_⟩, ?_, ?_⟩ <;> omega
theorem gx_way {lo hi fr tt : Int} (h1 : -1048576 ≤ fr) (h2 : hi ≤ 1048576) (h3 : fr ≤ tt) (h4 : lo ≤ hi) : gx (-1048576) hi fr tt = gx lo hi fr 1048576 := by
  unfold gx mx
  (repeat' split) <;> omega
theorem gx_way2 {lo hi fr tt : Int} (h1 : -1048576 ≤ lo) (h2 : tt ≤ 1048576) (h3 : fr ≤ tt) (h4 : lo ≤ hi) : gx lo 1048576 fr tt = gx lo hi (-1048576) tt := by
  unfold gx mx
  (repeat' split) <;> omega
/-- A way and a box are as far apart as the box's opposite way and the other box. -/
theorem way_turn {a b : Bx} (ha : bxOk a = true) (hb : bxOk b = true) {x : Int} (hx : axB x = true) : sqN (wayB a x) b 3 = sqN a (wayB b (-x)) 3 := by
  rw [bxOk_dec] at ha hb
  obtain ⟨⟨a1, a2, a3⟩, ⟨a4, a5, a6⟩, a7, a8, a9⟩ := ha
  obtain ⟨⟨b1, b2, b3⟩, ⟨b4, b5, b6⟩, b7, b8, b9⟩ := hb
  rw [sqN_eq, sqN_eq]
  rcases ax_cases hx with rfl | rfl | rfl | rfl | rfl | rfl
  · have e := gx_way (lo := a.lo.x) (tt := b.hi.x) (by omega : -1048576 ≤ b.lo.x) a3 b1 a1
    simp only [wayB, Int.reduceNeg, if_true, reduceIte, Int.reduceEq]
    rw [e]
  · have e := gx_way (lo := a.lo.y) (tt := b.hi.y) (by omega : -1048576 ≤ b.lo.y) a6 b4 a4
    simp only [wayB, Int.reduceNeg, if_true, reduceIte, Int.reduceEq]
    rw [e]
  · have e := gx_way (lo := a.lo.z) (tt := b.hi.z) (by omega : -1048576 ≤ b.lo.z) a9 b7 a7
    simp only [wayB, Int.reduceNeg, if_true, reduceIte, Int.reduceEq]
    rw [e]
  · have e := gx_way2 (hi := a.hi.x) (fr := b.lo.x) (by omega : -1048576 ≤ a.lo.x) b3 b1 a1
    simp only [wayB, Int.reduceNeg, if_true, reduceIte, Int.reduceEq, Int.neg_neg]
    rw [e]
  · have e := gx_way2 (hi := a.hi.y) (fr := b.lo.y) (by omega : -1048576 ≤ a.lo.y) b6 b4 a4
    simp only [wayB, Int.reduceNeg, if_true, reduceIte, Int.reduceEq, Int.neg_neg]
    rw [e]
  · have e := gx_way2 (hi := a.hi.z) (fr := b.lo.z) (by omega : -1048576 ≤ a.lo.z) b9 b7 a7
    simp only [wayB, Int.reduceNeg, if_true, reduceIte, Int.reduceEq, Int.neg_neg]
    rw [e]
/-- A box within another one is no nearer. -/
theorem sqN_within {y w z : Bx} (hy : bxOk y = true) (hz : bxOk z = true) (h : ∀ p, inBx y p → inBx w p) : sqN w z 3 ≤ sqN y z 3 := by
  rw [← near_dist hy hz]
  exact dist_ge (h _ (nearP_in hy hz)) (nearQ_in hy hz)

/-! ### what blocks -/
def tooNear (need : Int) (a b : Bx) : Bool := decide (4 * sqN a b 3 < need)
def blkP (A B : List Bx) (x need : Int) : Bool := A.any fun a => B.any fun b => tooNear need (wayB a x) b
theorem blk_iff {A B : List Bx} {x need : Int} : blkP A B x need = true ↔ ∃ a ∈ A, ∃ b ∈ B, 4 * sqN (wayB a x) b 3 < need := by
  unfold blkP tooNear
  simp only [List.any_eq_true, decide_eq_true_eq]
theorem blk_turn {A B : List Bx} {x need : Int} (hA : A.all bxOk = true) (hB : B.all bxOk = true) (hx : axB x = true) : blkP A B x need = blkP B A (-x) need := by
  have k : blkP A B x need = true ↔ blkP B A (-x) need = true := by
    rw [blk_iff, blk_iff]
    constructor
    · rintro ⟨a, ha, b, hb, h⟩
      refine ⟨b, hb, a, ha, ?_⟩
      rw [way_turn (List.all_eq_true.1 hA a ha) (List.all_eq_true.1 hB b hb) hx, sqN_comm] at h
      rw [sqN_comm] at h
      rwa [sqN_comm]
    · rintro ⟨b, hb, a, ha, h⟩
      refine ⟨a, ha, b, hb, ?_⟩
      rw [way_turn (List.all_eq_true.1 hA a ha) (List.all_eq_true.1 hB b hb) hx, sqN_comm]
      exact h
  cases h1 : blkP A B x need <;> cases h2 : blkP B A (-x) need <;> simp_all
/-- The first pair of a way and a box that are too near. -/
def pairsW (A B : List Bx) (x : Int) : List (Bx × Bx) := A.flatMap fun a => B.map fun b => (wayB a x, b)
def witP (A B : List Bx) (x need : Int) : Option Pt := ((pairsW A B x).find? fun p => tooNear need p.1 p.2).map fun p => nearQ p.1 p.2
theorem pairs_mem {A B : List Bx} {x : Int} {p : Bx × Bx} : p ∈ pairsW A B x ↔ ∃ a ∈ A, ∃ b ∈ B, p = (wayB a x, b) := by
  unfold pairsW
  simp only [List.mem_flatMap, List.mem_map]
  constructor
  · rintro ⟨a, ha, b, hb, rfl⟩; exact ⟨a, ha, b, hb, rfl⟩
  · rintro ⟨a, ha, b, hb, rfl⟩; exact ⟨a, ha, b, hb, rfl⟩
theorem wit_some {A B : List Bx} {x need : Int} {q : Pt} (h : witP A B x need = some q) : ∃ a ∈ A, ∃ b ∈ B, 4 * sqN (wayB a x) b 3 < need ∧ q = nearQ (wayB a x) b := by
  unfold witP at h
  rw [Option.map_eq_some_iff] at h
  obtain ⟨p, hp, rfl⟩ := h
  obtain ⟨a, ha, b, hb, rfl⟩ := pairs_mem.1 (List.mem_of_find?_eq_some hp)
  have ht := List.find?_some hp
  unfold tooNear at ht
  rw [decide_eq_true_eq] at ht
  exact ⟨a, ha, b, hb, ht, rfl⟩
theorem wit_blk (A B : List Bx) (x need : Int) : (witP A B x need).isSome = blkP A B x need := by
  cases h : witP A B x need with
  | some q =>
    obtain ⟨a, ha, b, hb, ht, _⟩ := wit_some h
    exact (blk_iff.2 ⟨a, ha, b, hb, ht⟩).symm
  | none =>
    unfold witP at h
    rw [Option.map_eq_none_iff, List.find?_eq_none] at h
    cases h2 : blkP A B x need with
    | false => rfl
    | true =>
      obtain ⟨a, ha, b, hb, ht⟩ := blk_iff.1 h2
      have := h _ (pairs_mem.2 ⟨a, ha, b, hb, rfl⟩)
      unfold tooNear at this
      exact absurd (decide_eq_true ht) this
end

section
open Go.RowKit
set_option linter.unusedVariables false
set_option linter.unusedSimpArgs false

def backP (x n : Int) : Pt := if x = 1 then ⟨-n, 0, 0⟩ else if x = 2 then ⟨0, -n, 0⟩ else if x = 3 then ⟨0, 0, -n⟩ else if x = -1 then ⟨n, 0, 0⟩ else if x = -2 then ⟨0, n, 0⟩ else ⟨0, 0, n⟩
theorem back_in {b : Bx} (hb : bxOk b = true) {x : Int} (hx : axB x = true) {n : Int} (hn : 0 ≤ n) (hy : bxOk (shB (backP x n) b) = true) {p : Pt} (hp : inBx (shB (backP x n) b) p) : inBx (wayB b x) p := by
  rw [bxOk_dec] at hb hy
  obtain ⟨⟨h1, h2, h3⟩, ⟨h4, h5, h6⟩, h7, h8, h9⟩ := hb
  obtain ⟨⟨y1, y2, y3⟩, ⟨y4, y5, y6⟩, y7, y8, y9⟩ := hy
  obtain ⟨⟨p1, p2⟩, ⟨p3, p4⟩, p5, p6⟩ := hp
  rcases ax_cases hx with rfl | rfl | rfl | rfl | rfl | rfl
  all_goals
    simp only [backP, shB, padd, Int.reduceNeg, if_true, reduceIte, Int.reduceEq] at *
    simp only [wayB, inBx, Int.reduceNeg, if_true, reduceIte, Int.reduceEq]
    refine ⟨⟨?_, ?_⟩, ⟨?_, ?_⟩, ?_, ?_⟩ <;> omega
theorem back_near {a b : Bx} (ha : bxOk a = true) (hb : bxOk b = true) {x : Int} (hx : axB x = true) {n : Int} (hn : 0 ≤ n) (hy : bxOk (shB (backP x n) a) = true) : sqN (wayB a x) b 3 ≤ sqN (shB (backP x n) a) b 3 :=
  sqN_within hy hb fun p hp => back_in ha hx hn hy hp
theorem way_near {a b : Bx} (ha : bxOk a = true) (hb : bxOk b = true) (x : Int) : sqN (wayB a x) b 3 ≤ sqN a b 3 :=
  sqN_within ha hb fun p hp => way_in ha x hp
/-- The point of b nearest to w is as near to w as b. -/
theorem point_near {w b : Bx} (hw : bxOk w = true) (hb : bxOk b = true) : sqN w ⟨nearQ w b, nearQ w b⟩ 3 ≤ sqN w b 3 := by
  rw [← near_dist hw hb]
  exact dist_ge (nearP_in hw hb) ⟨⟨Int.le_refl _, Int.le_refl _⟩, ⟨Int.le_refl _, Int.le_refl _⟩, Int.le_refl _, Int.le_refl _⟩

/-! ### lists -/
def blkAt (L : List (List Bx)) (Z : List Int) (x : Int) (i k : Nat) : Bool := blkP (L.getD i []) (L.getD k []) x ((Z.getD i 0 + Z.getD k 0) * (Z.getD i 0 + Z.getD k 0))
def blkL (L : List (List Bx)) (Z : List Int) (x : Int) (i : Nat) (T : List Int) : List Int := T.filter fun k => blkAt L Z x i k.toNat
def waysL (L : List (List Bx)) (Z : List Int) (i : Nat) (T : List Int) : List Int := axesL.filter fun x => (blkL L Z x i T).isEmpty
theorem blkL_snoc (L : List (List Bx)) (Z : List Int) (x : Int) (i : Nat) {T : List Int} {t : Nat} {k : Int} (h : T[t]? = some k) : blkL L Z x i (T.take (t + 1)) = blkL L Z x i (T.take t) ++ if blkAt L Z x i k.toNat then [k] else [] := by
  have hk := (List.getElem?_eq_some_iff.1 h).1
  unfold blkL
  rw [List.take_succ_eq_append_getElem hk, List.filter_append, (List.getElem?_eq_some_iff.1 h).2]
  congr 1
  cases hb : blkAt L Z x i k.toNat <;> simp [hb]
theorem blkL_part (L : List (List Bx)) (Z : List Int) (x : Int) (i : Nat) (T : List Int) (m : Nat) : blkL L Z x i (T.take m) = (blkL L Z x i T).take (blkL L Z x i (T.take m)).length := by
  have e : blkL L Z x i T = blkL L Z x i (T.take m) ++ blkL L Z x i (T.drop m) := by
    unfold blkL
    rw [← List.filter_append, List.take_append_drop]
  rw [e, List.take_left]
theorem blkL_part_len (L : List (List Bx)) (Z : List Int) (x : Int) (i : Nat) (T : List Int) (m : Nat) : (blkL L Z x i (T.take m)).length ≤ (blkL L Z x i T).length := by
  have h := blkL_part L Z x i T m
  have := congrArg List.length h
  rw [List.length_take] at this
  omega
theorem ways_mem {L : List (List Bx)} {Z : List Int} {i : Nat} {T : List Int} {x : Int} : x ∈ waysL L Z i T ↔ axB x = true ∧ blkL L Z x i T = [] := by
  unfold waysL
  rw [List.mem_filter, axes_mem, List.isEmpty_iff]
theorem ways_part {L : List (List Bx)} {Z : List Int} {i : Nat} {T : List Int} {x : Int} (m : Nat) (h : x ∈ waysL L Z i T) : x ∈ waysL L Z i (T.take m) := by
  rw [ways_mem] at h ⊢
  refine ⟨h.1, ?_⟩
  have := blkL_part_len L Z x i T m
  rw [h.2] at this
  exact List.length_eq_zero_iff.1 (by simpa using this)
theorem ways_nil (L : List (List Bx)) (Z : List Int) (i : Nat) : waysL L Z i [] = axesL := by
  unfold waysL blkL
  rfl
theorem blkL_mem {L : List (List Bx)} {Z : List Int} {x : Int} {i : Nat} {T : List Int} {k : Int} : k ∈ blkL L Z x i T ↔ k ∈ T ∧ blkAt L Z x i k.toNat = true := by
  unfold blkL
  rw [List.mem_filter]
/-- The edges: row i, the k below. -/
def edgR (L : List (List Bx)) (Z : List Int) (x : Int) (i k : Nat) : List (Int × Int) := ((List.range k).filter fun j => decide (i ≠ j) && blkAt L Z x i j).map fun j : Nat => ((i : Int), (j : Int))
def edgL (L : List (List Bx)) (Z : List Int) (X : List Int) (n i : Nat) : List (Int × Int) := (List.range i).flatMap fun j => edgR L Z (X.getD j 0) j n
theorem edgR_succ (L : List (List Bx)) (Z : List Int) (x : Int) (i k : Nat) : edgR L Z x i (k + 1) = edgR L Z x i k ++ if i ≠ k ∧ blkAt L Z x i k = true then [((i : Int), (k : Int))] else [] := by
  unfold edgR
  rw [List.range_succ, List.filter_append, List.map_append]
  congr 1
  by_cases h : i ≠ k ∧ blkAt L Z x i k = true
  · rw [if_pos h]
    simp [h.1, h.2]
  · rw [if_neg h]
    have e : (decide (i ≠ k) && blkAt L Z x i k) = false := by
      cases hb : blkAt L Z x i k with
      | false => simp
      | true =>
        rw [hb] at h
        have : decide (i ≠ k) = false := dec_no fun hne => h ⟨hne, rfl⟩
        rw [this]; rfl
    rw [List.filter_cons, e]
    rfl
theorem edgL_succ (L : List (List Bx)) (Z : List Int) (X : List Int) (n i : Nat) : edgL L Z X n (i + 1) = edgL L Z X n i ++ edgR L Z (X.getD i 0) i n := by
  unfold edgL
  rw [List.range_succ, List.flatMap_append]
  simp
theorem edg_mem {L : List (List Bx)} {Z : List Int} {X : List Int} {n i k : Nat} (hi : i < n) (hk : k < n) (hne : i ≠ k) : ((i : Int), (k : Int)) ∈ edgL L Z X n n ↔ blkAt L Z (X.getD i 0) i k = true := by
  unfold edgL edgR
  simp only [List.mem_flatMap, List.mem_map, List.mem_filter, List.mem_range, Bool.and_eq_true, decide_eq_true_eq, Prod.mk.injEq]
  constructor
  · rintro ⟨j, hj, m, ⟨hm, h1, h2⟩, e1, e2⟩
    obtain rfl : j = i := by omega
    obtain rfl : m = k := by omega
    exact h2
  · intro h
    exact ⟨i, hi, k, ⟨hk, hne, h⟩, rfl, rfl⟩
end

section
open Go.RowKit
set_option linter.unusedVariables false
set_option linter.unusedSimpArgs false
attribute [local go_sem ↓] Go.wp_at_zero Go.wp_at_succ

/-! ### the first pair -/
theorem find_first {α : Type} {p : α → Bool} : ∀ {l : List α} {k : Nat} {x : α}, l[k]? = some x → p x = true → (∀ (j : Nat) y, j < k → l[j]? = some y → p y = false) → l.find? p = some x
  | [], k, x, h, _, _ => by cases h
  | a :: l, 0, x, h, hp, _ => by cases h; rw [List.find?_cons, hp]
  | a :: l, k + 1, x, h, hp, hno => by
    have h0 := hno 0 a (by omega) rfl
    rw [List.find?_cons, h0]
    exact find_first (by simpa using h) hp fun j y hj hy => hno (j + 1) y (by omega) (by simpa using hy)
def NoHit (A B : List Bx) (x need : Int) (i k : Nat) : Prop := ∀ (i' k' : Nat) a b, (i' < i ∨ (i' = i ∧ k' < k)) → A[i']? = some a → B[k']? = some b → tooNear need (wayB a x) b = false
theorem noHit_row {A B : List Bx} {x need : Int} {i : Nat} (h : NoHit A B x need i B.length) : NoHit A B x need (i + 1) 0 := by
  intro i' k' a b hc ha hb
  have hk := (List.getElem?_eq_some_iff.1 hb).1
  refine h i' k' a b ?_ ha hb
  omega
theorem noHit_step {A B : List Bx} {x need : Int} {i k : Nat} {a b : Bx} (h : NoHit A B x need i k) (ha : A[i]? = some a) (hb : B[k]? = some b) (ht : tooNear need (wayB a x) b = false) : NoHit A B x need i (k + 1) := by
  intro i' k' a' b' hc ha' hb'
  by_cases e : i' = i ∧ k' = k
  · obtain ⟨rfl, rfl⟩ := e
    rw [ha] at ha'
    rw [hb] at hb'
    cases ha'
    cases hb'
    exact ht
  · exact h i' k' a' b' (by omega) ha' hb'
theorem wit_first {B : List Bx} {x need : Int} : ∀ {A : List Bx} {i k : Nat} {a b : Bx}, NoHit A B x need i k → A[i]? = some a → B[k]? = some b → tooNear need (wayB a x) b = true → witP A B x need = some (nearQ (wayB a x) b)
  | [], i, k, a, b, _, ha, _, _ => by cases ha
  | a0 :: A, 0, k, a, b, hno, ha, hb, ht => by
    cases ha
    unfold witP pairsW
    rw [List.flatMap_cons, List.find?_append, List.find?_map]
    have : B.find? ((fun p : Bx × Bx => tooNear need p.1 p.2) ∘ fun b => (wayB a0 x, b)) = some b := find_first hb ht fun j y hj hy => hno 0 j a0 y (.inr ⟨rfl, hj⟩) rfl hy
    rw [this]
    rfl
  | a0 :: A, i + 1, k, a, b, hno, ha, hb, ht => by
    have ih := wit_first (A := A) (i := i) (k := k) (a := a) (b := b) (fun i' k' a' b' hc ha' hb' => hno (i' + 1) k' a' b' (by omega) (by simpa using ha') hb') (by simpa using ha) hb ht
    unfold witP pairsW at ih ⊢
    rw [List.flatMap_cons, List.find?_append, List.find?_map]
    have : B.find? ((fun p : Bx × Bx => tooNear need p.1 p.2) ∘ fun b => (wayB a0 x, b)) = none := by
      rw [List.find?_eq_none]
      intro y hy
      obtain ⟨j, hj, rfl⟩ := List.getElem_of_mem hy
      have := hno 0 j a0 B[j] (.inl (by omega)) rfl (List.getElem?_eq_getElem hj)
      simp [this]
    rw [this]
    exact ih
theorem wit_none {A B : List Bx} {x need : Int} (h : NoHit A B x need A.length 0) : witP A B x need = none := by
  unfold witP
  rw [Option.map_eq_none_iff, List.find?_eq_none]
  intro p hp
  obtain ⟨a, ha, b, hb, rfl⟩ := pairs_mem.1 hp
  obtain ⟨i, hi, rfl⟩ := List.getElem_of_mem ha
  obtain ⟨k, hk, rfl⟩ := List.getElem_of_mem hb
  have := h i k A[i] B[k] (.inl hi) (List.getElem?_eq_getElem hi) (List.getElem?_eq_getElem hk)
  simp [this]
theorem sq_bound {a b : Bx} (ha : bxOk a = true) (hb : bxOk b = true) : 0 ≤ sqN a b 3 ∧ sqN a b 3 ≤ 100000000000000 := by
  refine ⟨sqN_nonneg a b, ?_⟩
  rw [bxOk_dec] at ha hb
  obtain ⟨⟨a1, a2, a3⟩, ⟨a4, a5, a6⟩, a7, a8, a9⟩ := ha
  obtain ⟨⟨b1, b2, b3⟩, ⟨b4, b5, b6⟩, b7, b8, b9⟩ := hb
  have key : ∀ lo hi fr tt : Int, lo ≤ hi → fr ≤ tt → -1048576 ≤ lo → hi ≤ 1048576 → -1048576 ≤ fr → tt ≤ 1048576 → gx lo hi fr tt * gx lo hi fr tt ≤ 4398046511104 := by
    intro lo hi fr tt h1 h2 h3 h4 h5 h6
    have g0 := gap_nonneg lo hi fr tt
    have g1 : gx lo hi fr tt ≤ 2097152 := by unfold gx mx; (repeat' split) <;> omega
    have := sq_mono (show 0 ≤ gx lo hi fr tt from g0) g1
    omega
  rw [sqN_eq]
  have := key a.lo.x a.hi.x b.lo.x b.hi.x a1 b1 a2 a3 b2 b3
  have := key a.lo.y a.hi.y b.lo.y b.hi.y a4 b4 a5 a6 b5 b6
  have := key a.lo.z a.hi.z b.lo.z b.hi.z a7 b7 a8 a9 b8 b9
  omega
end
end Go.Proofs.YtpiigmhbbcjamaaGreat
