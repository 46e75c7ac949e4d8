/-
  The nearest points of two boxes; the way of a box: definitions. Nearest points of boxes and of lists of boxes: plain part of the laws on clashes. The clashes of laid bars as a list; witnesses; the nearest bars: plain part of the laws on clashes. The legs and the sizes of all laid bars, as lists: plain part of the laws on clashes and blocks.
-/
import Derived.Test.YtpiigmhbbcjamaaGreatBxm
import Derived.Test.YtpiigmhbbcjamaaGreatLwx
namespace Go.Proofs.YtpiigmhbbcjamaaGreat
section
open Go.RowKit
set_option linter.unusedVariables false

def npA (lo hi fr tt : Int) : Int := if hi < fr then hi else if tt < lo then lo else mx lo fr
def npB (lo hi fr tt : Int) : Int := if hi < fr then fr else if tt < lo then tt else mx lo fr
def nearP (a b : Bx) : Pt := ⟨npA a.lo.x a.hi.x b.lo.x b.hi.x, npA a.lo.y a.hi.y b.lo.y b.hi.y, npA a.lo.z a.hi.z b.lo.z b.hi.z⟩
def nearQ (a b : Bx) : Pt := ⟨npB a.lo.x a.hi.x b.lo.x b.hi.x, npB a.lo.y a.hi.y b.lo.y b.hi.y, npB a.lo.z a.hi.z b.lo.z b.hi.z⟩
def wayB (b : Bx) (x : Int) : Bx :=
  if x = 1 then ⟨⟨-1048576, b.lo.y, b.lo.z⟩, b.hi⟩ else if x = 2 then ⟨⟨b.lo.x, -1048576, b.lo.z⟩, b.hi⟩ else if x = 3 then ⟨⟨b.lo.x, b.lo.y, -1048576⟩, b.hi⟩
  else if x = -1 then ⟨b.lo, ⟨1048576, b.hi.y, b.hi.z⟩⟩ else if x = -2 then ⟨b.lo, ⟨b.hi.x, 1048576, b.hi.z⟩⟩ else ⟨b.lo, ⟨b.hi.x, b.hi.y, 1048576⟩⟩
theorem ax_cases {x : Int} (h : axB x = true) : x = 1 ∨ x = 2 ∨ x = 3 ∨ x = -1 ∨ x = -2 ∨ x = -3 := by
  unfold axB at h
  rw [decide_eq_true_eq] at h
  omega
end

section
open Go.RowKit
set_option linter.unusedVariables false
set_option linter.unusedSimpArgs false

/-! ### one axis -/
theorem npA_in {lo hi fr tt : Int} (h1 : lo ≤ hi) (h2 : fr ≤ tt) : lo ≤ npA lo hi fr tt ∧ npA lo hi fr tt ≤ hi := by unfold npA mx; (repeat' split) <;> omega
theorem npB_in {lo hi fr tt : Int} (h1 : lo ≤ hi) (h2 : fr ≤ tt) : fr ≤ npB lo hi fr tt ∧ npB lo hi fr tt ≤ tt := by unfold npB mx; (repeat' split) <;> omega
theorem np_gap {lo hi fr tt : Int} (h1 : lo ≤ hi) (h2 : fr ≤ tt) : npA lo hi fr tt - npB lo hi fr tt = mx 0 (mx (fr - hi) (lo - tt)) ∨ npA lo hi fr tt - npB lo hi fr tt = -(mx 0 (mx (fr - hi) (lo - tt))) := by unfold npA npB mx; (repeat' split) <;> omega
theorem gap_le {lo hi fr tt x y : Int} (h1 : lo ≤ x) (h2 : x ≤ hi) (h3 : fr ≤ y) (h4 : y ≤ tt) : mx 0 (mx (fr - hi) (lo - tt)) ≤ x - y ∨ mx 0 (mx (fr - hi) (lo - tt)) ≤ y - x := by unfold mx; (repeat' split) <;> omega
theorem gap_nonneg (lo hi fr tt : Int) : 0 ≤ mx 0 (mx (fr - hi) (lo - tt)) := by unfold mx; (repeat' split) <;> omega
theorem sq_mono {a b : Int} (h0 : 0 ≤ a) (h : a ≤ b) : a * a ≤ b * b := Int.mul_le_mul h h h0 (by omega)
theorem sq_le_of {g d : Int} (h0 : 0 ≤ g) (h : g ≤ d ∨ g ≤ -d) : g * g ≤ d * d := by
  rcases h with h | h
  · exact sq_mono h0 h
  · have := sq_mono h0 h
    rwa [Int.neg_mul_neg] at this
theorem np_shift (lo hi fr tt s : Int) : npA (lo + s) (hi + s) (fr + s) (tt + s) = npA lo hi fr tt + s ∧ npB (lo + s) (hi + s) (fr + s) (tt + s) = npB lo hi fr tt + s := by
  unfold npA npB mx
  constructor <;> (repeat' split) <;> omega
theorem gap_shift (lo hi fr tt s : Int) : mx 0 (mx ((fr + s) - (hi + s)) ((lo + s) - (tt + s))) = mx 0 (mx (fr - hi) (lo - tt)) := by
  rw [show (fr + s) - (hi + s) = fr - hi by omega, show (lo + s) - (tt + s) = lo - tt by omega]
theorem gap_comm (lo hi fr tt : Int) : mx 0 (mx (lo - tt) (fr - hi)) = mx 0 (mx (fr - hi) (lo - tt)) := by unfold mx; (repeat' split) <;> omega

/-! ### boxes -/
def inBx (b : Bx) (p : Pt) : Prop := (b.lo.x ≤ p.x ∧ p.x ≤ b.hi.x) ∧ (b.lo.y ≤ p.y ∧ p.y ≤ b.hi.y) ∧ (b.lo.z ≤ p.z ∧ p.z ≤ b.hi.z)
def dist2 (p q : Pt) : Int := (p.x - q.x) * (p.x - q.x) + (p.y - q.y) * (p.y - q.y) + (p.z - q.z) * (p.z - q.z)
def gx (lo hi fr tt : Int) : Int := mx 0 (mx (fr - hi) (lo - tt))
theorem sqN_eq (a b : Bx) : sqN a b 3 = gx a.lo.x a.hi.x b.lo.x b.hi.x * gx a.lo.x a.hi.x b.lo.x b.hi.x + gx a.lo.y a.hi.y b.lo.y b.hi.y * gx a.lo.y a.hi.y b.lo.y b.hi.y + gx a.lo.z a.hi.z b.lo.z b.hi.z * gx a.lo.z a.hi.z b.lo.z b.hi.z := by
  have e0 : gq a b 0 = gx a.lo.x a.hi.x b.lo.x b.hi.x := rfl
  have e1 : gq a b 1 = gx a.lo.y a.hi.y b.lo.y b.hi.y := rfl
  have e2 : gq a b 2 = gx a.lo.z a.hi.z b.lo.z b.hi.z := rfl
  have e : sqN a b 3 = 0 + gq a b 0 * gq a b 0 + gq a b 1 * gq a b 1 + gq a b 2 * gq a b 2 := rfl
  rw [e, e0, e1, e2, Int.zero_add]
theorem bx_le {b : Bx} (h : bxOk b = true) : b.lo.x ≤ b.hi.x ∧ b.lo.y ≤ b.hi.y ∧ b.lo.z ≤ b.hi.z := by
  unfold bxOk at h
  rw [decide_eq_true_eq] at h
  exact ⟨h.1.1, h.2.1.1, h.2.2.1⟩
theorem nearP_in {a b : Bx} (ha : bxOk a = true) (hb : bxOk b = true) : inBx a (nearP a b) := by
  obtain ⟨a1, a2, a3⟩ := bx_le ha
  obtain ⟨b1, b2, b3⟩ := bx_le hb
  exact ⟨npA_in a1 b1, npA_in a2 b2, npA_in a3 b3⟩
theorem nearQ_in {a b : Bx} (ha : bxOk a = true) (hb : bxOk b = true) : inBx b (nearQ a b) := by
  obtain ⟨a1, a2, a3⟩ := bx_le ha
  obtain ⟨b1, b2, b3⟩ := bx_le hb
  exact ⟨npB_in a1 b1, npB_in a2 b2, npB_in a3 b3⟩
theorem sq_of_gap {d g : Int} (h : d = g ∨ d = -g) : d * d = g * g := by
  rcases h with rfl | rfl
  · rfl
  · exact Int.neg_mul_neg _ _
theorem near_dist {a b : Bx} (ha : bxOk a = true) (hb : bxOk b = true) : dist2 (nearP a b) (nearQ a b) = sqN a b 3 := by
  obtain ⟨a1, a2, a3⟩ := bx_le ha
  obtain ⟨b1, b2, b3⟩ := bx_le hb
  rw [sqN_eq]
  unfold dist2 nearP nearQ gx
  simp only
  rw [sq_of_gap (np_gap a1 b1), sq_of_gap (np_gap a2 b2), sq_of_gap (np_gap a3 b3)]
theorem dist_ge {a b : Bx} {p q : Pt} (hp : inBx a p) (hq : inBx b q) : sqN a b 3 ≤ dist2 p q := by
  obtain ⟨⟨p1, p2⟩, ⟨p3, p4⟩, p5, p6⟩ := hp
  obtain ⟨⟨q1, q2⟩, ⟨q3, q4⟩, q5, q6⟩ := hq
  rw [sqN_eq]
  have k : ∀ {lo hi fr tt x y : Int}, lo ≤ x → x ≤ hi → fr ≤ y → y ≤ tt → gx lo hi fr tt * gx lo hi fr tt ≤ (x - y) * (x - y) := by
    intro lo hi fr tt x y h1 h2 h3 h4
    refine sq_le_of (gap_nonneg _ _ _ _) ?_
    rcases gap_le h1 h2 h3 h4 with h | h
    · exact .inl h
    · exact .inr (by unfold gx; omega)
  have := k p1 p2 q1 q2
  have := k p3 p4 q3 q4
  have := k p5 p6 q5 q6
  unfold dist2
  omega
theorem sqN_comm (a b : Bx) : sqN b a 3 = sqN a b 3 := by
  rw [sqN_eq, sqN_eq]
  have k : ∀ lo hi fr tt, gx fr tt lo hi = gx lo hi fr tt := fun lo hi fr tt => gap_comm lo hi fr tt
  rw [k a.lo.x a.hi.x, k a.lo.y a.hi.y, k a.lo.z a.hi.z]
theorem sqN_shift (a b : Bx) (s : Pt) : sqN (shB s a) (shB s b) 3 = sqN a b 3 := by
  rw [sqN_eq, sqN_eq]
  have k : ∀ lo hi fr tt s, gx (lo + s) (hi + s) (fr + s) (tt + s) = gx lo hi fr tt := fun lo hi fr tt s => gap_shift lo hi fr tt s
  unfold shB padd
  simp only
  rw [k, k, k]
theorem nearP_shift (a b : Bx) (s : Pt) : nearP (shB s a) (shB s b) = padd (nearP a b) s := by
  unfold nearP shB padd
  simp only
  rw [(np_shift _ _ _ _ _).1, (np_shift _ _ _ _ _).1, (np_shift _ _ _ _ _).1]
theorem nearQ_shift (a b : Bx) (s : Pt) : nearQ (shB s a) (shB s b) = padd (nearQ a b) s := by
  unfold nearQ shB padd
  simp only
  rw [(np_shift _ _ _ _ _).2, (np_shift _ _ _ _ _).2, (np_shift _ _ _ _ _).2]
theorem sqN_nonneg (a b : Bx) : 0 ≤ sqN a b 3 := by
  have k : ∀ n : Int, 0 ≤ n → 0 ≤ n * n := fun n h => Int.mul_nonneg h h
  rw [sqN_eq]
  have := k _ (gap_nonneg a.lo.x a.hi.x b.lo.x b.hi.x)
  have := k _ (gap_nonneg a.lo.y a.hi.y b.lo.y b.hi.y)
  have := k _ (gap_nonneg a.lo.z a.hi.z b.lo.z b.hi.z)
  unfold gx
  omega

/-! ### lists of boxes: the first pair with the least square -/
structure SqS where
  n : Int
  p : Pt
  q : Pt
def stS (s : SqS) (a b : Bx) : SqS := if s.n < 0 ∨ sqN a b 3 < s.n then ⟨sqN a b 3, nearP a b, nearQ a b⟩ else s
def rowS (s : SqS) (a : Bx) (B : List Bx) (k : Nat) : SqS := (B.take k).foldl (fun s b => stS s a b) s
def sqS0 : SqS := ⟨-1, ⟨0, 0, 0⟩, ⟨0, 0, 0⟩⟩
def allS (A B : List Bx) (k : Nat) : SqS := (A.take k).foldl (fun s a => rowS s a B B.length) sqS0
theorem rowS_succ (s : SqS) (a : Bx) {B : List Bx} {k : Nat} {b : Bx} (h : B[k]? = some b) : rowS s a B (k + 1) = stS (rowS s a B k) a b := by
  have hk := (List.getElem?_eq_some_iff.1 h).1
  unfold rowS
  rw [List.take_succ_eq_append_getElem hk, List.foldl_append, (List.getElem?_eq_some_iff.1 h).2]
  rfl
theorem allS_succ {A : List Bx} (B : List Bx) {k : Nat} {a : Bx} (h : A[k]? = some a) : allS A B (k + 1) = rowS (allS A B k) a B B.length := by
  have hk := (List.getElem?_eq_some_iff.1 h).1
  unfold allS
  rw [List.take_succ_eq_append_getElem hk, List.foldl_append, (List.getElem?_eq_some_iff.1 h).2]
  rfl
/-- Among the pairs of a list the state is the first with the least square; without pairs it is the start. -/
def Best (s : SqS) (L : List (Bx × Bx)) : Prop := (L = [] ∧ s = sqS0) ∨ (∃ a b, (a, b) ∈ L ∧ s = ⟨sqN a b 3, nearP a b, nearQ a b⟩ ∧ ∀ c d, (c, d) ∈ L → sqN a b 3 ≤ sqN c d 3)
theorem best_step {s : SqS} {L : List (Bx × Bx)} (h : Best s L) (a b : Bx) : Best (stS s a b) (L ++ [(a, b)]) := by
  right
  unfold stS
  rcases h with ⟨rfl, rfl⟩ | ⟨c, d, hm, rfl, hmin⟩
  · rw [if_pos (.inl (by decide))]
    refine ⟨a, b, by simp, rfl, fun x y hx => ?_⟩
    simp only [List.nil_append, List.mem_singleton, Prod.mk.injEq] at hx
    obtain ⟨rfl, rfl⟩ := hx
    exact Int.le_refl _
  · have h0 := sqN_nonneg c d
    by_cases hlt : sqN a b 3 < sqN c d 3
    · rw [if_pos (.inr hlt)]
      refine ⟨a, b, by simp, rfl, fun x y hx => ?_⟩
      rw [List.mem_append] at hx
      rcases hx with hx | hx
      · have := hmin x y hx; omega
      · simp only [List.mem_singleton, Prod.mk.injEq] at hx
        obtain ⟨rfl, rfl⟩ := hx
        exact Int.le_refl _
    · rw [if_neg (by simp only; omega)]
      refine ⟨c, d, List.mem_append_left _ hm, rfl, fun x y hx => ?_⟩
      rw [List.mem_append] at hx
      rcases hx with hx | hx
      · exact hmin x y hx
      · simp only [List.mem_singleton, Prod.mk.injEq] at hx
        obtain ⟨rfl, rfl⟩ := hx
        omega
theorem best_row {s : SqS} {L : List (Bx × Bx)} (h : Best s L) (a : Bx) (B : List Bx) : Best (B.foldl (fun s b => stS s a b) s) (L ++ B.map fun b => (a, b)) := by
  induction B generalizing s L with
  | nil => simpa using h
  | cons b B ih =>
    have := ih (best_step h a b)
    rw [List.append_assoc] at this
    exact this
theorem best_all (A B : List Bx) : Best (allS A B A.length) (A.flatMap fun a => B.map fun b => (a, b)) := by
  unfold allS
  rw [List.take_length]
  have key : ∀ (A : List Bx) (s : SqS) (L : List (Bx × Bx)), Best s L → Best (A.foldl (fun s a => rowS s a B B.length) s) (L ++ A.flatMap fun a => B.map fun b => (a, b)) := by
    intro A
    induction A with
    | nil => intro s L h; simpa using h
    | cons a A ih =>
      intro s L h
      have h2 := best_row h a B
      have := ih _ _ h2
      rw [List.append_assoc] at this
      simp only [List.foldl_cons, List.flatMap_cons]
      have e : rowS s a B B.length = B.foldl (fun s b => stS s a b) s := by unfold rowS; rw [List.take_length]
      rw [e]
      exact this
  have := key A sqS0 [] (.inl ⟨rfl, rfl⟩)
  simpa using this
theorem allS_best {A B : List Bx} (hA : 0 < A.length) (hB : 0 < B.length) : ∃ a b, a ∈ A ∧ b ∈ B ∧ allS A B A.length = ⟨sqN a b 3, nearP a b, nearQ a b⟩ ∧ ∀ c ∈ A, ∀ d ∈ B, sqN a b 3 ≤ sqN c d 3 := by
  have hm : ∀ a b, (a, b) ∈ (A.flatMap fun a => B.map fun b => (a, b)) ↔ a ∈ A ∧ b ∈ B := by
    intro a b
    simp only [List.mem_flatMap, List.mem_map, Prod.mk.injEq]
    constructor
    · rintro ⟨x, hx, y, hy, rfl, rfl⟩; exact ⟨hx, hy⟩
    · rintro ⟨hx, hy⟩; exact ⟨a, hx, b, hy, rfl, rfl⟩
  rcases best_all A B with ⟨h0, _⟩ | ⟨a, b, hab, e, hmin⟩
  · exfalso
    obtain ⟨a, ha⟩ := List.exists_mem_of_length_pos hA
    obtain ⟨b, hb⟩ := List.exists_mem_of_length_pos hB
    have := (hm a b).2 ⟨ha, hb⟩
    rw [h0] at this
    cases this
  · obtain ⟨ha, hb⟩ := (hm a b).1 hab
    exact ⟨a, b, ha, hb, e, fun c hc d hd => hmin c d ((hm c d).2 ⟨hc, hd⟩)⟩
theorem allS_comm {A B : List Bx} (hA : 0 < A.length) (hB : 0 < B.length) : (allS B A B.length).n = (allS A B A.length).n := by
  obtain ⟨a, b, ha, hb, e, hmin⟩ := allS_best hA hB
  obtain ⟨c, d, hc, hd, e2, hmin2⟩ := allS_best hB hA
  rw [e, e2]
  simp only
  have h1 := hmin d hd c hc
  have h2 := hmin2 b hb a ha
  rw [sqN_comm c d] at h1
  rw [sqN_comm a b] at h2
  omega
def shS (s : Pt) (x : SqS) : SqS := ⟨x.n, padd x.p s, padd x.q s⟩
theorem allS_shift {A B : List Bx} (s : Pt) (hA : 0 < A.length) (hB : 0 < B.length) : allS (A.map (shB s)) (B.map (shB s)) A.length = shS s (allS A B A.length) := by
  have hst : ∀ (x y : SqS), (y = shS s x ∨ (x = sqS0 ∧ y = sqS0)) → ∀ a b, stS y (shB s a) (shB s b) = shS s (stS x a b) := by
    intro x y h a b
    have hn : y.n = x.n := by rcases h with rfl | ⟨rfl, rfl⟩ <;> rfl
    unfold stS
    rw [hn, sqN_shift, nearP_shift, nearQ_shift]
    by_cases hc : x.n < 0 ∨ sqN a b 3 < x.n
    · rw [if_pos hc, if_pos hc]; rfl
    · rw [if_neg hc, if_neg hc]
      rcases h with h | ⟨rfl, _⟩
      · exact h
      · exact absurd (.inl (by decide)) hc
  have hrow : ∀ (B : List Bx) (x y : SqS) a, (y = shS s x ∨ (x = sqS0 ∧ y = sqS0)) → 0 < B.length ∨ y = shS s x → (B.map (shB s)).foldl (fun t b => stS t (shB s a) b) y = shS s (B.foldl (fun t b => stS t a b) x) := by
    intro B
    induction B with
    | nil =>
      intro x y a h h2
      rcases h2 with h2 | h2
      · simp at h2
      · exact h2
    | cons b B ih =>
      intro x y a h _
      simp only [List.map_cons, List.foldl_cons]
      exact ih _ _ a (.inl (hst x y h a b)) (.inr (hst x y h a b))
  have hall : ∀ (A : List Bx) (x y : SqS), (y = shS s x ∨ (x = sqS0 ∧ y = sqS0)) → 0 < A.length ∨ y = shS s x → (A.map (shB s)).foldl (fun t a => rowS t a (B.map (shB s)) (B.map (shB s)).length) y = shS s (A.foldl (fun t a => rowS t a B B.length) x) := by
    intro A
    induction A with
    | nil =>
      intro x y h h2
      rcases h2 with h2 | h2
      · simp at h2
      · exact h2
    | cons a A ih =>
      intro x y h _
      simp only [List.map_cons, List.foldl_cons]
      have e : rowS y (shB s a) (B.map (shB s)) (B.map (shB s)).length = shS s (rowS x a B B.length) := by
        unfold rowS
        rw [List.take_length, List.take_length]
        exact hrow B x y a h (.inl hB)
      exact ih _ _ (.inl e) (.inr e)
  unfold allS
  rw [List.take_length, show A.length = (A.map (shB s)).length by rw [List.length_map], List.take_length]
  exact hall A sqS0 sqS0 (.inr ⟨rfl, rfl⟩) (.inl hA)
end

section
open Go.RowKit
set_option linter.unusedVariables false
set_option linter.unusedSimpArgs false

structure ClD where
  a : Int
  b : Int
  p : Pt
  q : Pt
def legsAt (L : List (List Bx)) (i : Nat) : List Bx := L.getD i []
def sizeAt (Z : List Int) (i : Nat) : Int := Z.getD i 0
def sqAt (L : List (List Bx)) (i k : Nat) : SqS := allS (legsAt L i) (legsAt L k) (legsAt L i).length
def clOf (L : List (List Bx)) (i k : Nat) : ClD := ⟨i, k, (sqAt L i k).p, (sqAt L i k).q⟩
def needN (d e c : Int) : Int := (d + e + 2 * c) * (d + e + 2 * c)
def hitC (L : List (List Bx)) (Z : List Int) (c : Int) (i k : Nat) : Bool := decide (4 * (sqAt L i k).n < needN (sizeAt Z i) (sizeAt Z k) c)
/-- The clashes of bar i with the bars behind it, below k. -/
def rowC (L : List (List Bx)) (Z : List Int) (c : Int) (i k : Nat) : List ClD := ((List.range k).filter fun j => decide (i < j) && hitC L Z c i j).map (clOf L i)
def allC (L : List (List Bx)) (Z : List Int) (c : Int) (n i : Nat) : List ClD := (List.range i).flatMap fun j => rowC L Z c j n
theorem rowC_low (L : List (List Bx)) (Z : List Int) (c : Int) (i k : Nat) (h : k ≤ i + 1) : rowC L Z c i k = [] := by
  unfold rowC
  have e : (List.range k).filter (fun j => decide (i < j) && hitC L Z c i j) = [] := by
    rw [List.filter_eq_nil_iff]
    intro j hj
    have := List.mem_range.1 hj
    have h2 : decide (i < j) = false := dec_no (by omega)
    rw [h2]
    simp
  rw [e]; rfl
theorem rowC_succ (L : List (List Bx)) (Z : List Int) (c : Int) (i k : Nat) (h : i < k) : rowC L Z c i (k + 1) = rowC L Z c i k ++ if hitC L Z c i k then [clOf L i k] else [] := by
  unfold rowC
  rw [List.range_succ, List.filter_append, List.map_append]
  congr 1
  have h2 : decide (i < k) = true := dec_yes h
  cases hh : hitC L Z c i k <;> simp [h2, hh]
theorem allC_succ (L : List (List Bx)) (Z : List Int) (c : Int) (n i : Nat) : allC L Z c n (i + 1) = allC L Z c n i ++ rowC L Z c i n := by
  unfold allC
  rw [List.range_succ, List.flatMap_append]
  simp
theorem allC_mem {L : List (List Bx)} {Z : List Int} {c : Int} {n : Nat} {x : ClD} : x ∈ allC L Z c n n ↔ ∃ i k : Nat, i < k ∧ k < n ∧ hitC L Z c i k = true ∧ x = clOf L i k := by
  unfold allC rowC
  simp only [List.mem_flatMap, List.mem_map, List.mem_filter, List.mem_range, Bool.and_eq_true, decide_eq_true_eq]
  constructor
  · rintro ⟨i, hi, k, ⟨hk, hik, hh⟩, rfl⟩; exact ⟨i, k, hik, hk, hh, rfl⟩
  · rintro ⟨i, k, hik, hk, hh, rfl⟩; exact ⟨i, by omega, k, ⟨hk, hik, hh⟩, rfl⟩
theorem rowC_len (L : List (List Bx)) (Z : List Int) (c : Int) (i k : Nat) : (rowC L Z c i k).length ≤ k := by
  unfold rowC
  rw [List.length_map]
  have := List.length_filter_le (fun j => decide (i < j) && hitC L Z c i j) (List.range k)
  rw [List.length_range] at this
  exact this
theorem allC_len (L : List (List Bx)) (Z : List Int) (c : Int) (n i : Nat) : (allC L Z c n i).length ≤ i * n := by
  induction i with
  | zero => simp [allC]
  | succ i ih =>
    rw [allC_succ, List.length_append, Nat.succ_mul]
    have := rowC_len L Z c i n
    omega
/-- There is a clash with a number below, the loops of Free. -/
theorem free_iff (L : List (List Bx)) (Z : List Int) (c : Int) (n : Nat) : allC L Z c n n = [] ↔ ∀ i k : Nat, i < k → k < n → hitC L Z c i k = false := by
  constructor
  · intro h i k hik hk
    cases hh : hitC L Z c i k with
    | false => rfl
    | true =>
      have := (allC_mem (L := L) (Z := Z) (c := c) (n := n)).2 ⟨i, k, hik, hk, hh, rfl⟩
      rw [h] at this
      cases this
  · intro h
    rw [List.eq_nil_iff_forall_not_mem]
    intro x hx
    obtain ⟨i, k, hik, hk, hh, _⟩ := allC_mem.1 hx
    rw [h i k hik hk] at hh
    cases hh

/-! ### witnesses -/
def onL (B : List Bx) (p : Pt) : Prop := ∃ b ∈ B, inBx b p
theorem wit_hit {L : List (List Bx)} {Z : List Int} {c : Int} {i k : Nat} {p q : Pt} (hp : onL (legsAt L i) p) (hq : onL (legsAt L k) q) (h : 4 * dist2 p q < needN (sizeAt Z i) (sizeAt Z k) c) : hitC L Z c i k = true := by
  obtain ⟨a, ha, hpa⟩ := hp
  obtain ⟨b, hb, hqb⟩ := hq
  obtain ⟨a0, b0, ha0, hb0, e, hmin⟩ := allS_best (A := legsAt L i) (B := legsAt L k) (List.length_pos_of_mem ha) (List.length_pos_of_mem hb)
  unfold hitC
  rw [decide_eq_true_eq]
  unfold sqAt
  rw [e]
  simp only
  have h1 := hmin a ha b hb
  have h2 := dist_ge hpa hqb
  omega
theorem hit_wit {L : List (List Bx)} {i k : Nat} (hi : 0 < (legsAt L i).length) (hk : 0 < (legsAt L k).length) (oi : (legsAt L i).all bxOk = true) (ok : (legsAt L k).all bxOk = true) :
    onL (legsAt L i) (sqAt L i k).p ∧ onL (legsAt L k) (sqAt L i k).q ∧ dist2 (sqAt L i k).p (sqAt L i k).q = (sqAt L i k).n := by
  obtain ⟨a, b, ha, hb, e, hmin⟩ := allS_best hi hk
  have h1 := List.all_eq_true.1 oi a ha
  have h2 := List.all_eq_true.1 ok b hb
  unfold sqAt
  rw [e]
  exact ⟨⟨a, ha, nearP_in h1 h2⟩, ⟨b, hb, nearQ_in h1 h2⟩, near_dist h1 h2⟩
theorem need_mono {d e c c' : Int} (h0 : 0 ≤ d + e + 2 * c) (h : c ≤ c') : needN d e c ≤ needN d e c' := by
  unfold needN
  exact sq_mono h0 (by omega)
theorem hit_mono {L : List (List Bx)} {Z : List Int} {c c' : Int} {i k : Nat} (h0 : 0 ≤ sizeAt Z i + sizeAt Z k + 2 * c) (h : c ≤ c') (hh : hitC L Z c i k = true) : hitC L Z c' i k = true := by
  unfold hitC at hh ⊢
  rw [decide_eq_true_eq] at hh ⊢
  have := need_mono h0 h
  omega

/-! ### the nearest bars -/
structure NeS where
  x : ClD
  n : Int
def neS0 : NeS := ⟨⟨0, 0, ⟨0, 0, 0⟩, ⟨0, 0, 0⟩⟩, -1⟩
def stN (L : List (List Bx)) (s : NeS) (i k : Nat) : NeS := if s.n < 0 ∨ (sqAt L i k).n < s.n then ⟨clOf L i k, (sqAt L i k).n⟩ else s
def rowN (L : List (List Bx)) (s : NeS) (i k : Nat) : NeS := ((List.range k).filter fun j => decide (i < j)).foldl (fun s j => stN L s i j) s
def neN (L : List (List Bx)) (n i : Nat) : NeS := (List.range i).foldl (fun s j => rowN L s j n) neS0
theorem rowN_low (L : List (List Bx)) (s : NeS) (i k : Nat) (h : k ≤ i + 1) : rowN L s i k = s := by
  unfold rowN
  have e : (List.range k).filter (fun j => decide (i < j)) = [] := by
    rw [List.filter_eq_nil_iff]
    intro j hj
    have := List.mem_range.1 hj
    have h2 : decide (i < j) = false := dec_no (by omega)
    rw [h2]
    simp
  rw [e]; rfl
theorem rowN_succ (L : List (List Bx)) (s : NeS) (i k : Nat) (h : i < k) : rowN L s i (k + 1) = stN L (rowN L s i k) i k := by
  unfold rowN
  rw [List.range_succ, List.filter_append, List.foldl_append]
  have h2 : decide (i < k) = true := dec_yes h
  simp [h2]
theorem neN_succ (L : List (List Bx)) (n i : Nat) : neN L n (i + 1) = rowN L (neN L n i) i n := by
  unfold neN
  rw [List.range_succ, List.foldl_append]
  rfl
def BestN (L : List (List Bx)) (s : NeS) (P : List (Nat × Nat)) : Prop := (P = [] ∧ s = neS0) ∨ (∃ i k, (i, k) ∈ P ∧ s = ⟨clOf L i k, (sqAt L i k).n⟩ ∧ ∀ c d, (c, d) ∈ P → (sqAt L i k).n ≤ (sqAt L c d).n)
theorem bestN_step {L : List (List Bx)} {s : NeS} {P : List (Nat × Nat)} (h : BestN L s P) (i k : Nat) (h0 : ∀ c d, (c, d) ∈ P → 0 ≤ (sqAt L c d).n) : BestN L (stN L s i k) (P ++ [(i, k)]) := by
  right
  unfold stN
  rcases h with ⟨rfl, rfl⟩ | ⟨c, d, hm, rfl, hmin⟩
  · rw [if_pos (.inl (by decide))]
    refine ⟨i, k, by simp, rfl, fun x y hx => ?_⟩
    simp only [List.nil_append, List.mem_singleton, Prod.mk.injEq] at hx
    obtain ⟨rfl, rfl⟩ := hx
    exact Int.le_refl _
  · have hz := h0 c d hm
    by_cases hlt : (sqAt L i k).n < (sqAt L c d).n
    · rw [if_pos (.inr hlt)]
      refine ⟨i, k, by simp, rfl, fun x y hx => ?_⟩
      rw [List.mem_append] at hx
      rcases hx with hx | hx
      · have := hmin x y hx; omega
      · simp only [List.mem_singleton, Prod.mk.injEq] at hx
        obtain ⟨rfl, rfl⟩ := hx
        exact Int.le_refl _
    · rw [if_neg (by simp only; omega)]
      refine ⟨c, d, List.mem_append_left _ hm, rfl, fun x y hx => ?_⟩
      rw [List.mem_append] at hx
      rcases hx with hx | hx
      · exact hmin x y hx
      · simp only [List.mem_singleton, Prod.mk.injEq] at hx
        obtain ⟨rfl, rfl⟩ := hx
        omega
theorem bestN_fold {L : List (List Bx)} (i : Nat) (J : List Nat) : ∀ {s : NeS} {P : List (Nat × Nat)}, BestN L s P → (∀ c d, (c, d) ∈ P ++ J.map (fun j => (i, j)) → 0 ≤ (sqAt L c d).n) → BestN L (J.foldl (fun s j => stN L s i j) s) (P ++ J.map fun j => (i, j)) := by
  induction J with
  | nil => intro s P h _; simpa using h
  | cons j J ih =>
    intro s P h h0
    have h1 := bestN_step h i j (fun c d hm => h0 c d (List.mem_append_left _ hm))
    have := ih h1 (fun c d hm => h0 c d (by rw [List.append_assoc] at hm; exact hm))
    rw [List.append_assoc] at this
    exact this
def pairsN (n i : Nat) : List (Nat × Nat) := (List.range i).flatMap fun j => ((List.range n).filter fun k => decide (j < k)).map fun k => (j, k)
theorem pairsN_mem {n i a b : Nat} : (a, b) ∈ pairsN n i ↔ a < i ∧ a < b ∧ b < n := by
  unfold pairsN
  simp only [List.mem_flatMap, List.mem_map, List.mem_filter, List.mem_range, decide_eq_true_eq, Prod.mk.injEq]
  constructor
  · rintro ⟨j, hj, k, ⟨hk, hjk⟩, rfl, rfl⟩; exact ⟨hj, hjk, hk⟩
  · rintro ⟨h1, h2, h3⟩; exact ⟨a, h1, b, ⟨h3, h2⟩, rfl, rfl⟩
theorem neN_best (L : List (List Bx)) (n : Nat) (h0 : ∀ c d : Nat, c < d → d < n → 0 ≤ (sqAt L c d).n) : ∀ i, BestN L (neN L n i) (pairsN n i) := by
  intro i
  induction i with
  | zero => exact .inl ⟨rfl, rfl⟩
  | succ i ih =>
    rw [neN_succ]
    have e : pairsN n (i + 1) = pairsN n i ++ ((List.range n).filter fun k => decide (i < k)).map fun k => (i, k) := by
      unfold pairsN
      rw [List.range_succ, List.flatMap_append]
      simp
    rw [e]
    refine bestN_fold i _ ih fun c d hm => ?_
    rw [← e] at hm
    obtain ⟨_, h1, h2⟩ := pairsN_mem.1 hm
    exact h0 c d h1 h2
theorem neN_least {L : List (List Bx)} {n : Nat} (hn : 2 ≤ n) (h0 : ∀ c d : Nat, c < d → d < n → 0 ≤ (sqAt L c d).n) : ∃ i k : Nat, i < k ∧ k < n ∧ neN L n n = ⟨clOf L i k, (sqAt L i k).n⟩ ∧ ∀ c d : Nat, c < d → d < n → (sqAt L i k).n ≤ (sqAt L c d).n := by
  rcases neN_best L n h0 n with ⟨he, _⟩ | ⟨i, k, hm, e, hmin⟩
  · exfalso
    have := (pairsN_mem (n := n) (i := n) (a := 0) (b := 1)).2 ⟨by omega, by omega, by omega⟩
    rw [he] at this
    cases this
  · obtain ⟨_, h1, h2⟩ := pairsN_mem.1 hm
    exact ⟨i, k, h1, h2, e, fun c d hc hd => hmin c d (pairsN_mem.2 ⟨by omega, hc, hd⟩)⟩
theorem sqAt_nonneg {L : List (List Bx)} {i k : Nat} (hi : 0 < (legsAt L i).length) (hk : 0 < (legsAt L k).length) : 0 ≤ (sqAt L i k).n := by
  obtain ⟨a, b, ha, hb, e, hmin⟩ := allS_best hi hk
  unfold sqAt
  rw [e]
  exact sqN_nonneg a b
theorem sqAt_comm {L : List (List Bx)} {i k : Nat} (hi : 0 < (legsAt L i).length) (hk : 0 < (legsAt L k).length) : (sqAt L k i).n = (sqAt L i k).n := allS_comm hi hk

/-! ### all runs moved -/
def shL (s : Pt) (L : List (List Bx)) : List (List Bx) := L.map fun l => l.map (shB s)
def shC (s : Pt) (x : ClD) : ClD := ⟨x.a, x.b, padd x.p s, padd x.q s⟩
theorem legsAt_sh (s : Pt) (L : List (List Bx)) (i : Nat) : legsAt (shL s L) i = (legsAt L i).map (shB s) := by
  unfold legsAt shL
  rw [List.getD_eq_getElem?_getD, List.getD_eq_getElem?_getD, List.getElem?_map]
  cases L[i]? <;> rfl
theorem sqAt_sh (s : Pt) {L : List (List Bx)} {i k : Nat} (hi : 0 < (legsAt L i).length) (hk : 0 < (legsAt L k).length) : sqAt (shL s L) i k = shS s (sqAt L i k) := by
  unfold sqAt
  rw [legsAt_sh, legsAt_sh, List.length_map]
  exact allS_shift s hi hk
theorem allC_sh (s : Pt) {L : List (List Bx)} (Z : List Int) (c : Int) {n : Nat} (h : ∀ i, i < n → 0 < (legsAt L i).length) : allC (shL s L) Z c n n = (allC L Z c n n).map (shC s) := by
  have hc : ∀ i k, i < n → k < n → hitC (shL s L) Z c i k = hitC L Z c i k ∧ clOf (shL s L) i k = shC s (clOf L i k) := by
    intro i k hi hk
    unfold hitC clOf
    rw [sqAt_sh s (h i hi) (h k hk)]
    exact ⟨rfl, rfl⟩
  have key : ∀ i, i ≤ n → allC (shL s L) Z c n i = (allC L Z c n i).map (shC s) := by
    intro i
    induction i with
    | zero => intro _; rfl
    | succ i ih =>
      intro hi
      rw [allC_succ, allC_succ, List.map_append, ih (by omega)]
      congr 1
      have kk : ∀ k, k ≤ n → rowC (shL s L) Z c i k = (rowC L Z c i k).map (shC s) := by
        intro k
        induction k with
        | zero => intro _; rfl
        | succ k ihk =>
          intro hk
          by_cases hik : i < k
          · rw [rowC_succ _ _ _ _ _ hik, rowC_succ _ _ _ _ _ hik, List.map_append, ihk (by omega), (hc i k (by omega) (by omega)).1, (hc i k (by omega) (by omega)).2]
            congr 1
            split <;> rfl
          · rw [rowC_low _ _ _ _ _ (by omega), rowC_low _ _ _ _ _ (by omega)]; rfl
      exact kk n (Nat.le_refl _)
  exact key n (Nat.le_refl _)
end

section
open Go.RowKit
set_option linter.unusedVariables false
set_option linter.unusedSimpArgs false

/-- The map from marks to sizes that clash.of makes. -/
def sizF (l : List BarD) : ByteArray → Int := l.foldl (fun m b => sput m b.mark b.size) (fun _ => 0)
theorem sizF_snoc {l : List BarD} {k : Nat} {x : BarD} (h : l[k]? = some x) : sizF (l.take (k + 1)) = sput (sizF (l.take k)) x.mark x.size := by
  have hk := (List.getElem?_eq_some_iff.1 h).1
  unfold sizF
  rw [List.take_succ_eq_append_getElem hk, List.foldl_append, (List.getElem?_eq_some_iff.1 h).2]
  rfl
theorem sizF_eq {l : List BarD} (h : schedOk l = true) {i : Nat} {b : BarD} (hb : l[i]? = some b) : ∀ k, k ≤ l.length → i < k → sizF (l.take k) b.mark = b.size := by
  intro k
  induction k with
  | zero => intro _ h; omega
  | succ k ih =>
    intro hk hik
    obtain ⟨c, hc⟩ : ∃ y, l[k]? = some y := ⟨_, List.getElem?_eq_getElem hk⟩
    rw [sizF_snoc hc]
    by_cases e : i = k
    · subst e
      rw [hb] at hc
      cases hc
      rw [sput_same]
    · have hne : b.mark ≠ c.mark := fun hm => by
        have h1 := (sched_line h hb).2
        have h2 := (sched_line h hc).2
        rw [hm, h2] at h1
        omega
      rw [sput_other _ _ hne]
      exact ih (by omega) (by omega)
theorem sizF_at {l : List BarD} (h : schedOk l = true) {i : Nat} {b : BarD} (hb : l[i]? = some b) : sizF l b.mark = b.size := by
  have := sizF_eq h hb l.length (Nat.le_refl _) (List.getElem?_eq_some_iff.1 hb).1
  rwa [List.take_length] at this

/-! ### all laid bars -/
def lgsOf (l : List BarD) (rs : List RunD) : List (List Bx) := (laidPts l rs).map fun q => legsN q (q.length - 1)
def szsOf (l : List BarD) (rs : List RunD) : List Int := (laidMarks rs).map (sizF l)
theorem lgsOf_len (l : List BarD) (rs : List RunD) : (lgsOf l rs).length = cumN rs := by unfold lgsOf; rw [List.length_map, laidPts_len]
theorem szsOf_len (l : List BarD) (rs : List RunD) : (szsOf l rs).length = cumN rs := by unfold szsOf; rw [List.length_map, laidMarks_len]
theorem lgsOf_at {l : List BarD} {rs : List RunD} {n : Nat} {q : List Pt} (h : (laidPts l rs)[n]? = some q) : (lgsOf l rs)[n]? = some (legsN q (q.length - 1)) := by unfold lgsOf; rw [List.getElem?_map, h]; rfl
theorem szsOf_at {l : List BarD} {rs : List RunD} {n : Nat} {m : ByteArray} (h : (laidMarks rs)[n]? = some m) : (szsOf l rs)[n]? = some (sizF l m) := by unfold szsOf; rw [List.getElem?_map, h]; rfl
theorem legsAt_at {L : List (List Bx)} {n : Nat} {B : List Bx} (h : L[n]? = some B) : legsAt L n = B := by unfold legsAt; rw [List.getD_eq_getElem?_getD, h]; rfl
theorem sizeAt_at {Z : List Int} {n : Nat} {z : Int} (h : Z[n]? = some z) : sizeAt Z n = z := by unfold sizeAt; rw [List.getD_eq_getElem?_getD, h]; rfl
theorem legs_all_ok {q : List Pt} (h : q.all (ptIn 1048576) = true) {n : Nat} (hn : n < q.length) : (legsN q n).all bxOk = true := by
  rw [List.all_eq_true]
  intro u hu
  obtain ⟨t, ht, rfl⟩ := List.getElem_of_mem hu
  have hu2 := List.getElem?_eq_getElem ht
  rw [legsN_len] at ht
  rw [legsN_at q _ t ht] at hu2
  have hpt : ∀ t, t < q.length → PtIn 1048576 (q.getD t ⟨0, 0, 0⟩) := fun t ht => by
    rw [List.getD_eq_getElem?_getD, List.getElem?_eq_getElem ht]
    exact ptIn_iff.1 (List.all_eq_true.1 h _ (List.getElem_mem ht))
  rw [← Option.some.inj hu2]
  exact legB_ok (hpt t (by omega)) (hpt (t + 1) (by omega))
/-- What is known of the laid bar n. -/
structure LaidF (l : List BarD) (rs : List RunD) (n : Nat) (q : List Pt) (b : BarD) : Prop where
  pts : (laidPts l rs)[n]? = some q
  mark : (laidMarks rs)[n]? = some b.mark
  find : ∃ t : Nat, findZ l b.mark = (t : Int) ∧ l[t]? = some b
  ok : barOk b = true
  legs : (lgsOf l rs)[n]? = some (legsN q (q.length - 1))
  lat : legsAt (lgsOf l rs) n = legsN q (q.length - 1)
  siz : sizF l b.mark = b.size
  sat : sizeAt (szsOf l rs) n = b.size
  len : 0 < (legsN q (q.length - 1)).length ∧ (legsN q (q.length - 1)).length ≤ 6
  all : (legsN q (q.length - 1)).all bxOk = true
theorem laid_fact {l : List BarD} {rs : List RunD} (h : laidOk l rs = true) {n : Nat} (hn : n < cumN rs) : ∃ q b, LaidF l rs n q b := by
  obtain ⟨q1, q2, q3, q4⟩ := laidOk_parts h
  obtain ⟨k, j, r, hk, hj, hij⟩ := cum_place hn
  obtain ⟨b, line, bok, turn, hat, c1, c2, hst, hp⟩ := laid_place h hk hj
  obtain ⟨t, ht, hb, hbm⟩ := lineOf_some line
  have hmk : (laidMarks rs)[n]? = some b.mark := by rw [hij, hbm]; exact laidMarks_at hk hj
  rw [← hij] at hp
  obtain ⟨n1, n2, n3⟩ := laid_near h hp
  have hlp : 0 < (legsOf b.code).length := by
    unfold barOk headB at bok
    simp only [Bool.and_eq_true, decide_eq_true_eq] at bok
    have h2 := bok.1.2
    rcases code_cases b.code with hc | ⟨_, h0, _⟩
    · rcases hc with e | e | e | e | e | e | e | e <;> rw [e] <;> decide
    · omega
  have hql := rpts_length b r j
  have hs := sizF_at q1 hb
  refine ⟨rptsOf b r j, b, hp, hmk, ⟨t, by rw [hbm]; exact ht, hb⟩, bok, lgsOf_at hp, legsAt_at (lgsOf_at hp), hs, ?_, ?_, ?_⟩
  · rw [sizeAt_at (szsOf_at hmk), hs]
  · rw [legsN_len]; omega
  · exact legs_all_ok n1 (by omega)
theorem lgs_pos {l : List BarD} {rs : List RunD} (h : laidOk l rs = true) {n : Nat} (hn : n < cumN rs) : 0 < (legsAt (lgsOf l rs) n).length := by
  obtain ⟨q, b, hF⟩ := laid_fact h hn
  rw [hF.lat]; exact hF.len.1
theorem lgs_ok {l : List BarD} {rs : List RunD} (h : laidOk l rs = true) {n : Nat} (hn : n < cumN rs) : (legsAt (lgsOf l rs) n).all bxOk = true := by
  obtain ⟨q, b, hF⟩ := laid_fact h hn
  rw [hF.lat]; exact hF.all
theorem lgs_mv {l : List BarD} {rs : List RunD} {by_ : Pt} (h : laidOk l rs = true) (h2 : laidOk l (rs.map (mvR by_)) = true) : lgsOf l (rs.map (mvR by_)) = shL by_ (lgsOf l rs) := by
  apply List.ext_getElem?
  intro n
  by_cases hn : n < cumN rs
  · obtain ⟨q, b, hF⟩ := laid_fact h hn
    have hm := laid_mv h h2 hF.pts
    have n3 := (laid_near h hF.pts).2.2
    unfold shL
    rw [lgsOf_at hm, List.getElem?_map, hF.legs, List.length_map, legsN_shift q by_ _ (by omega)]
    rfl
  · rw [List.getElem?_eq_none (by rw [lgsOf_len, cum_mv]; omega), List.getElem?_eq_none (by unfold shL; rw [List.length_map, lgsOf_len]; omega)]
theorem szs_mv (l : List BarD) (rs : List RunD) (by_ : Pt) : szsOf l (rs.map (mvR by_)) = szsOf l rs := by
  unfold szsOf
  have e : laidMarks (rs.map (mvR by_)) = laidMarks rs := by
    unfold laidMarks
    rw [List.flatMap_map]
    rfl
  rw [e]
end
end Go.Proofs.YtpiigmhbbcjamaaGreat
