/-
  Base texts, shaken by wip/shake.py: Lwx Clp.
-/
import Derived.Deep.CutBlock
import Derived.Test.YtamogedpgkofjaaGreatKbx
import Derived.Test.YtamogedpgkofjaaGreatKqb
import Derived.Test.YtamogedpgkofjaaGreatKrf
namespace Go.Proofs.YtamogedpgkofjaaGreat
section
section
open Go.RowKit
set_option linter.unusedVariables false
set_option linter.unusedSimpArgs false

end

section
open Go.RowKit
set_option linter.unusedVariables false
set_option linter.unusedSimpArgs false
attribute [local go_sem ↓] Go.wp_at_zero Go.wp_at_succ

def OwnRuns (w : World) (base : Nat) (v : Value) (l : List RunD) : Prop := OwnN w base 90 10 runCells v l

theorem flat_setR (ps : List RunD) : ∀ (j : Nat) (r : RunD) (q : Pt), ps[j]? = some r → (((ps.flatMap runCells).set (j * 10 + 3) (.int .i64 q.x)).set (j * 10 + 4) (.int .i64 q.y)).set (j * 10 + 5) (.int .i64 q.z) = (ps.set j { r with at_ := q }).flatMap runCells := by
  induction ps with
  | nil => intro j r q h; cases h
  | cons a ps ih =>
    intro j r q h
    have e : (a :: ps).flatMap runCells = .string a.mark :: .int .i64 a.tx :: .int .i64 a.ty :: .int .i64 a.at_.x :: .int .i64 a.at_.y :: .int .i64 a.at_.z :: .int .i64 a.step.x :: .int .i64 a.step.y :: .int .i64 a.step.z :: .int .i64 a.count :: ps.flatMap runCells := rfl
    cases j with
    | zero => cases h; rw [e]; rfl
    | succ j =>
      rw [e]
      have h2 := ih j r q (by simpa using h)
      rw [show (j + 1) * 10 + 3 = j * 10 + 3 + 1 + 1 + 1 + 1 + 1 + 1 + 1 + 1 + 1 + 1 by omega, show (j + 1) * 10 + 4 = j * 10 + 4 + 1 + 1 + 1 + 1 + 1 + 1 + 1 + 1 + 1 + 1 by omega, show (j + 1) * 10 + 5 = j * 10 + 5 + 1 + 1 + 1 + 1 + 1 + 1 + 1 + 1 + 1 + 1 by omega]
      simp only [List.set_cons_succ]
      rw [h2]; rfl
theorem own_setR {w : World} {base g n cap : Nat} {ps : List RunD} (h : OwnRuns w base (.slice (some ⟨g, 0, none⟩) n cap) ps) (j : Nat) {r : RunD} (q : Pt) (hj : ps[j]? = some r) :
    OwnRuns (((w.setCell ⟨g, j * 10 + 3, none⟩ (.int .i64 q.x)).setCell ⟨g, j * 10 + 4, none⟩ (.int .i64 q.y)).setCell ⟨g, j * 10 + 5, none⟩ (.int .i64 q.z)) base (.slice (some ⟨g, 0, none⟩) n cap) (ps.set j { r with at_ := q }) := by
  have hn : n = ps.length := by
    rcases h.2 with ⟨h', _⟩ | ⟨g', cap', cur, h', _⟩
    · cases h'
    · cases h'; rfl
  subst hn
  have h1 := (World.ownsRow.stored h (j * 10 + 3) (.int .i64 q.x)).1
  have h2 := (World.ownsRow.stored h1 (j * 10 + 4) (.int .i64 q.y)).1
  have h3 := (World.ownsRow.stored h2 (j * 10 + 5) (.int .i64 q.z)).1
  rw [flat_setR ps j r q hj] at h3
  unfold OwnRuns OwnN
  rw [List.length_set]
  exact h3

structure RMvW (w : World) (by_ : Pt) (base : Nat) (o : Value) (D : List RunD) (wr : World) : Prop where
  below : Below w.heap.size w wr
  pt : BlkIs wr w.heap.size 88 #[.int .i64 by_.x, .int .i64 by_.y, .int .i64 by_.z]
  own : OwnRuns wr base o D
  far : w.heap.size < base
section
variable {w wr w' : World} {by_ : Pt} {base : Nat} {o o' : Value} {D D' : List RunD}
theorem RMvW.after (h : RMvW w by_ base o D wr) (hb : Below wr.heap.size wr w') : RMvW w by_ base o D w' := ⟨bstep h.below hb, h.pt.below hb, OwnN.below h.own hb, h.far⟩
theorem RMvW.push (h : RMvW w by_ base o D wr) (ho : OwnRuns w' base o' D') (hg : wr.grownBy w' o.ownBlock) : RMvW w by_ base o' D' w' := by
  have hf := h.far
  have hn : ∀ g, o.ownBlock = some g → base ≤ g := fun g hg => (OwnN.lt h.own g hg).1
  exact ⟨h.below.grown hg h.below.size (fun j hj => by have := hn j hj; omega), (hg.block _ h.pt.lt (fun e => by have := hn _ e.symm; omega)).trans h.pt, ho, hf⟩
theorem RMvW.store {R i : Nat} {u : Value} (h : RMvW w by_ base o D wr) (h1 : w.heap.size < R) (h2 : ∀ g, o.ownBlock = some g → g ≠ R) : RMvW w by_ base o D (wr.setCell ⟨R, i, none⟩ u) :=
  ⟨h.below.setCell (by simp; omega) _, h.pt.far (by simp; omega) _, OwnN.kept h.own (fun g hg => heap_setCell_other _ _ _ _ (fun e => h2 g hg (by first | exact e | exact e.symm))), h.far⟩
end

end

section
open Go.RowKit
set_option linter.unusedVariables false
set_option linter.unusedSimpArgs false
attribute [local go_sem ↓] Go.wp_at_zero Go.wp_at_succ

theorem OwnN.free {α : Type} {n : Nat} {enc : α → List Value} {w : World} {base : Nat} {e : TypeId} {g m cap : Nat} {l : List α} (h : OwnN w base e n enc (.slice (some ⟨g, 0, none⟩) m cap) l) (k : Nat) : w.frozen? ⟨g, k, none⟩ = false := by
  rcases h.2 with ⟨h', _⟩ | ⟨g', cap', cur, h', _, hg, _⟩
  · cases h'
  · cases h'
    simp [World.frozen?, hg]
theorem RMvW.put {w wr : World} {by_ : Pt} {base g n cap k : Nat} {D : List RunD} {r : RunD} (h : RMvW w by_ base (.slice (some ⟨g, 0, none⟩) n cap) D wr) (hk : D[k]? = some r) (q : Pt) :
    RMvW w by_ base (.slice (some ⟨g, 0, none⟩) n cap) (D.set k { r with at_ := q }) (((wr.setCell ⟨g, k * 10 + 3, none⟩ (.int .i64 q.x)).setCell ⟨g, k * 10 + 4, none⟩ (.int .i64 q.y)).setCell ⟨g, k * 10 + 5, none⟩ (.int .i64 q.z)) := by
  have hg := (OwnN.lt h.own g rfl).1
  have hf := h.far
  exact ⟨((h.below.setCell (by simp; omega) _).setCell (by simp; omega) _).setCell (by simp; omega) _, ((h.pt.far (by simp; omega) _).far (by simp; omega) _).far (by simp; omega) _, own_setR h.own k q hk, hf⟩

end

section
open Go.RowKit
set_option linter.unusedVariables false
set_option linter.unusedSimpArgs false

end

section
open Go.RowKit
set_option linter.unusedVariables false
set_option linter.unusedSimpArgs false
attribute [local go_sem ↓] Go.wp_at_zero Go.wp_at_succ

theorem laid_sum {l : List BarD} {rs : List RunD} (h : laidOk l rs = true) : (cumN rs : Int) = sumC rs ∧ rs.length ≤ 60 ∧ (∀ r ∈ rs, 1 ≤ r.count ∧ r.count ≤ 1000) ∧ SmallC rs ∧ sumC rs ≤ 2000 := by
  obtain ⟨q1, q2, q3, q4⟩ := laidOk_parts h
  have hs : ∀ r ∈ rs, 1 ≤ r.count ∧ r.count ≤ 1000 := fun r hm => right_count (q3 r hm)
  exact ⟨cumN_sum fun r hm => (hs r hm).1, q2, hs, smallC_of q2 hs, q4⟩

structure BoxW (w : World) (g : Nat) (U : Bx) (W : World) : Prop where
  below : Below w.heap.size w W
  blk : BlkIs W g 134 (bxCellsA U)
abbrev BoxS (g : Nat) (U : Bx) (W : World) : Prop :=
  W.cell? ⟨g, 0, none⟩ = some (.int .i64 U.lo.x) ∧ W.cell? ⟨g, 1, none⟩ = some (.int .i64 U.lo.y) ∧ W.cell? ⟨g, 2, none⟩ = some (.int .i64 U.lo.z) ∧ W.cell? ⟨g, 3, none⟩ = some (.int .i64 U.hi.x) ∧ W.cell? ⟨g, 4, none⟩ = some (.int .i64 U.hi.y) ∧ W.cell? ⟨g, 5, none⟩ = some (.int .i64 U.hi.z)
section
variable {w W W' : World} {g : Nat} {U : Bx}
theorem BoxW.after (h : BoxW w g U W) (hb : Below W.heap.size W W') : BoxW w g U W' := ⟨bstep h.below hb, h.blk.below hb⟩
theorem BoxW.drew (h : BoxW w g U W) : BoxW w g U W.drew := ⟨h.below.drew, h.blk⟩
theorem BoxW.s (h : BoxW w g U W) : BoxS g U W := ⟨h.blk.cell 0, h.blk.cell 1, h.blk.cell 2, h.blk.cell 3, h.blk.cell 4, h.blk.cell 5⟩
end
theorem OwnBxs.keep {W W' : World} {B : Nat} {o : Value} {G : List Bx} (h : OwnBxs W B o G) (hb : Below W.heap.size W W') : OwnBxs W' B o G := OwnN.below h hb
end

section
open Go.RowKit
set_option linter.unusedVariables false
set_option linter.unusedSimpArgs false
attribute [local go_sem ↓] Go.wp_at_zero Go.wp_at_succ

theorem cum_place {rs : List RunD} : ∀ {n : Nat}, n < cumN rs → ∃ (k j : Nat) (r : RunD), rs[k]? = some r ∧ j < r.count.toNat ∧ n = cumN (rs.take k) + j := by
  intro n
  have key : ∀ m, m ≤ rs.length → n < cumN (rs.take m) → ∃ (k j : Nat) (r : RunD), rs[k]? = some r ∧ j < r.count.toNat ∧ n = cumN (rs.take k) + j := by
    intro m
    induction m with
    | zero => intro _ h; rw [List.take_zero] at h; simp [cumN] at h
    | succ m ih =>
      intro hm h
      obtain ⟨r, hr⟩ : ∃ y, rs[m]? = some y := ⟨_, List.getElem?_eq_getElem hm⟩
      rcases Nat.lt_or_ge n (cumN (rs.take m)) with h1 | h1
      · exact ih (by omega) h1
      · rw [cumN_snoc hr] at h
        exact ⟨m, n - cumN (rs.take m), r, hr, by omega, by omega⟩
  intro h
  refine key rs.length (Nat.le_refl _) ?_
  rw [List.take_length]; exact h

end

section
open Go.RowKit
set_option linter.unusedVariables false
set_option linter.unusedSimpArgs false
attribute [local go_sem ↓] Go.wp_at_zero Go.wp_at_succ

end

section
open Go.RowKit
set_option linter.unusedVariables false
set_option linter.unusedSimpArgs false
attribute [local go_sem ↓] Go.wp_at_zero Go.wp_at_succ

structure StW (w : World) (by_ : Pt) (base : Nat) (o : Value) (G : List Bx) (wr : World) : Prop where
  below : Below w.heap.size w wr
  pt : BlkIs wr w.heap.size 88 #[.int .i64 by_.x, .int .i64 by_.y, .int .i64 by_.z]
  own : OwnBxs wr base o G
theorem StW.after {w wr w' : World} {by_ : Pt} {base : Nat} {o : Value} {G : List Bx} (h : StW w by_ base o G wr) (hb : Below wr.heap.size wr w') : StW w by_ base o G w' := ⟨bstep h.below hb, h.pt.below hb, h.own.keep hb⟩

theorem legB_near {a b : Pt} (ha : PtIn 1048576 a) (hb : PtIn 1048576 b) : PtIn 1048576 (legB a b).lo ∧ PtIn 1048576 (legB a b).hi := by
  have e : legB a b = hull2 (pb a) (pb b) := by
    have e : legB a b = hull2 (hull2 (pb a) (pb a)) (pb b) := rfl
    rw [e, hull2_self]
  have k : ∀ x y : Int, (-1048576 ≤ x ∧ x ≤ 1048576) → (-1048576 ≤ y ∧ y ≤ 1048576) → (-1048576 ≤ mn x y ∧ mn x y ≤ 1048576) ∧ (-1048576 ≤ mx x y ∧ mx x y ≤ 1048576) := by
    intro x y hx hy
    unfold mn mx
    constructor <;> split <;> omega
  rw [e]
  obtain ⟨a1, a2, a3, a4, a5, a6⟩ := ha
  obtain ⟨b1, b2, b3, b4, b5, b6⟩ := hb
  have kx := k a.x b.x ⟨a1, a2⟩ ⟨b1, b2⟩
  have ky := k a.y b.y ⟨a3, a4⟩ ⟨b3, b4⟩
  have kz := k a.z b.z ⟨a5, a6⟩ ⟨b5, b6⟩
  unfold hull2 pb PtIn
  simp only
  exact ⟨⟨kx.1.1, kx.1.2, ky.1.1, ky.1.2, kz.1.1, kz.1.2⟩, ⟨kx.2.1, kx.2.2, ky.2.1, ky.2.2, kz.2.1, kz.2.2⟩⟩
structure St2 (w : World) (by_ : Pt) (base : Nat) (o : Value) (G : List Bx) (R : Nat) (r : RunD) (base2 : Nat) (o2 : Value) (G2 : List Bx) (wr : World) : Prop where
  st : StW w by_ base o G wr
  run : BlkIs wr R 90 (runCellsA r)
  own2 : OwnBxs wr base2 o2 G2
theorem St2.after {w wr w' : World} {by_ : Pt} {base : Nat} {o : Value} {G : List Bx} {R : Nat} {r : RunD} {base2 : Nat} {o2 : Value} {G2 : List Bx} (h : St2 w by_ base o G R r base2 o2 G2 wr) (hb : Below wr.heap.size wr w') : St2 w by_ base o G R r base2 o2 G2 w' := ⟨h.st.after hb, h.run.below hb, h.own2.keep hb⟩
end

section
section
open Go.RowKit
set_option linter.unusedVariables false
set_option linter.unusedSimpArgs false
attribute [local go_sem ↓] Go.wp_at_zero Go.wp_at_succ

def gp (a b : Bx) (k : Nat) : Int := mx (ax b.lo k - ax a.hi k) (ax a.lo k - ax b.hi k)
def gq (a b : Bx) (k : Nat) : Int := mx 0 (gp a b k)
def sqN (a b : Bx) : Nat → Int
  | 0 => 0
  | k + 1 => sqN a b k + gq a b k * gq a b k
theorem ax_bd {b : Bx} (h : bxOk b = true) {k : Nat} (hk : k < 3) : -1048576 ≤ ax b.lo k ∧ ax b.lo k ≤ 1048576 ∧ -1048576 ≤ ax b.hi k ∧ ax b.hi k ≤ 1048576 := by
  have := bxOk_iff h k hk
  unfold axB3 at this
  omega
theorem gq_bd {a b : Bx} (ha : bxOk a = true) (hb : bxOk b = true) {k : Nat} (hk : k < 3) : 0 ≤ gq a b k ∧ gq a b k ≤ 2097152 := by
  have h1 := ax_bd ha hk
  have h2 := ax_bd hb hk
  unfold gq gp mx
  (repeat' split) <;> omega
theorem sq_bd {n : Int} (h0 : 0 ≤ n) (h1 : n ≤ 2097152) : 0 ≤ n * n ∧ n * n ≤ 4398046511104 := by
  have e1 : n * n ≤ n * 2097152 := Int.mul_le_mul_of_nonneg_left h1 h0
  have e2 : n * 0 ≤ n * n := Int.mul_le_mul_of_nonneg_left h0 h0
  omega
theorem sqN_bd {a b : Bx} (ha : bxOk a = true) (hb : bxOk b = true) : ∀ k : Nat, k ≤ 3 → 0 ≤ sqN a b k ∧ sqN a b k ≤ k * 4398046511104 := by
  intro k
  induction k with
  | zero => intro _; exact ⟨Int.le_refl _, Int.le_refl _⟩
  | succ k ih =>
    intro hk
    have h1 := ih (by omega)
    have h2 := gq_bd ha hb (show k < 3 by omega)
    have h3 := sq_bd h2.1 h2.2
    simp only [sqN]
    omega

set_option maxHeartbeats 1000000 in
theorem along_any (a b : Bx) (k : Nat) (w : World) (hk : k < 3) (ha : bxOk a = true) (hb : bxOk b = true) :
    Calls Tryz.prog 117 #[bxv a, bxv b, .int .i64 (k : Int)] w fun e w' => e = .returned (.int .i64 (gp a b k)) ∧ Below w.heap.size w w' := by
  obtain ⟨a1, a2, a3, a4⟩ := ax_bd ha hk
  obtain ⟨b1, b2, b3, b4⟩ := ax_bd hb hk
  have HA := Lib.hid (fun W => ends_any a k W hk)
  have HB := Lib.hid (fun W => ends_any b k W hk)
  have HG : Hid (gp a b k = if ax b.lo k - ax a.hi k < ax a.lo k - ax b.hi k then ax a.lo k - ax b.hi k else ax b.lo k - ax a.hi k) := rfl
  generalize gp a b k = G at *
  generalize ax a.lo k = al at *
  generalize ax a.hi k = ah at *
  generalize ax b.lo k = bl at *
  generalize ax b.hi k = bh at *
  clear ha hb
  go_enter Tryz.func117, Tryz.ntmps117
  go_wp2_with fail
  refine (HA.out _).mono ?_
  rintro e w1 ⟨rfl, hb1⟩
  have HB1 := Lib.hid (bstep (by go_grown) hb1 : Below w.heap.size w w1)
  have HX1 := Lib.hid (BlkIs.below (BlkIs.new1 w (.cells (bxCellsA a) 134) (bxCellsA b) 134) hb1)
  have c0 := HX1.out.cell 0
  have c1 := HX1.out.cell 1
  have c2 := HX1.out.cell 2
  have c3 := HX1.out.cell 3
  have c4 := HX1.out.cell 4
  have c5 := HX1.out.cell 5
  clear hb1
  go_wp2_with fail
  refine (HB.out _).mono ?_
  rintro e w2 ⟨rfl, hb2⟩
  have HB2 := Lib.hid (bstep HB1.out hb2)
  clear hb2 c0 c1 c2 c3 c4 c5
  go_wp2
  all_goals (go_ret; exact ⟨ret_int (by rw [HG.out]; first | rw [if_pos (by omega)] | rw [if_neg (by omega)]), HB2.out⟩)

structure SqW (w : World) (a b : Bx) (wr : World) : Prop where
  below : Below w.heap.size w wr
  ba : BlkIs wr w.heap.size 134 (bxCellsA a)
  bb : BlkIs wr (w.heap.size + 1) 134 (bxCellsA b)
theorem SqW.after {w wr w' : World} {a b : Bx} (h : SqW w a b wr) (hb : Below wr.heap.size wr w') : SqW w a b w' := ⟨bstep h.below hb, h.ba.below hb, h.bb.below hb⟩

set_option maxRecDepth 100000 in
set_option maxHeartbeats 2000000 in
theorem square_any (a b : Bx) (w : World) (ha : bxOk a = true) (hb : bxOk b = true) :
    Calls Tryz.prog 95 #[bxv a, bxv b] w fun e w' => e = .returned (.tuple #[.int .i64 (sqN a b 3), .int .i64 0]) ∧ Below w.heap.size w w' := by
  have HVA := Lib.hid (fun W => bvalid_any a W)
  have HVB := Lib.hid (fun W => bvalid_any b W)
  rw [ha] at HVA
  rw [hb] at HVB
  have HAL := Lib.hid (fun k (hk : k < 3) W => along_any a b k W hk ha hb)
  have HGB := Lib.hid (fun k (hk : k < 3) => gq_bd ha hb hk)
  have HSB := Lib.hid (sqN_bd ha hb)
  have HGE : Hid (∀ k, gq a b k = if 0 < gp a b k then gp a b k else 0) := fun _ => rfl
  have HSN : Hid (∀ k, sqN a b (k + 1) = sqN a b k + gq a b k * gq a b k) := fun _ => rfl
  clear ha hb
  go_enter Tryz.func95, Tryz.ntmps95
  go_wp2_with fail
  refine (HVA.out _).mono ?_
  rintro e w1 ⟨rfl, hb1⟩
  have HW1 : Hid (SqW w a b w1) := ⟨bstep (by go_grown) hb1, BlkIs.below ((BlkIs.new w _ _).alloc _) hb1, BlkIs.below (BlkIs.new1 w _ _ _) hb1⟩
  clear hb1
  have c0 := HW1.out.bb.cell 0
  have c1 := HW1.out.bb.cell 1
  have c2 := HW1.out.bb.cell 2
  have c3 := HW1.out.bb.cell 3
  have c4 := HW1.out.bb.cell 4
  have c5 := HW1.out.bb.cell 5
  go_wp2_with fail
  refine (HVB.out _).mono ?_
  rintro e w2 ⟨rfl, hb2⟩
  have HW2 := Lib.hid (HW1.out.after hb2)
  clear hb2 c0 c1 c2 c3 c4 c5 HVA HVB HW1
  go_wp2_with fail
  go_loopw [6, 17] (fun t i wr => ∃ k : Nat, k ≤ 3 ∧ i = .int .i64 (k : Int) ∧ t = .int .i64 (sqN a b k) ∧ SqW w a b wr) (fun _ i _ => 3 - (intOf i).toNat)
  case atStart => exact ⟨0, by omega, rfl, rfl, HW2.out⟩
  case round =>
    clear HW2
    obtain ⟨k, hk, rfl, rfl, hW⟩ := hrel
    have HW := Lib.hid hW
    clear hW
    by_cases hk2 : k < 3
    · have a0 := HW.out.ba.cell 0
      have a1 := HW.out.ba.cell 1
      have a2 := HW.out.ba.cell 2
      have a3 := HW.out.ba.cell 3
      have a4 := HW.out.ba.cell 4
      have a5 := HW.out.ba.cell 5
      have c0 := HW.out.bb.cell 0
      have c1 := HW.out.bb.cell 1
      have c2 := HW.out.bb.cell 2
      have c3 := HW.out.bb.cell 3
      have c4 := HW.out.bb.cell 4
      have c5 := HW.out.bb.cell 5
      have HALK := Lib.hid (HAL.out k hk2)
      obtain ⟨g0, g1⟩ := HGB.out k hk2
      obtain ⟨s0, s1⟩ := HSB.out k hk
      have HN := Lib.hid (HSN.out k)
      have HE := Lib.hid (HGE.out k)
      go_wp2_with fail
      refine (HALK.out _).mono ?_
      rintro e w3 ⟨rfl, hb3⟩
      have HW3 := Lib.hid (HW.out.after hb3)
      clear hb3 a0 a1 a2 a3 a4 a5 c0 c1 c2 c3 c4 c5 HALK HAL HGB HSB HSN HGE
      have hgq := HE.out
      generalize gp a b k = g at *
      generalize gq a b k = n at *
      generalize sqN a b k = s at *
      obtain ⟨q0, q1⟩ := sq_bd g0 g1
      by_cases hg : 0 < g
      · have hn : n = g := by rw [hgq, if_pos hg]
        subst hn
        clear hgq HE
        generalize hsq : n * n = m at *
        go_wp2_with fail
        go_roundw
        case rel => exact ⟨k + 1, by omega, by go_num, by rw [HN.out], HW3.out⟩
        case measure => simp [intOf]; omega
      · have hn : n = 0 := by rw [hgq, if_neg hg]
        subst hn
        clear hgq HE
        go_wp2_with fail
        go_roundw
        case rel => exact ⟨k + 1, by omega, by go_num, by rw [HN.out]; exact val_int (by omega), HW3.out⟩
        case measure => simp [intOf]; omega
    · obtain rfl : k = 3 := by omega
      go_wp2
      go_ret2
      exact ⟨rfl, HW.out.below⟩

end

section
open Go.RowKit
set_option linter.unusedVariables false
set_option linter.unusedSimpArgs false
attribute [local go_sem ↓] Go.wp_at_zero Go.wp_at_succ

def ab (n : Int) : Int := if n < 0 then -n else n
theorem legB_eq (a b : Pt) : legB a b = hull2 (pb a) (pb b) := by
  have e : legB a b = hull2 (hull2 (pb a) (pb a)) (pb b) := rfl
  rw [e, hull2_self]
theorem legB_ok {a b : Pt} (ha : PtIn 1048576 a) (hb : PtIn 1048576 b) : bxOk (legB a b) = true := by
  obtain ⟨⟨l1, l2, l3, l4, l5, l6⟩, h1, h2, h3, h4, h5, h6⟩ := legB_near ha hb
  have k : ∀ x y : Int, mn x y ≤ mx x y := by intro x y; unfold mn mx; (repeat' split) <;> omega
  have kx := k a.x b.x
  have ky := k a.y b.y
  have kz := k a.z b.z
  have e1 : (legB a b).lo.x ≤ (legB a b).hi.x := by rw [legB_eq]; exact kx
  have e2 : (legB a b).lo.y ≤ (legB a b).hi.y := by rw [legB_eq]; exact ky
  have e3 : (legB a b).lo.z ≤ (legB a b).hi.z := by rw [legB_eq]; exact kz
  unfold bxOk
  exact dec_yes ⟨⟨e1, l1, h2⟩, ⟨e2, l3, h4⟩, e3, l5, h6⟩

theorem legsN_at (q : List Pt) (n t : Nat) (h : t < n) : (legsN q n)[t]? = some (legB (q.getD t ⟨0, 0, 0⟩) (q.getD (t + 1) ⟨0, 0, 0⟩)) := by
  unfold legsN
  rw [List.getElem?_map, List.getElem?_range h]
  rfl
theorem getD_at {q : List Pt} {t : Nat} (h : t < q.length) : q[t]? = some (q.getD t ⟨0, 0, 0⟩) := by
  rw [List.getD_eq_getElem?_getD, List.getElem?_eq_getElem h]; rfl
theorem rpts_length (b : BarD) (r : RunD) (j : Int) : (rptsOf b r j).length = (legsOf b.code).length + 1 := by
  unfold rptsOf pathOf pathN
  rw [List.length_map, List.length_map, List.length_range]
end

section
open Go.RowKit
set_option linter.unusedVariables false
set_option linter.unusedSimpArgs false
attribute [local go_sem ↓] Go.wp_at_zero Go.wp_at_succ

theorem zints_get {w : World} {ao : Option Addr} {n cap k : Nat} {l : List Int} {x : Int} (h : Ints w (.slice ao n cap) l) (hk : l[k]? = some x) :
    ∃ b off, ao = some ⟨b, off, none⟩ ∧ b < w.heap.size ∧ w.cell? ⟨b, off + k, none⟩ = some (.int .i64 x) := by
  obtain ⟨ao', cap', hv, h2⟩ := h
  cases hv
  obtain ⟨b, off, rfl, hlt, hc⟩ := h2 (by have := (List.getElem?_eq_some_iff.1 hk).1; omega)
  exact ⟨b, off, rfl, hlt, hc k x hk⟩
abbrev intv (x : Int) : Value := .int .i64 x
abbrev OwnI (w : World) (B : Nat) (o : Value) (l : List Int) : Prop := Own w B 3 intv o l

theorem wpList_pushO {α : Type} {P : Program} (w0 : World) (N : Nat) (hN : w0.heap.size = N) {ops : Array Oper} {rest : List Oper} {o : Oper} {a : Act} {Q : Exit → Act → World → Prop} (hgd : o.guard = none) (s x : Operand) (t : TypeId)
    (ho : o.op = .call { callee := .builtin .append, args := #[s, x], argTypes := #[t, t] })
    (e bytes : Nat) (he : Elem P t e bytes) (base : Nat) (f : α → Value) (v : Value) (l : List α) (y : α) (h1 : (f y).oneCell' = true)
    (hown : Own w0 base e f v l) (hs : a.eval s = v) (hx : a.eval x = .slice (some ⟨N, 0, none⟩) 1 1)
    (h63 : l.length + 1 ≤ 1099511627776) (hby : bytes ≤ 64) (hbase : base ≤ N)
    (hK : ∀ v' w', Own w' base e f v' (l ++ [y]) → w0.grownBy w' v.ownBlock → (v'.ownBlock = v.ownBlock ∨ ∃ g, w0.heap.size ≤ g ∧ v'.ownBlock = some g) → wpList P ops Q rest (a.put o.dst v') w') :
    wpList P ops Q (o :: rest) a (w0.alloc (.cells #[f y] e)) := by
  subst hN
  exact wpList_push w0 hgd s x t ho e bytes he base f v l y h1 hown hs hx h63 hby hbase hK
end
end
end
section
section
open Go.RowKit
set_option linter.unusedVariables false

def npA (lo hi fr tt : Int) : Int := if hi < fr then hi else if tt < lo then lo else mx lo fr
def npB (lo hi fr tt : Int) : Int := if hi < fr then fr else if tt < lo then tt else mx lo fr
def nearP (a b : Bx) : Pt := ⟨npA a.lo.x a.hi.x b.lo.x b.hi.x, npA a.lo.y a.hi.y b.lo.y b.hi.y, npA a.lo.z a.hi.z b.lo.z b.hi.z⟩
def nearQ (a b : Bx) : Pt := ⟨npB a.lo.x a.hi.x b.lo.x b.hi.x, npB a.lo.y a.hi.y b.lo.y b.hi.y, npB a.lo.z a.hi.z b.lo.z b.hi.z⟩
def wayB (b : Bx) (x : Int) : Bx :=
  if x = 1 then ⟨⟨-1048576, b.lo.y, b.lo.z⟩, b.hi⟩ else if x = 2 then ⟨⟨b.lo.x, -1048576, b.lo.z⟩, b.hi⟩ else if x = 3 then ⟨⟨b.lo.x, b.lo.y, -1048576⟩, b.hi⟩
  else if x = -1 then ⟨b.lo, ⟨1048576, b.hi.y, b.hi.z⟩⟩ else if x = -2 then ⟨b.lo, ⟨b.hi.x, 1048576, b.hi.z⟩⟩ else ⟨b.lo, ⟨b.hi.x, b.hi.y, 1048576⟩⟩
theorem ax_cases {x : Int} (h : axB x = true) : x = 1 ∨ x = 2 ∨ x = 3 ∨ x = -1 ∨ x = -2 ∨ x = -3 := by
  unfold axB at h
  rw [decide_eq_true_eq] at h
  omega
end

section
open Go.RowKit
set_option linter.unusedVariables false
set_option linter.unusedSimpArgs false

theorem gap_nonneg (lo hi fr tt : Int) : 0 ≤ mx 0 (mx (fr - hi) (lo - tt)) := by unfold mx; (repeat' split) <;> omega
theorem sq_mono {a b : Int} (h0 : 0 ≤ a) (h : a ≤ b) : a * a ≤ b * b := Int.mul_le_mul h h h0 (by omega)
def gx (lo hi fr tt : Int) : Int := mx 0 (mx (fr - hi) (lo - tt))
theorem sqN_eq (a b : Bx) : sqN a b 3 = gx a.lo.x a.hi.x b.lo.x b.hi.x * gx a.lo.x a.hi.x b.lo.x b.hi.x + gx a.lo.y a.hi.y b.lo.y b.hi.y * gx a.lo.y a.hi.y b.lo.y b.hi.y + gx a.lo.z a.hi.z b.lo.z b.hi.z * gx a.lo.z a.hi.z b.lo.z b.hi.z := by
  have e0 : gq a b 0 = gx a.lo.x a.hi.x b.lo.x b.hi.x := rfl
  have e1 : gq a b 1 = gx a.lo.y a.hi.y b.lo.y b.hi.y := rfl
  have e2 : gq a b 2 = gx a.lo.z a.hi.z b.lo.z b.hi.z := rfl
  have e : sqN a b 3 = 0 + gq a b 0 * gq a b 0 + gq a b 1 * gq a b 1 + gq a b 2 * gq a b 2 := rfl
  rw [e, e0, e1, e2, Int.zero_add]
theorem sqN_nonneg (a b : Bx) : 0 ≤ sqN a b 3 := by
  have k : ∀ n : Int, 0 ≤ n → 0 ≤ n * n := fun n h => Int.mul_nonneg h h
  rw [sqN_eq]
  have := k _ (gap_nonneg a.lo.x a.hi.x b.lo.x b.hi.x)
  have := k _ (gap_nonneg a.lo.y a.hi.y b.lo.y b.hi.y)
  have := k _ (gap_nonneg a.lo.z a.hi.z b.lo.z b.hi.z)
  unfold gx
  omega

end

section
open Go.RowKit
set_option linter.unusedVariables false
set_option linter.unusedSimpArgs false

def legsAt (L : List (List Bx)) (i : Nat) : List Bx := L.getD i []
def sizeAt (Z : List Int) (i : Nat) : Int := Z.getD i 0
end

section
open Go.RowKit
set_option linter.unusedVariables false
set_option linter.unusedSimpArgs false

/-- The map from marks to sizes that clash.of makes. -/
def sizF (l : List BarD) : ByteArray → Int := l.foldl (fun m b => sput m b.mark b.size) (fun _ => 0)
theorem sizF_snoc {l : List BarD} {k : Nat} {x : BarD} (h : l[k]? = some x) : sizF (l.take (k + 1)) = sput (sizF (l.take k)) x.mark x.size := by
  have hk := (List.getElem?_eq_some_iff.1 h).1
  unfold sizF
  rw [List.take_succ_eq_append_getElem hk, List.foldl_append, (List.getElem?_eq_some_iff.1 h).2]
  rfl
theorem sizF_eq {l : List BarD} (h : schedOk l = true) {i : Nat} {b : BarD} (hb : l[i]? = some b) : ∀ k, k ≤ l.length → i < k → sizF (l.take k) b.mark = b.size := by
  intro k
  induction k with
  | zero => intro _ h; omega
  | succ k ih =>
    intro hk hik
    obtain ⟨c, hc⟩ : ∃ y, l[k]? = some y := ⟨_, List.getElem?_eq_getElem hk⟩
    rw [sizF_snoc hc]
    by_cases e : i = k
    · subst e
      rw [hb] at hc
      cases hc
      rw [sput_same]
    · have hne : b.mark ≠ c.mark := fun hm => by
        have h1 := (sched_line h hb).2
        have h2 := (sched_line h hc).2
        rw [hm, h2] at h1
        omega
      rw [sput_other _ _ hne]
      exact ih (by omega) (by omega)
theorem sizF_at {l : List BarD} (h : schedOk l = true) {i : Nat} {b : BarD} (hb : l[i]? = some b) : sizF l b.mark = b.size := by
  have := sizF_eq h hb l.length (Nat.le_refl _) (List.getElem?_eq_some_iff.1 hb).1
  rwa [List.take_length] at this

def lgsOf (l : List BarD) (rs : List RunD) : List (List Bx) := (laidPts l rs).map fun q => legsN q (q.length - 1)
def szsOf (l : List BarD) (rs : List RunD) : List Int := (laidMarks rs).map (sizF l)
theorem lgsOf_len (l : List BarD) (rs : List RunD) : (lgsOf l rs).length = cumN rs := by unfold lgsOf; rw [List.length_map, laidPts_len]
theorem szsOf_len (l : List BarD) (rs : List RunD) : (szsOf l rs).length = cumN rs := by unfold szsOf; rw [List.length_map, laidMarks_len]
theorem lgsOf_at {l : List BarD} {rs : List RunD} {n : Nat} {q : List Pt} (h : (laidPts l rs)[n]? = some q) : (lgsOf l rs)[n]? = some (legsN q (q.length - 1)) := by unfold lgsOf; rw [List.getElem?_map, h]; rfl
theorem szsOf_at {l : List BarD} {rs : List RunD} {n : Nat} {m : ByteArray} (h : (laidMarks rs)[n]? = some m) : (szsOf l rs)[n]? = some (sizF l m) := by unfold szsOf; rw [List.getElem?_map, h]; rfl
theorem legsAt_at {L : List (List Bx)} {n : Nat} {B : List Bx} (h : L[n]? = some B) : legsAt L n = B := by unfold legsAt; rw [List.getD_eq_getElem?_getD, h]; rfl
theorem sizeAt_at {Z : List Int} {n : Nat} {z : Int} (h : Z[n]? = some z) : sizeAt Z n = z := by unfold sizeAt; rw [List.getD_eq_getElem?_getD, h]; rfl
theorem legs_all_ok {q : List Pt} (h : q.all (ptIn 1048576) = true) {n : Nat} (hn : n < q.length) : (legsN q n).all bxOk = true := by
  rw [List.all_eq_true]
  intro u hu
  obtain ⟨t, ht, rfl⟩ := List.getElem_of_mem hu
  have hu2 := List.getElem?_eq_getElem ht
  rw [legsN_len] at ht
  rw [legsN_at q _ t ht] at hu2
  have hpt : ∀ t, t < q.length → PtIn 1048576 (q.getD t ⟨0, 0, 0⟩) := fun t ht => by
    rw [List.getD_eq_getElem?_getD, List.getElem?_eq_getElem ht]
    exact ptIn_iff.1 (List.all_eq_true.1 h _ (List.getElem_mem ht))
  rw [← Option.some.inj hu2]
  exact legB_ok (hpt t (by omega)) (hpt (t + 1) (by omega))
/-- What is known of the laid bar n. -/
structure LaidF (l : List BarD) (rs : List RunD) (n : Nat) (q : List Pt) (b : BarD) : Prop where
  pts : (laidPts l rs)[n]? = some q
  mark : (laidMarks rs)[n]? = some b.mark
  find : ∃ t : Nat, findZ l b.mark = (t : Int) ∧ l[t]? = some b
  ok : barOk b = true
  legs : (lgsOf l rs)[n]? = some (legsN q (q.length - 1))
  lat : legsAt (lgsOf l rs) n = legsN q (q.length - 1)
  siz : sizF l b.mark = b.size
  sat : sizeAt (szsOf l rs) n = b.size
  len : 0 < (legsN q (q.length - 1)).length ∧ (legsN q (q.length - 1)).length ≤ 6
  all : (legsN q (q.length - 1)).all bxOk = true
theorem laid_fact {l : List BarD} {rs : List RunD} (h : laidOk l rs = true) {n : Nat} (hn : n < cumN rs) : ∃ q b, LaidF l rs n q b := by
  obtain ⟨q1, q2, q3, q4⟩ := laidOk_parts h
  obtain ⟨k, j, r, hk, hj, hij⟩ := cum_place hn
  obtain ⟨b, line, bok, turn, hat, c1, c2, hst, hp⟩ := laid_place h hk hj
  obtain ⟨t, ht, hb, hbm⟩ := lineOf_some line
  have hmk : (laidMarks rs)[n]? = some b.mark := by rw [hij, hbm]; exact laidMarks_at hk hj
  rw [← hij] at hp
  obtain ⟨n1, n2, n3⟩ := laid_near h hp
  have hlp : 0 < (legsOf b.code).length := by
    unfold barOk headB at bok
    simp only [Bool.and_eq_true, decide_eq_true_eq] at bok
    have h2 := bok.1.2
    rcases code_cases b.code with hc | ⟨_, h0, _⟩
    · rcases hc with e | e | e | e | e | e | e | e <;> rw [e] <;> decide
    · omega
  have hql := rpts_length b r j
  have hs := sizF_at q1 hb
  refine ⟨rptsOf b r j, b, hp, hmk, ⟨t, by rw [hbm]; exact ht, hb⟩, bok, lgsOf_at hp, legsAt_at (lgsOf_at hp), hs, ?_, ?_, ?_⟩
  · rw [sizeAt_at (szsOf_at hmk), hs]
  · rw [legsN_len]; omega
  · exact legs_all_ok n1 (by omega)
end
end
end Go.Proofs.YtamogedpgkofjaaGreat
