/-
  Rows that grow: the statement 'out[x] = append(out[x], y)', its memory.
-/
import Derived.Test.YthhhcaleoiopgaaNp
import Derived.Deep.RegionLaw
import Derived.BigRegion
import Derived.Deep.DeepCutAuto
namespace Go.Proofs.Ythhhcaleoiopgaa
open Go.RowKit
set_option linter.unusedVariables false

def addAt (rows : List (List Nat)) (k y : Nat) : List (List Nat) := rows.set k (rows.getD k [] ++ [y])

theorem addAt_len (rows : List (List Nat)) (k y : Nat) : (addAt rows k y).length = rows.length := by simp [addAt]

theorem addAt_get {rows : List (List Nat)} {k y : Nat} {r : List Nat} (hr : rows[k]? = some r) : addAt rows k y = rows.set k (r ++ [y]) := by
  unfold addAt; simp [List.getD, hr]

theorem addAt_rows {rows : List (List Nat)} {m k y : Nat} (h : ∀ r ∈ rows, r.length ≤ m) : ∀ r ∈ addAt rows k y, r.length ≤ m + 1 := by
  intro r hr
  obtain ⟨j, hj, rfl⟩ := List.getElem_of_mem hr
  unfold addAt at hj ⊢
  by_cases e : k = j
  · subst e
    rw [List.getElem_set_self]
    simp only [List.length_append, List.length_singleton]
    have hk : k < rows.length := by simpa using hj
    have : rows.getD k [] ∈ rows := by simp [List.getD, hk]
    have := h _ this
    omega
  · rw [List.getElem_set_ne e]
    have := h _ (List.getElem_mem (l := rows) (n := j) (by simpa using hj))
    omega

theorem addAt_getElem {rows : List (List Nat)} {k y v : Nat} {r : List Nat} (h : rows[v]? = some r) : (addAt rows k y)[v]? = some (if k = v then r ++ [y] else r) := by
  by_cases e : k = v
  · subst e
    rw [addAt_get h, List.getElem?_set_self (List.getElem?_eq_some_iff.1 h).1, if_pos rfl]
  · unfold addAt
    rw [List.getElem?_set_ne e, if_neg e]; exact h

theorem mat_step {w w1 : World} {base G n cap : Nat} {vals : List Value} {rows : List (List Nat)} (h : MatVals w base (.slice (some ⟨G, 0, none⟩) n cap) vals rows) {k y : Nat} {v v1 : Value} {r : List Nat} (hv : vals[k]? = some v) (hr : rows[k]? = some r)
    (hown : Own w1 base 3 natf v1 (r ++ [y])) (hg : w.grownBy w1 v.ownBlock) (hat : v1.ownBlock = v.ownBlock ∨ ∃ g, w.heap.size ≤ g ∧ v1.ownBlock = some g) :
    Mat (w1.setCell ⟨G, k, none⟩ v1) base (.slice (some ⟨G, 0, none⟩) n cap) (addAt rows k y) := by
  rw [addAt_get hr]
  exact h.pushAt hv hr hown hg hat

theorem undrew {w w1 : World} {r : Option Nat} (h : w.drew.grownBy w1 r) : w.grownBy w1 r := ⟨h.os, h.tape, h.output, h.size, h.block⟩

def BesMid (w : World) (n X x y : Nat) (rows : List (List Nat)) (wx : World) : Prop :=
  Mat wx w.heap.size (.slice (some ⟨w.heap.size, 0, none⟩) n n) rows ∧ Below w.heap.size w wx ∧ w.heap.size ≤ X ∧ wx.heap[X]? = some (.cells #[.int .i64 (x : Int), .int .i64 (y : Int)] 38 (0, 0))

theorem BesMid.x {w wx : World} {n X x y : Nat} {rows : List (List Nat)} (h : BesMid w n X x y rows wx) : X < wx.heap.size ∧ wx.cell? ⟨X, 0, none⟩ = some (.int .i64 (x : Int)) ∧ wx.cell? ⟨X, 1, none⟩ = some (.int .i64 (y : Int)) := by
  obtain ⟨_, _, _, h⟩ := h
  refine ⟨(Array.getElem?_eq_some_iff.1 h).1, ?_, ?_⟩
  · simp [World.cell?, h]
  · simp [World.cell?, h]

theorem BesMid.next {w W1 w2 : World} {n X x y k z : Nat} {rows : List (List Nat)} {vals : List Value} {v1 v2 : Value} {r1 : List Nat} (h : BesMid w n X x y rows W1) (hMV : MatVals W1 w.heap.size (.slice (some ⟨w.heap.size, 0, none⟩) n n) vals rows)
    (hv : vals[z]? = some v1) (hr : rows[z]? = some r1) (hown : Own w2 w.heap.size 3 natf v2 (r1 ++ [k])) (hg : W1.grownBy w2 v1.ownBlock) (hat : v2.ownBlock = v1.ownBlock ∨ ∃ g, W1.heap.size ≤ g ∧ v2.ownBlock = some g) :
    BesMid w n X x y (addAt rows z k) (w2.setCell ⟨w.heap.size, z, none⟩ v2) := by
  obtain ⟨h1, h2, h3, h4⟩ := h
  have hrow := hMV.2.2.1 z v1 r1 hv hr
  have hX := hrow.apart_blk h4 (by decide)
  have hX2 : w.heap.size ≠ X := fun e => by
    exact hMV.2.1.apart_blk h4 (by decide) _ rfl e
  have hz := h2.size
  refine ⟨mat_step hMV hv hr hown hg hat, ?_, h3, ?_⟩
  · have hb : Below w.heap.size w w2 := below_grown h2 hg hz (fun g hg' => (hrow.lt g hg').1)
    exact hb.setCell (Nat.le_refl _) _
  · rw [heap_setCell_other w2 ⟨w.heap.size, z, none⟩ X v2 (fun e => hX2 e.symm), hg.block X (Array.getElem?_eq_some_iff.1 h4).1 (fun e => hX X e.symm rfl)]
    exact h4

theorem BesMid.drewN {w wx : World} {n X x y : Nat} {rows : List (List Nat)} (h : BesMid w n X x y rows wx) (m : Nat) : BesMid w n X x y rows (wx.drewN m) := ⟨Mat.below h.1 (bdraw m), below_drewN' h.2.1 m, h.2.2.1, h.2.2.2⟩

end Go.Proofs.Ythhhcaleoiopgaa
