/-
  A whole row (an array, a struct) stored into a block of its own: the world behind it under one name.
-/
import Derived.Test.YtpidjgljeooblaaLdB
import Derived.Deep.MidRow
namespace Go.Proofs.Ytpidjgljeooblaa
open Go.RowKit
set_option linter.unusedVariables false

theorem heap_setCells (g : Nat) (t : TypeId) : ∀ (vs : List Value) (o : Nat) (w : World) (pre old : List Value), pre.length = o → old.length = vs.length → w.heap[g]? = some (.cells (pre ++ old).toArray t (0, 0)) → (w.setCells g o vs).heap[g]? = some (.cells (pre ++ vs).toArray t (0, 0))
  | [], o, w, pre, old, hp, ho, h => by
    have : old = [] := List.eq_nil_of_length_eq_zero (by simpa using ho)
    subst this
    exact h
  | v :: vs, o, w, pre, old, hp, ho, h => by
    cases old with
    | nil => simp at ho
    | cons u old =>
      have h2 := heap_setCell_same w g o _ t v h
      have e : ((pre ++ u :: old).toArray.setIfInBounds o v) = ((pre ++ [v]) ++ old).toArray := by
        rw [List.setIfInBounds_toArray, List.set_append_right _ _ (by omega), hp, Nat.sub_self]
        simp
      rw [e] at h2
      have h3 := heap_setCells g t vs (o + 1) (w.setCell ⟨g, o, none⟩ v) (pre ++ [v]) old (by simp; omega) (by simpa using ho) h2
      have e2 : pre ++ [v] ++ vs = pre ++ v :: vs := by simp
      rw [e2] at h3
      exact h3

theorem grown_setCells (g : Nat) : ∀ (vs : List Value) (o : Nat) (w : World), w.grownBy (w.setCells g o vs) (some g) ∧ (w.setCells g o vs).heap.size = w.heap.size
  | [], o, w => ⟨only_refl w _, rfl⟩
  | v :: vs, o, w => by
    obtain ⟨h1, h2⟩ := grown_setCells g vs (o + 1) (w.setCell ⟨g, o, none⟩ v)
    exact ⟨only_trans (only_set w g o v) h1, h2.trans (by simp)⟩

section
variable {P : Program} {op : Oper} {a : Act} {w : World} {K : Act → World → Prop} {Q : Exit → Act → World → Prop}
theorem wp_store_row (ty : TypeId) (x y : Operand) (ho : op.op = .store ty x y)
    (g : Nat) (t : TypeId) (old cs : Array Value) (hg : w.heap[g]? = some (.cells old t (0, 0))) (hsz : old.size = cs.size) (hx : a.eval x = .pointer (some ⟨g, 0, none⟩)) (hy : a.eval y = .agg cs)
    (hi : (P.info? ty).map (·.size) = some cs.size) (h1 : cs.all (·.oneCell') = true)
    (h : ∀ w', w'.heap[g]? = some (.cells cs t (0, 0)) → w.grownBy w' (some g) → w'.heap.size = w.heap.size → K (a.put op.dst undef) w') : op.wp P a w K Q := by
  refine wp_store_mid ty x y ho g 0 cs hx hy (fun j hj => ⟨?_, ?_⟩) hi h1 (h _ ?_ (grown_setCells g _ 0 w).1 (grown_setCells g _ 0 w).2)
  · rw [cell_of_row w g _ old t (0, 0) hg]
    simp; omega
  · exact frozen_of_row w g _ old t hg
  · obtain ⟨old⟩ := old
    obtain ⟨cs⟩ := cs
    have := heap_setCells g t cs 0 w [] old rfl (by simpa using hsz) hg
    exact this
theorem wpList_store_row {ops : Array Oper} {rest : List Oper} (hgd : op.guard = none) (ty : TypeId) (x y : Operand) (ho : op.op = .store ty x y)
    (g : Nat) (t : TypeId) (old cs : Array Value) (hg : w.heap[g]? = some (.cells old t (0, 0))) (hsz : old.size = cs.size) (hx : a.eval x = .pointer (some ⟨g, 0, none⟩)) (hy : a.eval y = .agg cs)
    (hi : (P.info? ty).map (·.size) = some cs.size) (h1 : cs.all (·.oneCell') = true)
    (h : ∀ w', w'.heap[g]? = some (.cells cs t (0, 0)) → w.grownBy w' (some g) → w'.heap.size = w.heap.size → wpList P ops Q rest (a.put op.dst undef) w') : wpList P ops Q (op :: rest) a w :=
  wpList_plain hgd fun _ hK => wp_store_row ty x y ho g t old cs hg hsz hx hy hi h1 fun w' q1 q2 q3 => hK _ _ (h w' q1 q2 q3)
end

theorem bcell {W w1 : World} (hb : Below W.heap.size W w1) : (∀ b o, b < W.heap.size → w1.cell? ⟨b, o, none⟩ = W.cell? ⟨b, o, none⟩) ∧ (∀ b o, b < W.heap.size → w1.frozen? ⟨b, o, none⟩ = W.frozen? ⟨b, o, none⟩) :=
  ⟨fun b o h => hb.cell (p := ⟨b, o, none⟩) h, fun b o h => hb.frozen (p := ⟨b, o, none⟩) h⟩
theorem below_drawn {w W : World} (h : Below w.heap.size w.drew W) : Below w.heap.size w W := ⟨h.os, h.tape, h.output, h.size, h.block⟩
theorem heap_two (w : World) (A B : Obj) : ((w.alloc A).alloc B).heap[w.heap.size + 1]? = some B := by
  have h := heap_alloc_new (w.alloc A) B
  rw [World.size_alloc] at h
  exact h
theorem grown_cell {w w' : World} {g : Nat} (h : w.grownBy w' (some g)) {b o : Nat} (hb : b < w.heap.size) (hne : b ≠ g) : w'.cell? ⟨b, o, none⟩ = w.cell? ⟨b, o, none⟩ :=
  World.cell?_of_block (a := ⟨b, o, none⟩) (h.block b hb (fun e => hne (by injection e)))
end Go.Proofs.Ytpidjgljeooblaa
