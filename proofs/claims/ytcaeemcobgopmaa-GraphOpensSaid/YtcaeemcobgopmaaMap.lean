/-
  Maps from ints that the call itself makes, as functions.
-/
import Derived.Test.YtcaeemcobgopmaaMem
import Derived.Maps.Own
import Derived.Maps.OwnOps
import Derived.Maps.OwnSet
namespace Go.Proofs.Ytcaeemcobgopmaa
open Go.RowKit Go.Maps
set_option linter.unusedVariables false

theorem intKey : Keyed Try.prog 3 := int_keyed Try.underlying3

def litOf : Value → DataW Unit
  | .int k a => .lit (.int k a)
  | .bool x => .lit (.bool x)
  | _ => .nil

theorem key_wf {x : Nat} (h : x ≤ 1099511627776) : (Lit.int .i64 (x : Int)).wf = true := WalkArith.wf_i64 (by omega)

/-- Block b is a map from ints to values f y, which has m; z: the element type's zero. -/
def IMap {α : Type} (w : World) (e : TypeId) (f : α → Value) (z : α) (b n : Nat) (m : Nat → Option α) : Prop :=
  ∃ D : DataW Unit, w.ownsMap Try.prog 3 (plainElem Try.prog e) b n D ∧ ∀ x : Nat, x ≤ 1099511627776 → Maps.has D (.int .i64 (x : Int)) = (m x).isSome ∧ D.atKey (.int .i64 (x : Int)) (litOf (f z)) = litOf (f ((m x).getD z))

/-- The element type's values are those of f. -/
structure MapElem {α : Type} (t e : TypeId) (f : α → Value) (z : α) (ok : α → Prop) : Prop where
  ht : Try.prog.underlying t = some (.map 3 e)
  hz : ∀ w, (zeroValue e).run Try.prog w = .ok (f z) w
  zok : ok z
  reads : ∀ y, ok y → plainElem (H := Unit) Try.prog e (f y) = some (litOf (f y), [])
  inv : ∀ v y p, plainElem (H := Unit) Try.prog e v = some (litOf (f y), p) → v = f y

section
variable {α : Type} {w w1 : World} {t e : TypeId} {f : α → Value} {z : α} {b n : Nat} {m : Nat → Option α} {ok : α → Prop}
theorem IMap.new (w : World) (e : TypeId) (f : α → Value) (z : α) : IMap (w.alloc (.map #[] 0)) e f z w.heap.size 0 (fun _ => none) :=
  ⟨.map [], World.ownsMap_made _ _ _ _, fun x _ => ⟨rfl, rfl⟩⟩
theorem IMap.lt (h : IMap w e f z b n m) : b < w.heap.size := by obtain ⟨D, h, _⟩ := h; exact h.lt
theorem IMap.only (h : IMap w e f z b n m) {r : Option Nat} (hg : w.grownBy w1 r) (hne : some b ≠ r) : IMap w1 e f z b n m := by
  obtain ⟨D, h, hD⟩ := h
  exact ⟨D, h.kept hg hne, hD⟩
theorem IMap.below (h : IMap w e f z b n m) (hb : Below w.heap.size w w1) : IMap w1 e f z b n m := h.only (only_below hb none) (by simp)
theorem IMap.alloc (h : IMap w e f z b n m) (o : Obj) : IMap (w.alloc o) e f z b n m := h.below (below_new w o)
theorem IMap.apart_cells (h : IMap w e f z b n m) {g : Nat} {cs : Array Value} {t : TypeId} {fr : Nat × Nat} (hg : w.heap[g]? = some (.cells cs t fr)) : g ≠ b := by
  obtain ⟨D, ⟨es, c, hb, _⟩, _⟩ := h
  rintro rfl
  rw [hg] at hb
  injection hb with hb
  cases hb
theorem IMap.look (h : IMap w e f z b n m) (E : MapElem t e f z ok) {x : Nat} (hx : x ≤ 1099511627776) : (Instr.lookup t (.map (some b)) (.int .i64 (x : Int)) false).run Try.prog w = .ok (f ((m x).getD z)) w := by
  obtain ⟨D, h, hD⟩ := h
  obtain ⟨v, ps, hrun, hv⟩ := h.lookup intKey E.ht (E.hz w) (E.reads z E.zok) (keyOf_int_mk Try.underlying3 (key_wf hx))
  rw [(hD x hx).2] at hv
  rw [hrun, E.inv _ _ _ hv]
theorem IMap.lookOk (h : IMap w e f z b n m) (E : MapElem t e f z ok) {x : Nat} (hx : x ≤ 1099511627776) : (Instr.lookup t (.map (some b)) (.int .i64 (x : Int)) true).run Try.prog w = .ok (.tuple #[f ((m x).getD z), .bool (m x).isSome]) w := by
  obtain ⟨D, h, hD⟩ := h
  obtain ⟨v, ps, hrun, hv⟩ := h.look_ok intKey E.ht (E.hz w) (E.reads z E.zok) (keyOf_int_mk Try.underlying3 (key_wf hx))
  rw [(hD x hx).2] at hv
  rw [hrun, E.inv _ _ _ hv, (hD x hx).1]
end

def mput {α : Type} (m : Nat → Option α) (x : Nat) (y : α) : Nat → Option α := fun k => if k = x then some y else m k

theorem IMap.put {α : Type} {ok : α → Prop} {w : World} {t e : TypeId} {f : α → Value} {z : α} {b n : Nat} {m : Nat → Option α} (h : IMap w e f z b n m) (E : MapElem t e f z ok) (hn : n ≤ 1099511627776) {x : Nat} (hx : x ≤ 1099511627776) (y : α) (hy : ok y) :
    ∃ w', (Instr.mapUpdate t (.map (some b)) (.int .i64 (x : Int)) (f y)).run Try.prog w = .ok () w' ∧ IMap w' e f z b (n + 1) (mput m x y) ∧ w.grownBy w' (some b) := by
  obtain ⟨D, h, hD⟩ := h
  obtain ⟨w', hrun, h1, h2⟩ := h.update intKey E.ht (by unfold maxLen; omega) (keyOf_int_mk Try.underlying3 (key_wf hx)) (E.reads y hy)
  refine ⟨w', hrun, ⟨_, h1, fun k hk => ?_⟩, h2⟩
  unfold mput
  by_cases e : k = x
  · subst e
    rw [if_pos rfl]
    exact ⟨Maps.has_put_same h.isMap (by trivial) _, Maps.atKey_put_same h.isMap (by trivial) _ _⟩
  · rw [if_neg e]
    have hne : (Lit.int .i64 (k : Int)) ≠ .int .i64 (x : Int) := fun h => e (by injection h with _ h; omega)
    rw [Maps.has_put_other hne, Maps.atKey_put_other hne]
    exact hD k hk

theorem wpList_put {α : Type} {ok : α → Prop} (w : World) {ops : Array Oper} {rest : List Oper} {o : Oper} {a : Act} {Q : Exit → Act → World → Prop} (hg : o.guard = none) (mo xo vo : Operand) (t : TypeId) (hop : o.op = Op.mapUpdate t mo xo vo)
    (e : TypeId) (f : α → Value) (z : α) (E : MapElem t e f z ok) (b n : Nat) (m : Nat → Option α) (h : IMap w e f z b n m) (hn : n ≤ 1099511627776) (x : Nat) (hx : x ≤ 1099511627776) (y : α) (hy : ok y)
    (h1 : a.eval mo = .map (some b)) (h2 : a.eval xo = .int .i64 (x : Int)) (h3 : a.eval vo = f y)
    (hK : ∀ w', IMap w' e f z b (n + 1) (mput m x y) → w.grownBy w' (some b) → wpList Try.prog ops Q rest (a.put o.dst undef) w') :
    wpList Try.prog ops Q (o :: rest) a w := by
  refine wpList_plain hg fun K' hK' => ?_
  obtain ⟨w', hrun, r1, r2⟩ := h.put E hn hx y hy
  unfold Oper.wp
  simp [execOp, hop, h1, h2, h3, hrun, Result.andThen]
  exact hK' _ _ (hK w' r1 r2)

theorem mapInt : MapElem (α := Nat) 67 3 (fun x => .int .i64 (x : Int)) 0 (fun y => y ≤ 1099511627776) where
  ht := Try.underlying67
  hz := fun w => by kernel_rfl
  zok := by omega
  reads := fun y hy => plainElem_int Try.underlying3 (key_wf hy)
  inv := fun v y p h => by
    obtain ⟨a, rfl, hz, _⟩ := plainElem_int_inv Try.underlying3 h
    simp only [litOf, Prod.mk.injEq] at hz
    injection hz.1 with hz
    injection hz with _ hz
    rw [hz]

theorem mapBool : MapElem (α := Bool) 75 4 (fun x => .bool x) false (fun _ => True) where
  ht := Try.underlying75
  hz := fun w => by kernel_rfl
  zok := trivial
  reads := fun y _ => plainElem_bool Try.underlying4 y
  inv := fun v y p h => by
    unfold plainElem at h
    rw [Try.underlying4] at h
    cases v <;> simp [litOf] at h
    rw [h.1]
end Go.Proofs.Ytcaeemcobgopmaa
