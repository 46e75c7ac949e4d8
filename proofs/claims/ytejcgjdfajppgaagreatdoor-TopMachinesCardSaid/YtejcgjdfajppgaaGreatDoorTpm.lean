/-
  Maps from strings: to bools; to ints, asked whether an entry is there.
-/
import Derived.Test.YtejcgjdfajppgaaGreatDoorKmp
namespace Go.Proofs.YtejcgjdfajppgaaGreatDoor
section
open Go.RowKit Go.Maps
set_option linter.unusedVariables false
set_option linter.unusedSimpArgs false

theorem plainBool_inv {H : Type} {P : Program} {e : TypeId} (he : P.underlying e = some .bool) {v : Value} {z : DataW H × List MemPlace} (h : plainElem P e v = some z) : ∃ x, v = .bool x ∧ z = (.lit (.bool x), []) := by
  unfold plainElem at h
  rw [he] at h
  cases v <;> simp at h
  exact ⟨_, rfl, h.symm⟩
def skb (x : Bool) : DataW Unit := .lit (.bool x)
/-- Block b is a map from strings to bools, which gives m, false where nothing is. -/
def BMap (w : World) (b n : Nat) (m : ByteArray → Bool) : Prop :=
  ∃ D : DataW Unit, w.ownsMap Tryz.prog 9 (plainElem Tryz.prog 4) b n D ∧ ∀ x : ByteArray, D.atKey (.string x.data.toList) (skb false) = skb (m x)
def bput (m : ByteArray → Bool) (x : ByteArray) (y : Bool) : ByteArray → Bool := fun k => if k = x then y else m k
section
variable {w w1 : World} {b n : Nat} {m : ByteArray → Bool}
theorem BMap.new (w : World) : BMap (w.alloc (.map #[] 0)) w.heap.size 0 (fun _ => false) := ⟨.map [], World.ownsMap_made _ _ _ _, fun x => rfl⟩
theorem BMap.lt (h : BMap w b n m) : b < w.heap.size := by obtain ⟨D, h, _⟩ := h; exact h.lt
theorem BMap.only (h : BMap w b n m) {r : Option Nat} (hg : w.grownBy w1 r) (hne : some b ≠ r) : BMap w1 b n m := by
  obtain ⟨D, h, hD⟩ := h
  exact ⟨D, h.kept hg hne, hD⟩
theorem BMap.below (h : BMap w b n m) (hb : Below w.heap.size w w1) : BMap w1 b n m := h.only (only_below hb none) (by simp)
theorem BMap.look (h : BMap w b n m) {x : ByteArray} (hx : x.size ≤ 9223372036854775807) : (Instr.lookup 103 (.map (some b)) (.string x) false).run Tryz.prog w = .ok (.bool (m x)) w := by
  obtain ⟨D, h, hD⟩ := h
  have hz : (zeroValue 4).run Tryz.prog w = .ok (.bool false) w := by kernel_rfl
  obtain ⟨v, ps, hrun, hv⟩ := h.lookup strKey Tryz.underlying103 hz (plainElem_bool Tryz.underlying4 false) (strKey_mk hx)
  have e := hD x
  unfold skb at e
  rw [e] at hv
  obtain ⟨y, rfl, hy⟩ := plainBool_inv Tryz.underlying4 hv
  simp only [Prod.mk.injEq, DataW.lit.injEq, Lit.bool.injEq] at hy
  rw [hrun, hy.1]
theorem BMap.put (h : BMap w b n m) (hn : n ≤ 1099511627776) {x : ByteArray} (hx : x.size ≤ 9223372036854775807) (y : Bool) :
    ∃ w', (Instr.mapUpdate 103 (.map (some b)) (.string x) (.bool y)).run Tryz.prog w = .ok () w' ∧ BMap w' b (n + 1) (bput m x y) ∧ w.grownBy w' (some b) := by
  obtain ⟨D, h, hD⟩ := h
  obtain ⟨w', hrun, h1, h2⟩ := h.update strKey Tryz.underlying103 (by unfold maxLen; omega) (strKey_mk hx) (plainElem_bool Tryz.underlying4 y)
  refine ⟨w', hrun, ⟨_, h1, fun k => ?_⟩, h2⟩
  unfold bput
  by_cases e : k = x
  · subst e
    rw [if_pos rfl]
    exact Maps.atKey_put_same h.isMap (by trivial) _ _
  · rw [if_neg e]
    have hne : (Lit.string k.data.toList) ≠ .string x.data.toList := fun h => e (bytes_of_lit h)
    rw [Maps.atKey_put_other hne]
    exact hD k
end
theorem wpList_bput (w : World) {ops : Array Oper} {rest : List Oper} {o : Oper} {a : Act} {Q : Exit → Act → World → Prop} (hg : o.guard = none) (mo xo vo : Operand) (hop : o.op = Op.mapUpdate 103 mo xo vo)
    (b n : Nat) (m : ByteArray → Bool) (h : BMap w b n m) (hn : n ≤ 1099511627776) (x : ByteArray) (hx : x.size ≤ 9223372036854775807) (y : Bool)
    (h1 : a.eval mo = .map (some b)) (h2 : a.eval xo = .string x) (h3 : a.eval vo = .bool y)
    (hK : ∀ w', BMap w' b (n + 1) (bput m x y) → w.grownBy w' (some b) → wpList Tryz.prog ops Q rest (a.put o.dst undef) w') :
    wpList Tryz.prog ops Q (o :: rest) a w := by
  refine wpList_plain hg fun K' hK' => ?_
  obtain ⟨w', hrun, r1, r2⟩ := h.put hn hx y
  unfold Oper.wp
  simp [execOp, hop, h1, h2, h3, hrun, Result.andThen]
  exact hK' _ _ (hK w' r1 r2)

/-- Block b is a map from strings to ints: m says what is there. -/
def OMap (w : World) (b n : Nat) (m : ByteArray → Option Int) : Prop :=
  ∃ D : DataW Unit, w.ownsMap Tryz.prog 9 (plainElem Tryz.prog 3) b n D ∧ ∀ x : ByteArray, Maps.has D (.string x.data.toList) = (m x).isSome ∧ D.atKey (.string x.data.toList) (ski 0) = ski ((m x).getD 0)
def oput (m : ByteArray → Option Int) (x : ByteArray) (y : Int) : ByteArray → Option Int := fun k => if k = x then some y else m k
section
variable {w w1 : World} {b n : Nat} {m : ByteArray → Option Int}
theorem OMap.new (w : World) : OMap (w.alloc (.map #[] 0)) w.heap.size 0 (fun _ => none) := ⟨.map [], World.ownsMap_made _ _ _ _, fun x => ⟨rfl, rfl⟩⟩
theorem OMap.lt (h : OMap w b n m) : b < w.heap.size := by obtain ⟨D, h, _⟩ := h; exact h.lt
theorem OMap.only (h : OMap w b n m) {r : Option Nat} (hg : w.grownBy w1 r) (hne : some b ≠ r) : OMap w1 b n m := by
  obtain ⟨D, h, hD⟩ := h
  exact ⟨D, h.kept hg hne, hD⟩
theorem OMap.below (h : OMap w b n m) (hb : Below w.heap.size w w1) : OMap w1 b n m := h.only (only_below hb none) (by simp)
theorem OMap.look (h : OMap w b n m) {x : ByteArray} (hx : x.size ≤ 9223372036854775807) : (Instr.lookup 81 (.map (some b)) (.string x) true).run Tryz.prog w = .ok (.tuple #[.int .i64 ((m x).getD 0), .bool (m x).isSome]) w := by
  obtain ⟨D, h, hD⟩ := h
  have hz : (zeroValue 3).run Tryz.prog w = .ok (.int .i64 0) w := by kernel_rfl
  obtain ⟨v, ps, hrun, hv⟩ := h.look_ok strKey Tryz.underlying81 hz (plainElem_int Tryz.underlying3 (by decide)) (strKey_mk hx)
  obtain ⟨h1, h2⟩ := hD x
  unfold ski at h2
  rw [h2] at hv
  obtain ⟨y, rfl, hy, _⟩ := plainElem_int_inv Tryz.underlying3 hv
  simp only [Prod.mk.injEq, DataW.lit.injEq, Lit.int.injEq, true_and] at hy
  rw [hrun, h1, hy.1]
theorem OMap.put (h : OMap w b n m) (hn : n ≤ 1099511627776) {x : ByteArray} (hx : x.size ≤ 9223372036854775807) (y : Int) (hy : (Lit.int .i64 y).wf = true) :
    ∃ w', (Instr.mapUpdate 81 (.map (some b)) (.string x) (.int .i64 y)).run Tryz.prog w = .ok () w' ∧ OMap w' b (n + 1) (oput m x y) ∧ w.grownBy w' (some b) := by
  obtain ⟨D, h, hD⟩ := h
  obtain ⟨w', hrun, h1, h2⟩ := h.update strKey Tryz.underlying81 (by unfold maxLen; omega) (strKey_mk hx) (plainElem_int Tryz.underlying3 hy)
  refine ⟨w', hrun, ⟨_, h1, fun k => ?_⟩, h2⟩
  unfold oput
  by_cases e : k = x
  · subst e
    rw [if_pos rfl]
    exact ⟨Maps.has_put_same h.isMap (by trivial) _, Maps.atKey_put_same h.isMap (by trivial) _ _⟩
  · rw [if_neg e]
    have hne : (Lit.string k.data.toList) ≠ .string x.data.toList := fun h => e (bytes_of_lit h)
    rw [Maps.has_put_other hne, Maps.atKey_put_other hne]
    exact hD k
end
theorem wpList_oput (w : World) {ops : Array Oper} {rest : List Oper} {o : Oper} {a : Act} {Q : Exit → Act → World → Prop} (hg : o.guard = none) (mo xo vo : Operand) (hop : o.op = Op.mapUpdate 81 mo xo vo)
    (b n : Nat) (m : ByteArray → Option Int) (h : OMap w b n m) (hn : n ≤ 1099511627776) (x : ByteArray) (hx : x.size ≤ 9223372036854775807) (y : Int) (hy : (Lit.int .i64 y).wf = true)
    (h1 : a.eval mo = .map (some b)) (h2 : a.eval xo = .string x) (h3 : a.eval vo = .int .i64 y)
    (hK : ∀ w', OMap w' b (n + 1) (oput m x y) → w.grownBy w' (some b) → wpList Tryz.prog ops Q rest (a.put o.dst undef) w') :
    wpList Tryz.prog ops Q (o :: rest) a w := by
  refine wpList_plain hg fun K' hK' => ?_
  obtain ⟨w', hrun, r1, r2⟩ := h.put hn hx y hy
  unfold Oper.wp
  simp [execOp, hop, h1, h2, h3, hrun, Result.andThen]
  exact hK' _ _ (hK w' r1 r2)
end
end Go.Proofs.YtejcgjdfajppgaaGreatDoor
