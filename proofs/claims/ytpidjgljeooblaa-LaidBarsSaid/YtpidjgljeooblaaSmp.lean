/-
  Maps from strings to ints that the call itself makes, as functions with 0 for what is not there.
-/
import Derived.Test.YtpidjgljeooblaaMem
import Derived.Maps.Own
import Derived.Maps.OwnOps
import Derived.Maps.OwnSet
import Derived.StringKeys
namespace Go.Proofs.Ytpidjgljeooblaa
open Go.RowKit Go.Maps
set_option linter.unusedVariables false
set_option linter.unusedSimpArgs false

theorem strKey : Keyed Try.prog 9 := string_keyed Try.underlying9
theorem strKey_mk {s : ByteArray} (h : s.size ≤ 9223372036854775807) : keyOf Try.prog 9 (.string s) = some (.string s.data.toList) := Go.WideMaps.keyOf_string_mk Try.underlying9 (by unfold maxLen; omega)
def ski (i : Int) : DataW Unit := .lit (.int .i64 i)

theorem bytes_of_lit {a b : ByteArray} (h : Lit.string a.data.toList = .string b.data.toList) : a = b := by
  injection h with h
  exact ByteArray.ext (Array.toList_inj.1 h)

/-- Block b is a map from strings to ints, which gives m, 0 where nothing is. -/
def SMap (w : World) (b n : Nat) (m : ByteArray → Int) : Prop :=
  ∃ D : DataW Unit, w.ownsMap Try.prog 9 (plainElem Try.prog 3) b n D ∧ ∀ x : ByteArray, D.atKey (.string x.data.toList) (ski 0) = ski (m x)

def sput (m : ByteArray → Int) (x : ByteArray) (y : Int) : ByteArray → Int := fun k => if k = x then y else m k

section
variable {w w1 : World} {b n : Nat} {m : ByteArray → Int}
theorem SMap.new (w : World) : SMap (w.alloc (.map #[] 0)) w.heap.size 0 (fun _ => 0) := ⟨.map [], World.ownsMap_made _ _ _ _, fun x => rfl⟩
theorem SMap.lt (h : SMap w b n m) : b < w.heap.size := by obtain ⟨D, h, _⟩ := h; exact h.lt
theorem SMap.only (h : SMap w b n m) {r : Option Nat} (hg : w.grownBy w1 r) (hne : some b ≠ r) : SMap w1 b n m := by
  obtain ⟨D, h, hD⟩ := h
  exact ⟨D, h.kept hg hne, hD⟩
theorem SMap.below (h : SMap w b n m) (hb : Below w.heap.size w w1) : SMap w1 b n m := h.only (only_below hb none) (by simp)
theorem SMap.alloc (h : SMap w b n m) (o : Obj) : SMap (w.alloc o) b n m := h.below (below_new w o)
theorem SMap.look (h : SMap w b n m) {x : ByteArray} (hx : x.size ≤ 9223372036854775807) : (Instr.lookup 62 (.map (some b)) (.string x) false).run Try.prog w = .ok (.int .i64 (m x)) w := by
  obtain ⟨D, h, hD⟩ := h
  have hz : (zeroValue 3).run Try.prog w = .ok (.int .i64 0) w := by kernel_rfl
  obtain ⟨c, hrun, hat, _⟩ := h.lookup_int strKey Try.underlying62 Try.underlying3 hz (strKey_mk hx)
  have e := hD x
  unfold ski at e
  rw [hat] at e
  simp only [DataW.lit.injEq, Lit.int.injEq, true_and] at e
  rw [hrun, e]
theorem SMap.put (h : SMap w b n m) (hn : n ≤ 1099511627776) {x : ByteArray} (hx : x.size ≤ 9223372036854775807) (y : Int) (hy : (Lit.int .i64 y).wf = true) :
    ∃ w', (Instr.mapUpdate 62 (.map (some b)) (.string x) (.int .i64 y)).run Try.prog w = .ok () w' ∧ SMap w' b (n + 1) (sput m x y) ∧ w.grownBy w' (some b) := by
  obtain ⟨D, h, hD⟩ := h
  obtain ⟨w', hrun, h1, h2⟩ := h.update strKey Try.underlying62 (by unfold maxLen; omega) (strKey_mk hx) (plainElem_int Try.underlying3 hy)
  refine ⟨w', hrun, ⟨_, h1, fun k => ?_⟩, h2⟩
  unfold sput
  by_cases e : k = x
  · subst e
    rw [if_pos rfl]
    exact Maps.atKey_put_same h.isMap (by trivial) _ _
  · rw [if_neg e]
    have hne : (Lit.string k.data.toList) ≠ .string x.data.toList := fun h => e (bytes_of_lit h)
    rw [Maps.atKey_put_other hne]
    exact hD k
theorem SMap.drop (h : SMap w b n m) {x : ByteArray} (hx : x.size ≤ 9223372036854775807) (hz : m x = 0) (ty : TypeId) :
    ∃ w', (Builtin.delete_ #[62, 9] ty #[.map (some b), .string x]).run Try.prog w = .ok (.tuple #[]) w' ∧ SMap w' b n m ∧ w.grownBy w' (some b) := by
  obtain ⟨D, h, hD⟩ := h
  obtain ⟨w', hrun, h1, h2⟩ := h.drop strKey Try.underlying62 (strKey_mk hx) ty
  refine ⟨w', hrun, ⟨_, h1, fun k => ?_⟩, h2.grown⟩
  by_cases e : k = x
  · subst e
    rw [Maps.atKey_del_same, hz]
  · have hne : (Lit.string k.data.toList) ≠ .string x.data.toList := fun h => e (bytes_of_lit h)
    rw [Maps.atKey_del_other hne]
    exact hD k
end

theorem wpList_sput (w : World) {ops : Array Oper} {rest : List Oper} {o : Oper} {a : Act} {Q : Exit → Act → World → Prop} (hg : o.guard = none) (mo xo vo : Operand) (hop : o.op = Op.mapUpdate 62 mo xo vo)
    (b n : Nat) (m : ByteArray → Int) (h : SMap w b n m) (hn : n ≤ 1099511627776) (x : ByteArray) (hx : x.size ≤ 9223372036854775807) (y : Int) (hy : (Lit.int .i64 y).wf = true)
    (h1 : a.eval mo = .map (some b)) (h2 : a.eval xo = .string x) (h3 : a.eval vo = .int .i64 y)
    (hK : ∀ w', SMap w' b (n + 1) (sput m x y) → w.grownBy w' (some b) → wpList Try.prog ops Q rest (a.put o.dst undef) w') :
    wpList Try.prog ops Q (o :: rest) a w := by
  refine wpList_plain hg fun K' hK' => ?_
  obtain ⟨w', hrun, r1, r2⟩ := h.put hn hx y hy
  unfold Oper.wp
  simp [execOp, hop, h1, h2, h3, hrun, Result.andThen]
  exact hK' _ _ (hK w' r1 r2)
theorem wpList_sdrop (w : World) {ops : Array Oper} {rest : List Oper} {o : Oper} {a : Act} {Q : Exit → Act → World → Prop} (hg : o.guard = none) (mo xo : Operand) (hop : o.op = Op.call { callee := Callee.builtin Builtin.delete, args := #[mo, xo], argTypes := #[62, 9] })
    (b n : Nat) (m : ByteArray → Int) (h : SMap w b n m) (x : ByteArray) (hx : x.size ≤ 9223372036854775807) (hz : m x = 0)
    (h1 : a.eval mo = .map (some b)) (h2 : a.eval xo = .string x)
    (hK : ∀ w', SMap w' b n m → w.grownBy w' (some b) → wpList Try.prog ops Q rest (a.put o.dst (.tuple #[])) w') :
    wpList Try.prog ops Q (o :: rest) a w := by
  refine wpList_plain hg fun K' hK' => ?_
  obtain ⟨w', hrun, r1, r2⟩ := h.drop hx hz o.type
  unfold Oper.wp
  simp [execOp, hop, resolve, invoke, builtin, h1, h2, hrun, Result.andThen]
  exact hK' _ _ (hK w' r1 r2)
end Go.Proofs.Ytpidjgljeooblaa
