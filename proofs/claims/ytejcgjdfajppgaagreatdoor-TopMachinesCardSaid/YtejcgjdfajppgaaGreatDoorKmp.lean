/-
  Base texts, shaken by wip/shake.py: Bxm.
-/
import Derived.Deep.RegionHeld3
import Derived.Deep.DrawnRows
import Derived.Maps.Own
import Derived.Maps.OwnOps
import Derived.Maps.OwnSet
import Derived.StringKeys
import Derived.Test.YtejcgjdfajppgaaGreatDoorKld
import Derived.Test.YtejcgjdfajppgaaGreatDoorKmm
namespace Go.Proofs.YtejcgjdfajppgaaGreatDoor
section
section
open Go.RowKit
set_option linter.unusedVariables false
set_option linter.unusedSimpArgs false
attribute [local go_sem ↓] Go.wp_at_zero Go.wp_at_succ

abbrev bxCellsA (b : Bx) : Array Value := #[.int .i64 b.lo.x, .int .i64 b.lo.y, .int .i64 b.lo.z, .int .i64 b.hi.x, .int .i64 b.hi.y, .int .i64 b.hi.z]

end

section
open Go.RowKit
set_option linter.unusedVariables false
set_option linter.unusedSimpArgs false

end

section
open Go.RowKit
set_option linter.unusedVariables false
set_option linter.unusedSimpArgs false

end

section
section
open Go.RowKit
set_option linter.unusedVariables false
set_option linter.unusedSimpArgs false

end

section
open Go.RowKit
set_option linter.unusedVariables false
set_option linter.unusedSimpArgs false

end
end

section
section
open Go.RowKit Go.Maps
set_option linter.unusedVariables false
set_option linter.unusedSimpArgs false

theorem strKey : Keyed Tryz.prog 9 := string_keyed Tryz.underlying9
theorem strKey_mk {s : ByteArray} (h : s.size ≤ 9223372036854775807) : keyOf Tryz.prog 9 (.string s) = some (.string s.data.toList) := Go.WideMaps.keyOf_string_mk Tryz.underlying9 (by unfold maxLen; omega)
def ski (i : Int) : DataW Unit := .lit (.int .i64 i)

theorem bytes_of_lit {a b : ByteArray} (h : Lit.string a.data.toList = .string b.data.toList) : a = b := by
  injection h with h
  exact ByteArray.ext (Array.toList_inj.1 h)

/-- Block b is a map from strings to ints, which gives m, 0 where nothing is. -/
def SMap (w : World) (b n : Nat) (m : ByteArray → Int) : Prop :=
  ∃ D : DataW Unit, w.ownsMap Tryz.prog 9 (plainElem Tryz.prog 3) b n D ∧ ∀ x : ByteArray, D.atKey (.string x.data.toList) (ski 0) = ski (m x)

def sput (m : ByteArray → Int) (x : ByteArray) (y : Int) : ByteArray → Int := fun k => if k = x then y else m k

section
variable {w w1 : World} {b n : Nat} {m : ByteArray → Int}
theorem SMap.new (w : World) : SMap (w.alloc (.map #[] 0)) w.heap.size 0 (fun _ => 0) := ⟨.map [], World.ownsMap_made _ _ _ _, fun x => rfl⟩
theorem SMap.lt (h : SMap w b n m) : b < w.heap.size := by obtain ⟨D, h, _⟩ := h; exact h.lt
theorem SMap.only (h : SMap w b n m) {r : Option Nat} (hg : w.grownBy w1 r) (hne : some b ≠ r) : SMap w1 b n m := by
  obtain ⟨D, h, hD⟩ := h
  exact ⟨D, h.kept hg hne, hD⟩
theorem SMap.below (h : SMap w b n m) (hb : Below w.heap.size w w1) : SMap w1 b n m := h.only (only_below hb none) (by simp)
theorem SMap.alloc (h : SMap w b n m) (o : Obj) : SMap (w.alloc o) b n m := h.below (below_new w o)
theorem SMap.put (h : SMap w b n m) (hn : n ≤ 1099511627776) {x : ByteArray} (hx : x.size ≤ 9223372036854775807) (y : Int) (hy : (Lit.int .i64 y).wf = true) :
    ∃ w', (Instr.mapUpdate 81 (.map (some b)) (.string x) (.int .i64 y)).run Tryz.prog w = .ok () w' ∧ SMap w' b (n + 1) (sput m x y) ∧ w.grownBy w' (some b) := by
  obtain ⟨D, h, hD⟩ := h
  obtain ⟨w', hrun, h1, h2⟩ := h.update strKey Tryz.underlying81 (by unfold maxLen; omega) (strKey_mk hx) (plainElem_int Tryz.underlying3 hy)
  refine ⟨w', hrun, ⟨_, h1, fun k => ?_⟩, h2⟩
  unfold sput
  by_cases e : k = x
  · subst e
    rw [if_pos rfl]
    exact Maps.atKey_put_same h.isMap (by trivial) _ _
  · rw [if_neg e]
    have hne : (Lit.string k.data.toList) ≠ .string x.data.toList := fun h => e (bytes_of_lit h)
    rw [Maps.atKey_put_other hne]
    exact hD k
theorem SMap.drop (h : SMap w b n m) {x : ByteArray} (hx : x.size ≤ 9223372036854775807) (hz : m x = 0) (ty : TypeId) :
    ∃ w', (Builtin.delete_ #[81, 9] ty #[.map (some b), .string x]).run Tryz.prog w = .ok (.tuple #[]) w' ∧ SMap w' b n m ∧ w.grownBy w' (some b) := by
  obtain ⟨D, h, hD⟩ := h
  obtain ⟨w', hrun, h1, h2⟩ := h.drop strKey Tryz.underlying81 (strKey_mk hx) ty
  refine ⟨w', hrun, ⟨_, h1, fun k => ?_⟩, h2.grown⟩
  by_cases e : k = x
  · subst e
    rw [Maps.atKey_del_same, hz]
  · have hne : (Lit.string k.data.toList) ≠ .string x.data.toList := fun h => e (bytes_of_lit h)
    rw [Maps.atKey_del_other hne]
    exact hD k
end

end

section
open Go.RowKit
set_option linter.unusedVariables false
set_option linter.unusedSimpArgs false

structure BalW (w : World) (B n : Nat) (m : ByteArray → Int) (wr : World) : Prop where
  below : Below w.heap.size w wr
  map : SMap wr B n m
  far : w.heap.size ≤ B
theorem BalW.alloc {w wr : World} {B n : Nat} {m : ByteArray → Int} (h : BalW w B n m wr) (o : Obj) : BalW w B n m (wr.alloc o) := ⟨h.below.alloc h.below.size o, h.map.alloc o, h.far⟩
theorem BalW.step {w wr w' : World} {B n n' : Nat} {m m' : ByteArray → Int} (h : BalW w B n m wr) (hm : SMap w' B n' m') (hg : wr.grownBy w' (some B)) : BalW w B n' m' w' :=
  ⟨h.below.grown hg h.below.size (fun j hj => by cases hj; exact h.far), hm, h.far⟩
theorem BalW.push {w wr w' : World} {B n : Nat} {m : ByteArray → Int} {r : Option Nat} (h : BalW w B n m wr) (hg : wr.grownBy w' r) (hr : ∀ g, r = some g → B + 1 ≤ g) : BalW w B n m w' :=
  ⟨h.below.grown hg h.below.size (fun j hj => by have := hr j hj; have := h.far; omega), h.map.only hg (fun e => by have := hr B e.symm; omega), h.far⟩

end
end
end
end Go.Proofs.YtejcgjdfajppgaaGreatDoor
