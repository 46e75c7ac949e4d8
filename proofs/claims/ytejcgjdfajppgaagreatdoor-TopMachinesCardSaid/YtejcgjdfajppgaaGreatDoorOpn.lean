/-
  Base texts, shaken by wip/shake.py: Opn.
-/
import Derived.OpenShut
import Derived.ChangeSlices
import Derived.Deep.Slices
import Derived.SizedLaws
import Derived.Test.YtejcgjdfajppgaaGreatDoorKmm
namespace Go.Proofs.YtejcgjdfajppgaaGreatDoor
section
open Go.ChangeShapes Go.WideShapes Go.Deep
set_option linter.unusedVariables false

section
variable {H : Type} {enc : TypeId × Value → H} {P : Program} {w : World} {sp : Nat → Bool} {held : Bool}

/-- A slice's datum has so many elements. -/
def Elems (d : DataW H) (n : Nat) : Prop := (d = .nil ∧ n = 0) ∨ ∃ elems spare, d = .slice elems spare ∧ elems.length = n
theorem Elems.le {d : DataW H} {n : Nat} (h : Elems d n) {ts : List TypeId} {ds : List (DataW H)} (hs : (DataW.weightsEach P ts ds).all (· ≤ reachBytes) = true) (j : Nat) (t e b : Nat) (ht : ts[j]? = some t) (hd : ds[j]? = some d) (hu : P.underlying t = some (.slice e)) (hb : P.bytesOf e = b) (b1 : 1 ≤ b) : n * b ≤ 140737488351232 := by
  rcases h with ⟨rfl, rfl⟩ | ⟨elems, spare, rfl, rfl⟩
  · simp
  · have := sized_slice hs ht hd hu
    rw [hb] at this
    unfold reachBytes at this
    have h2 : elems.length * b ≤ (elems.length + spare.length) * b := Nat.mul_le_mul_right _ (by omega)
    omega

theorem cell_lt {w : World} {a : Addr} {v : Value} (h : w.cell? a = some v) : a.block < w.heap.size := by
  unfold World.cell? at h
  split at h
  · rename_i c t fr hb
    exact (Array.getElem?_eq_some_iff.1 hb).1
  · cases h

theorem open_sl {t e : TypeId} {k : IntKind} {v : Value} {d : DataW H} {ps : List MemPlace} (ht : P.underlying t = some (.slice e)) (he : P.underlying e = some (.int k)) (hc : P.cellsOf e = 1) (hv : ∃ a len cap, v = .slice a len cap)
    (h : DataW.Trod enc P w 0 sp held t v d ps) : ∃ l : List Int, Sl w (fun x : Int => .int k x) v l ∧ Elems d l.length ∧ ∀ x ∈ l, (Lit.int k x).wf = true := by
  obtain ⟨a0, len0, cap0, rfl⟩ := hv
  obtain ⟨fuel, hf⟩ := h
  rcases open_ints ht he hc hf with ⟨hcs, hx⟩ | ⟨a, len, cap, zs, hcs, _, hl, hm, hz, hx, hcell, hwz⟩
  · simp [Value.cells] at hcs
    obtain ⟨rfl, rfl, rfl⟩ := hcs
    simp only [Prod.mk.injEq] at hx
    exact ⟨[], Sl.nil _ _ _ _, .inl ⟨hx.1, rfl⟩, by simp⟩
  · simp [Value.cells] at hcs
    obtain ⟨rfl, rfl, rfl⟩ := hcs
    have hle : len0 ≤ zs.length := by rw [hz]; split <;> omega
    have htl : (zs.take len0).length = len0 := by simp; omega
    refine ⟨zs.take len0, ⟨_, cap0, by rw [htl], fun hl0 => ?_⟩, by simp only [Prod.mk.injEq] at hx; exact .inr ⟨_, _, hx.1, by simp [lits]⟩, fun x hx => hwz x (List.mem_of_mem_take hx)⟩
    rw [htl] at hl0
    obtain ⟨b, off, spot⟩ := a
    have h0 := hcell 0 (by omega)
    have hspot : spot = none := by simpa [Addr.add] using World.cell?_spot h0
    subst hspot
    refine ⟨b, off, rfl, by simpa [Addr.add] using cell_lt h0, fun j x hj => ?_⟩
    have hj1 : j < len0 := by have := (List.getElem?_eq_some_iff.1 hj).1; rw [htl] at this; exact this
    rw [List.getElem?_take_of_lt hj1] at hj
    have := hcell j (by omega)
    rw [add_plain] at this
    rw [this]
    simp [List.getD, hj]

theorem two_ints {e q : TypeId} {k : IntKind} {fuel : Nat} {cs : List Value} {x : DataW H × List MemPlace} (he : P.underlying e = some (.array 2 q)) (hq : P.underlying q = some (.int k)) (ce : P.cellsOf e = 2) (cq : P.cellsOf q = 1)
    (h : DataW.trod enc P w 0 sp held fuel e cs = some x) : ∃ a b : Int, cs = [.int k a, .int k b] := by
  obtain ⟨xs, m, rfl, rfl, hl, hxl, hx⟩ := DataW.trod_array he h
  rw [ce] at hl
  match cs, hl with
  | [c0, c1], _ =>
    have h0 := hx 0 (by omega)
    have h1 := hx 1 (by omega)
    rw [List.getElem?_eq_getElem (by omega)] at h0 h1
    rw [cq] at h0 h1
    simp at h0 h1
    obtain ⟨a, ha, _⟩ := DataW.trod_int hq h0
    obtain ⟨b, hb, _⟩ := DataW.trod_int hq h1
    cases ha; cases hb
    exact ⟨a, b, rfl⟩

theorem open_pairs {t e q : TypeId} {v : Value} {d : DataW H} {ps : List MemPlace} (ht : P.underlying t = some (.slice e)) (he : P.underlying e = some (.array 2 q)) (hq : P.underlying q = some (.int .i64)) (ce : P.cellsOf e = 2) (cq : P.cellsOf q = 1) (hv : ∃ a len cap, v = .slice a len cap)
    (h : DataW.Trod enc P w 0 sp held t v d ps) : ∃ l : List (Int × Int), Pairs w v l ∧ Elems d l.length := by
  obtain ⟨a0, len0, cap0, rfl⟩ := hv
  obtain ⟨fuel, hf⟩ := h
  rcases open_slice ht hf with ⟨hcs, hx⟩ | ⟨a, len, cap, m, n, D, Pl, hcs, _, hl, hm, hmm, hx, hall⟩
  · simp [Value.cells] at hcs
    obtain ⟨rfl, rfl, rfl⟩ := hcs
    simp only [Prod.mk.injEq] at hx
    exact ⟨[], ⟨none, 0, rfl, fun h => absurd h (by simp)⟩, .inl ⟨hx.1, rfl⟩⟩
  · simp [Value.cells] at hcs
    obtain ⟨rfl, rfl, rfl⟩ := hcs
    have hle : len0 ≤ m := by rw [hmm]; split <;> omega
    have each : ∀ i, i < len0 → ∃ q : Int × Int, w.cell? (a.add (i * 2)) = some (.int .i64 q.1) ∧ w.cell? (a.add (i * 2 + 1)) = some (.int .i64 q.2) := by
      intro i hi
      obtain ⟨cs', h1, h2⟩ := hall i (by omega)
      rw [ce] at h1
      obtain ⟨x, y, rfl⟩ := two_ints he hq ce cq h2
      obtain ⟨_, hlen, hcell⟩ := World.cells?_some h1
      have e0 := hcell 0 (by omega)
      have e1 := hcell 1 (by omega)
      rw [add_add] at e0 e1
      exact ⟨(x, y), by simpa using e0, by simpa using e1⟩
    obtain ⟨f, hf⟩ := choose_lt each
    refine ⟨(List.range len0).map f, ⟨some a, cap0, by simp, fun hl0 => ?_⟩, by simp only [Prod.mk.injEq] at hx; exact .inr ⟨_, _, hx.1, by simp⟩⟩
    have hl1 : 0 < len0 := by simpa using hl0
    obtain ⟨b, off, spot⟩ := a
    have h0 := (hf 0 hl1).1
    have hspot : spot = none := by simpa [Addr.add] using World.cell?_spot h0
    subst hspot
    refine ⟨b, off, rfl, by simpa [Addr.add] using cell_lt h0, fun j x hj => ?_⟩
    have hj1 : j < len0 := by have := (List.getElem?_eq_some_iff.1 hj).1; simpa using this
    rw [List.getElem?_map, List.getElem?_range hj1] at hj
    cases hj
    have h1 := hf j hj1
    rw [add_plain, add_plain] at h1
    exact ⟨h1.1, by have := h1.2; rw [← Nat.add_assoc] at this; exact this⟩
end
end
end Go.Proofs.YtejcgjdfajppgaaGreatDoor
