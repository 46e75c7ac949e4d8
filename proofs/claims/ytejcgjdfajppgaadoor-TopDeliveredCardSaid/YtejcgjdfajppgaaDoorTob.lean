/-
  Arguments that read: a slice of bundles.
-/
import Derived.Test.YtejcgjdfajppgaaDoorOpn
import Derived.Test.YtejcgjdfajppgaaDoorTbu
import Derived.Lib.SmallJoins
namespace Go.Proofs.YtejcgjdfajppgaaDoor
open Go.ChangeShapes Go.WideShapes Go.Deep Go.RowKit
set_option linter.unusedVariables false
set_option maxRecDepth 100000

instance : Inhabited BunD := ⟨⟨⟨#[]⟩, ⟨#[]⟩, 0, 0⟩⟩

section
variable {H : Type} {enc : TypeId × Value → H} {w : World} {sp : Nat → Bool} {held : Bool}

theorem cells_intU : Tryd.prog.cellsOf 3 = 1 := by kernel_rfl
theorem cells_stringU : Tryd.prog.cellsOf 9 = 1 := by kernel_rfl
theorem cells_bun : Tryd.prog.cellsOf 40 = 4 := by kernel_rfl
theorem read_bun {fuel : Nat} {cs : List Value} {x : DataW H × List MemPlace} (h : DataW.trod enc Tryd.prog w 0 sp held fuel 40 cs = some x) :
    ∃ b : BunD, cs = bunCells b ∧ b.tag.size ≤ maxLen ∧ b.mark.size ≤ maxLen := by
  obtain ⟨xs, n, _, rfl, hlen, hxl, hf⟩ := DataW.trod_struct Tryd.underlying40 h
  rw [cells_bun] at hlen
  match cs, hlen with
  | [c0, c1, c2, c3], _ =>
    match xs, hxl with
    | [x0, x1, x2, x3], _ =>
      have h0 : DataW.trod enc Tryd.prog w 0 sp held n 9 ((List.drop 0 [c0, c1, c2, c3]).take (Tryd.prog.cellsOf 9)) = some x0 := hf 0 _ rfl
      have h1 : DataW.trod enc Tryd.prog w 0 sp held n 9 ((List.drop 1 [c0, c1, c2, c3]).take (Tryd.prog.cellsOf 9)) = some x1 := hf 1 _ rfl
      have h2 : DataW.trod enc Tryd.prog w 0 sp held n 3 ((List.drop 2 [c0, c1, c2, c3]).take (Tryd.prog.cellsOf 3)) = some x2 := hf 2 _ rfl
      have h3 : DataW.trod enc Tryd.prog w 0 sp held n 3 ((List.drop 3 [c0, c1, c2, c3]).take (Tryd.prog.cellsOf 3)) = some x3 := hf 3 _ rfl
      rw [cells_stringU] at h0 h1
      rw [cells_intU] at h2 h3
      obtain ⟨a, e0, _, g0⟩ := DataW.trod_string Tryd.underlying9 h0
      obtain ⟨b, e1, _, g1⟩ := DataW.trod_string Tryd.underlying9 h1
      obtain ⟨c, e2, _⟩ := DataW.trod_int Tryd.underlying3 h2
      obtain ⟨d, e3, _⟩ := DataW.trod_int Tryd.underlying3 h3
      cases e0
      cases e1
      cases e2
      cases e3
      exact ⟨⟨a, b, c, d⟩, rfl, g0, g1⟩
theorem choose_buns {n : Nat} {p : Nat → BunD → Prop} (h : ∀ i, i < n → ∃ b, p i b) : ∃ f : Nat → BunD, ∀ i, i < n → p i (f i) := by
  classical
  exact ⟨fun i => if hi : i < n then (h i hi).choose else default, fun i hi => by simp only [hi, dite_true]; exact (h i hi).choose_spec⟩

theorem open_buns {v : Value} {d : DataW H} {ps : List MemPlace} (hv : ∃ a len cap, v = .slice a len cap) (h : DataW.Trod enc Tryd.prog w 0 sp held 22 v d ps) :
    ∃ l : List BunD, Buns w v l ∧ Elems d l.length ∧ FitU l := by
  obtain ⟨a0, len0, cap0, rfl⟩ := hv
  obtain ⟨fuel, hf⟩ := h
  rcases open_slice Tryd.underlying22 hf with ⟨hcs, hx⟩ | ⟨a, len, cap, m, n, D, Pl, hcs, _, hl, hm, hmm, hx, hall⟩
  · simp [Value.cells] at hcs
    obtain ⟨rfl, rfl, rfl⟩ := hcs
    simp only [Prod.mk.injEq] at hx
    exact ⟨[], Fl.nil _ _ _ _ _, .inl ⟨hx.1, rfl⟩, fun b hb => by cases hb⟩
  · simp [Value.cells] at hcs
    obtain ⟨rfl, rfl, rfl⟩ := hcs
    simp only [Prod.mk.injEq] at hx
    have hle : len0 ≤ m := by rw [hmm]; split <;> omega
    have each : ∀ i, i < len0 → ∃ r : BunD, (∀ j u, (bunCells r)[j]? = some u → w.cell? (a.add (i * 4 + j)) = some u) ∧ r.tag.size ≤ maxLen ∧ r.mark.size ≤ maxLen := by
      intro i hi
      obtain ⟨cs', h1, h2⟩ := hall i (by omega)
      rw [cells_bun] at h1
      obtain ⟨r, rfl, hM⟩ := read_bun h2
      obtain ⟨_, hlen, hcell⟩ := World.cells?_some h1
      refine ⟨r, fun j u hj => ?_, hM⟩
      have hj1 : j < 4 := (List.getElem?_eq_some_iff.1 hj).1
      have e := hcell j hj1
      rw [add_add] at e
      exact e.trans hj
    obtain ⟨f, hf⟩ := choose_buns each
    refine ⟨(List.range len0).map f, ⟨some a, cap0, by simp, fun hl0 => ?_⟩, .inr ⟨_, _, hx.1, by simp⟩, fun b hb => by
      obtain ⟨i, hi, rfl⟩ := List.mem_map.1 hb
      exact (hf i (List.mem_range.1 hi)).2⟩
    have hl1 : 0 < len0 := by simpa using hl0
    obtain ⟨b, off, spot⟩ := a
    have h0 := (hf 0 hl1).1 0 _ rfl
    have hspot : spot = none := by simpa [Addr.add] using World.cell?_spot h0
    subst hspot
    refine ⟨b, off, rfl, by simpa [Addr.add] using cell_lt h0, fun k x hk j u hj => ?_⟩
    have hk1 : k < len0 := by have := (List.getElem?_eq_some_iff.1 hk).1; simpa using this
    rw [List.getElem?_map, List.getElem?_range hk1] at hk
    cases hk
    have g := (hf k hk1).1 j u hj
    rw [add_plain, ← Nat.add_assoc] at g
    exact g
end
end Go.Proofs.YtejcgjdfajppgaaDoor
