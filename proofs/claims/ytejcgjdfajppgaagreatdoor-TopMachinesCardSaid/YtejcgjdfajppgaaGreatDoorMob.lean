/-
  Arguments that read: a slice of jobs; a slice of numbers with its capacity.
-/
import Derived.Test.YtejcgjdfajppgaaGreatDoorOpn
import Derived.Test.YtejcgjdfajppgaaGreatDoorMwk
import Derived.Test.YtejcgjdfajppgaaGreatDoorMva
import Derived.Lib.SmallJoins
namespace Go.Proofs.YtejcgjdfajppgaaGreatDoor
open Go.ChangeShapes Go.WideShapes Go.Deep Go.RowKit
set_option linter.unusedVariables false
set_option maxRecDepth 100000

instance : Inhabited WkD := ⟨⟨⟨#[]⟩, 0, 0⟩⟩

section
variable {H : Type} {enc : TypeId × Value → H} {w : World} {sp : Nat → Bool} {held : Bool}

theorem cells_intW : Tryz.prog.cellsOf 3 = 1 := by kernel_rfl
theorem cells_stringW : Tryz.prog.cellsOf 9 = 1 := by kernel_rfl
theorem cells_wk : Tryz.prog.cellsOf 27 = 3 := by kernel_rfl
theorem read_wk {fuel : Nat} {cs : List Value} {x : DataW H × List MemPlace} (h : DataW.trod enc Tryz.prog w 0 sp held fuel 27 cs = some x) :
    ∃ b : WkD, cs = wkCells b ∧ b.mark.size ≤ maxLen := by
  obtain ⟨xs, n, _, rfl, hlen, hxl, hf⟩ := DataW.trod_struct Tryz.underlying27 h
  rw [cells_wk] at hlen
  match cs, hlen with
  | [c0, c1, c2], _ =>
    match xs, hxl with
    | [x0, x1, x2], _ =>
      have h0 : DataW.trod enc Tryz.prog w 0 sp held n 9 ((List.drop 0 [c0, c1, c2]).take (Tryz.prog.cellsOf 9)) = some x0 := hf 0 _ rfl
      have h1 : DataW.trod enc Tryz.prog w 0 sp held n 3 ((List.drop 1 [c0, c1, c2]).take (Tryz.prog.cellsOf 3)) = some x1 := hf 1 _ rfl
      have h2 : DataW.trod enc Tryz.prog w 0 sp held n 3 ((List.drop 2 [c0, c1, c2]).take (Tryz.prog.cellsOf 3)) = some x2 := hf 2 _ rfl
      rw [cells_stringW] at h0
      rw [cells_intW] at h1 h2
      obtain ⟨a, e0, _, g0⟩ := DataW.trod_string Tryz.underlying9 h0
      obtain ⟨c, e1, _⟩ := DataW.trod_int Tryz.underlying3 h1
      obtain ⟨d, e2, _⟩ := DataW.trod_int Tryz.underlying3 h2
      cases e0
      cases e1
      cases e2
      exact ⟨⟨a, c, d⟩, rfl, g0⟩
theorem choose_wks {n : Nat} {p : Nat → WkD → Prop} (h : ∀ i, i < n → ∃ b, p i b) : ∃ f : Nat → WkD, ∀ i, i < n → p i (f i) := by
  classical
  exact ⟨fun i => if hi : i < n then (h i hi).choose else default, fun i hi => by simp only [hi, dite_true]; exact (h i hi).choose_spec⟩

theorem open_wks {v : Value} {d : DataW H} {ps : List MemPlace} (hv : ∃ a len cap, v = .slice a len cap) (h : DataW.Trod enc Tryz.prog w 0 sp held 22 v d ps) :
    ∃ (l : List WkD) (ao : Option Addr) (cap : Nat), v = .slice ao l.length cap ∧ Wks w (.slice ao l.length cap) l ∧ Elems d l.length ∧ FitW l ∧ l.length ≤ cap := by
  obtain ⟨a0, len0, cap0, rfl⟩ := hv
  obtain ⟨fuel, hf⟩ := h
  rcases open_slice Tryz.underlying22 hf with ⟨hcs, hx⟩ | ⟨a, len, cap, m, n, D, Pl, hcs, _, hl, hm, hmm, hx, hall⟩
  · simp [Value.cells] at hcs
    obtain ⟨rfl, rfl, rfl⟩ := hcs
    simp only [Prod.mk.injEq] at hx
    exact ⟨[], none, 0, rfl, Fl.nil _ _ _ _ _, .inl ⟨hx.1, rfl⟩, (fun b hb => by cases hb), Nat.le_refl _⟩
  · simp [Value.cells] at hcs
    obtain ⟨rfl, rfl, rfl⟩ := hcs
    simp only [Prod.mk.injEq] at hx
    have hle : len0 ≤ m := by rw [hmm]; split <;> omega
    have each : ∀ i, i < len0 → ∃ r : WkD, (∀ j u, (wkCells r)[j]? = some u → w.cell? (a.add (i * 3 + j)) = some u) ∧ r.mark.size ≤ maxLen := by
      intro i hi
      obtain ⟨cs', h1, h2⟩ := hall i (by omega)
      rw [cells_wk] at h1
      obtain ⟨r, rfl, hM⟩ := read_wk h2
      obtain ⟨_, hlen, hcell⟩ := World.cells?_some h1
      refine ⟨r, fun j u hj => ?_, hM⟩
      have hj1 : j < 3 := (List.getElem?_eq_some_iff.1 hj).1
      have e := hcell j hj1
      rw [add_add] at e
      exact e.trans hj
    obtain ⟨f, hf⟩ := choose_wks each
    have hlen : ((List.range len0).map f).length = len0 := by simp
    refine ⟨(List.range len0).map f, some a, cap0, by rw [hlen], ?_, .inr ⟨_, _, hx.1, by simp⟩, fun b hb => by
      obtain ⟨i, hi, rfl⟩ := List.mem_map.1 hb
      exact (hf i (List.mem_range.1 hi)).2, by rw [hlen]; exact hl⟩
    refine ⟨some a, cap0, rfl, fun hl0 => ?_⟩
    have hl1 : 0 < len0 := by simpa using hl0
    obtain ⟨b, off, spot⟩ := a
    have h0 := (hf 0 hl1).1 0 _ rfl
    have hspot : spot = none := by simpa [Addr.add] using World.cell?_spot h0
    subst hspot
    refine ⟨b, off, rfl, by simpa [Addr.add] using cell_lt h0, fun k x hk j u hj => ?_⟩
    have hk1 : k < len0 := by have := (List.getElem?_eq_some_iff.1 hk).1; simpa using this
    rw [List.getElem?_map, List.getElem?_range hk1] at hk
    cases hk
    have g := (hf k hk1).1 j u hj
    rw [add_plain, ← Nat.add_assoc] at g
    exact g
theorem open_capI {t e : TypeId} {k : IntKind} {P : Program} {v : Value} {d : DataW H} {ps : List MemPlace} (ht : P.underlying t = some (.slice e)) (he : P.underlying e = some (.int k)) (hc : P.cellsOf e = 1) (hv : ∃ a len cap, v = .slice a len cap)
    (h : DataW.Trod enc P w 0 sp held t v d ps) : ∃ a n c, v = .slice a n c ∧ n ≤ c := by
  obtain ⟨a0, len0, cap0, rfl⟩ := hv
  obtain ⟨fuel, hf⟩ := h
  rcases open_ints ht he hc hf with ⟨hcs, hx⟩ | ⟨a, len, cap, zs, hcs, _, hl, hm, hz, hx, hcell, hwz⟩
  · simp [Value.cells] at hcs
    obtain ⟨rfl, rfl, rfl⟩ := hcs
    exact ⟨none, 0, 0, rfl, Nat.le_refl _⟩
  · simp [Value.cells] at hcs
    obtain ⟨rfl, rfl, rfl⟩ := hcs
    exact ⟨_, _, _, rfl, hl⟩
end
end Go.Proofs.YtejcgjdfajppgaaGreatDoor
