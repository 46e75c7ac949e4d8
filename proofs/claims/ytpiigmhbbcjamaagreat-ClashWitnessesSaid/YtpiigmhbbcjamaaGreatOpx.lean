/-
  Arguments that read: slices of boxes; a clash.
-/
import Derived.Test.YtpiigmhbbcjamaaGreatOpB
import Derived.Test.YtpiigmhbbcjamaaGreatClp
namespace Go.Proofs.YtpiigmhbbcjamaaGreat
open Go.ChangeShapes Go.WideShapes Go.Deep Go.RowKit
set_option linter.unusedVariables false
set_option maxRecDepth 100000

instance : Inhabited Bx := ⟨⟨⟨0, 0, 0⟩, ⟨0, 0, 0⟩⟩⟩

section
variable {H : Type} {enc : TypeId × Value → H} {w : World} {sp : Nat → Bool} {held : Bool}

theorem cells_bx : Tryz.prog.cellsOf 96 = 6 := by kernel_rfl
theorem cells_clash : Tryz.prog.cellsOf 45 = 8 := by kernel_rfl
theorem read_bx {fuel : Nat} {cs : List Value} {x : DataW H × List MemPlace} (h : DataW.trod enc Tryz.prog w 0 sp held fuel 96 cs = some x) :
    ∃ b : Bx, cs = bxCells b := by
  obtain ⟨xs, n, _, _, hlen, hxl, hf⟩ := DataW.trod_struct Tryz.underlying96 h
  rw [cells_bx] at hlen
  match cs, hlen with
  | [c0, c1, c2, c3, c4, c5], _ =>
    match xs, hxl with
    | [x0, x1], _ =>
      have h0 : DataW.trod enc Tryz.prog w 0 sp held n 43 ((List.drop 0 [c0, c1, c2, c3, c4, c5]).take (Tryz.prog.cellsOf 43)) = some x0 := hf 0 _ rfl
      have h1 : DataW.trod enc Tryz.prog w 0 sp held n 43 ((List.drop 3 [c0, c1, c2, c3, c4, c5]).take (Tryz.prog.cellsOf 43)) = some x1 := hf 1 _ rfl
      rw [cells_pt] at h0 h1
      obtain ⟨p, e0, _⟩ := read_pt h0
      obtain ⟨q, e1, _⟩ := read_pt h1
      cases e0
      cases e1
      exact ⟨⟨p, q⟩, rfl⟩
theorem open_boxes {v : Value} {d : DataW H} {ps : List MemPlace} (hv : ∃ a len cap, v = .slice a len cap) (h : DataW.Trod enc Tryz.prog w 0 sp held 77 v d ps) :
    ∃ l : List Bx, Bxs w v l ∧ Elems d l.length := by
  obtain ⟨a0, len0, cap0, rfl⟩ := hv
  obtain ⟨fuel, hf⟩ := h
  rcases open_slice Tryz.underlying77 hf with ⟨hcs, hx⟩ | ⟨a, len, cap, m, n, D, Pl, hcs, _, hl, hm, hmm, hx, hall⟩
  · simp [Value.cells] at hcs
    obtain ⟨rfl, rfl, rfl⟩ := hcs
    simp only [Prod.mk.injEq] at hx
    exact ⟨[], Fl.nil _ _ _ _ _, .inl ⟨hx.1, rfl⟩⟩
  · simp [Value.cells] at hcs
    obtain ⟨rfl, rfl, rfl⟩ := hcs
    simp only [Prod.mk.injEq] at hx
    have hle : len0 ≤ m := by rw [hmm]; split <;> omega
    have each : ∀ i, i < len0 → ∃ r : Bx, (∀ j u, (bxCells r)[j]? = some u → w.cell? (a.add (i * 6 + j)) = some u) := by
      intro i hi
      obtain ⟨cs', h1, h2⟩ := hall i (by omega)
      rw [cells_bx] at h1
      obtain ⟨r, rfl⟩ := read_bx h2
      obtain ⟨_, hlen, hcell⟩ := World.cells?_some h1
      refine ⟨r, fun j u hj => ?_⟩
      have hj1 : j < 6 := (List.getElem?_eq_some_iff.1 hj).1
      have e := hcell j hj1
      rw [add_add] at e
      exact e.trans hj
    obtain ⟨f, hf⟩ := choose_lt each
    refine ⟨(List.range len0).map f, ⟨some a, cap0, by simp, fun hl0 => ?_⟩, .inr ⟨_, _, hx.1, by simp⟩⟩
    have hl1 : 0 < len0 := by simpa using hl0
    obtain ⟨b, off, spot⟩ := a
    have h0 := (hf 0 hl1) 0 _ rfl
    have hspot : spot = none := by simpa [Addr.add] using World.cell?_spot h0
    subst hspot
    refine ⟨b, off, rfl, by simpa [Addr.add] using cell_lt h0, fun k x hk j u hj => ?_⟩
    have hk1 : k < len0 := by have := (List.getElem?_eq_some_iff.1 hk).1; simpa using this
    rw [List.getElem?_map, List.getElem?_range hk1] at hk
    cases hk
    have g := (hf k hk1) j u hj
    rw [add_plain, ← Nat.add_assoc] at g
    exact g
theorem read_clash {fuel : Nat} {cs : List Value} {x : DataW H × List MemPlace} (h : DataW.trod enc Tryz.prog w 0 sp held fuel 45 cs = some x) :
    ∃ c : ClD, cs = [.int .i64 c.a, .int .i64 c.b, .int .i64 c.p.x, .int .i64 c.p.y, .int .i64 c.p.z, .int .i64 c.q.x, .int .i64 c.q.y, .int .i64 c.q.z] ∧ (Lit.int .i64 c.a).wf = true ∧ (Lit.int .i64 c.b).wf = true := by
  obtain ⟨xs, n, _, _, hlen, hxl, hf⟩ := DataW.trod_struct Tryz.underlying45 h
  rw [cells_clash] at hlen
  match cs, hlen with
  | [c0, c1, c2, c3, c4, c5, c6, c7], _ =>
    match xs, hxl with
    | [x0, x1, x2, x3], _ =>
      have h0 : DataW.trod enc Tryz.prog w 0 sp held n 3 ((List.drop 0 [c0, c1, c2, c3, c4, c5, c6, c7]).take (Tryz.prog.cellsOf 3)) = some x0 := hf 0 _ rfl
      have h1 : DataW.trod enc Tryz.prog w 0 sp held n 3 ((List.drop 1 [c0, c1, c2, c3, c4, c5, c6, c7]).take (Tryz.prog.cellsOf 3)) = some x1 := hf 1 _ rfl
      have h2 : DataW.trod enc Tryz.prog w 0 sp held n 43 ((List.drop 2 [c0, c1, c2, c3, c4, c5, c6, c7]).take (Tryz.prog.cellsOf 43)) = some x2 := hf 2 _ rfl
      have h3 : DataW.trod enc Tryz.prog w 0 sp held n 43 ((List.drop 5 [c0, c1, c2, c3, c4, c5, c6, c7]).take (Tryz.prog.cellsOf 43)) = some x3 := hf 3 _ rfl
      rw [cells_int] at h0 h1
      rw [cells_pt] at h2 h3
      obtain ⟨a, e0, w0⟩ := read_int h0
      obtain ⟨b, e1, w1⟩ := read_int h1
      obtain ⟨p, e2, _⟩ := read_pt h2
      obtain ⟨q, e3, _⟩ := read_pt h3
      cases e0
      cases e1
      cases e2
      cases e3
      exact ⟨⟨a, b, p, q⟩, rfl, w0, w1⟩
theorem open_clash {b0 : Nat} {v : Value} {d : DataW H} {ps : List MemPlace} (hv : Value.okWide Tryz.prog w .any b0 45 v) (h : DataW.Trod enc Tryz.prog w 0 sp held 45 v d ps) :
    ∃ c : ClD, v = .agg #[.int .i64 c.a, .int .i64 c.b, .int .i64 c.p.x, .int .i64 c.p.y, .int .i64 c.p.z, .int .i64 c.q.x, .int .i64 c.q.y, .int .i64 c.q.z] ∧ (Lit.int .i64 c.a).wf = true ∧ (Lit.int .i64 c.b).wf = true := by
  obtain ⟨cs, rfl, hsz⟩ := okWide_struct Tryz.underlying45 hv
  obtain ⟨fuel, hf⟩ := h
  obtain ⟨c, hp, w0, w1⟩ := read_clash hf
  refine ⟨c, ?_, w0, w1⟩
  have e : cs.toList = [.int .i64 c.a, .int .i64 c.b, .int .i64 c.p.x, .int .i64 c.p.y, .int .i64 c.p.z, .int .i64 c.q.x, .int .i64 c.q.y, .int .i64 c.q.z] := hp
  rw [← e]
end
end Go.Proofs.YtpiigmhbbcjamaaGreat
