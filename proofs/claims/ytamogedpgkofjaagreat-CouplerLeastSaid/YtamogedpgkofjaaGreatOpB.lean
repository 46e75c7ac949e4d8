/-
  Base texts, shaken by wip/shake.py: OpB.
-/
import Derived.Lib.SmallJoins
import Derived.Test.YtamogedpgkofjaaGreatOpn
import Derived.Test.YtamogedpgkofjaaGreatKsc
namespace Go.Proofs.YtamogedpgkofjaaGreat
section
open Go.ChangeShapes Go.WideShapes Go.Deep Go.RowKit
set_option linter.unusedVariables false
set_option maxRecDepth 100000

instance : Inhabited BarD := ⟨⟨⟨#[]⟩, 0, 0, 0, []⟩⟩
instance : Inhabited RunD := ⟨⟨⟨#[]⟩, 0, 0, ⟨0, 0, 0⟩, ⟨0, 0, 0⟩, 0⟩⟩

section
variable {H : Type} {enc : TypeId × Value → H} {w : World} {sp : Nat → Bool} {held : Bool}

theorem cells_int : Tryz.prog.cellsOf 3 = 1 := by kernel_rfl
theorem cells_string : Tryz.prog.cellsOf 9 = 1 := by kernel_rfl
theorem cells_ints : Tryz.prog.cellsOf 24 = 1 := by kernel_rfl
theorem cells_pt : Tryz.prog.cellsOf 88 = 3 := by kernel_rfl
theorem cells_turn : Tryz.prog.cellsOf 86 = 2 := by kernel_rfl
theorem cells_bar : Tryz.prog.cellsOf 104 = 5 := by kernel_rfl
theorem cells_run : Tryz.prog.cellsOf 90 = 10 := by kernel_rfl

theorem read_int {fuel : Nat} {cs : List Value} {x : DataW H × List MemPlace} (h : DataW.trod enc Tryz.prog w 0 sp held fuel 3 cs = some x) : ∃ a : Int, cs = [.int .i64 a] ∧ (Lit.int .i64 a).wf = true := by
  obtain ⟨a, ha, h2⟩ := DataW.trod_int Tryz.underlying3 h
  exact ⟨a, ha, h2.2⟩
theorem read_string {fuel : Nat} {cs : List Value} {x : DataW H × List MemPlace} (h : DataW.trod enc Tryz.prog w 0 sp held fuel 9 cs = some x) : ∃ s : ByteArray, cs = [.string s] ∧ s.size ≤ maxLen := by
  obtain ⟨s, h1, _, h2⟩ := DataW.trod_string Tryz.underlying9 h
  exact ⟨s, h1, h2⟩

theorem read_ints {fuel : Nat} {cs : List Value} {x : DataW H × List MemPlace} (h : DataW.trod enc Tryz.prog w 0 sp held fuel 24 cs = some x) :
    ∃ (ao : Option Addr) (cap : Nat) (l : List Int), cs = [.slice ao l.length cap] ∧ Ints w (.slice ao l.length cap) l ∧ Elems x.1 l.length := by
  rcases open_ints Tryz.underlying24 Tryz.underlying3 cells_int h with ⟨rfl, rfl⟩ | ⟨a, len, cap, zs, rfl, _, hl, hm, hz, rfl, hcell, hwz⟩
  · exact ⟨none, 0, [], rfl, Sl.nil _ _ _ _, .inl ⟨rfl, rfl⟩⟩
  · have hle : len ≤ zs.length := by rw [hz]; split <;> omega
    have htl : (zs.take len).length = len := by simp; omega
    refine ⟨some a, cap, zs.take len, by rw [htl], ⟨_, cap, rfl, fun hl0 => ?_⟩, .inr ⟨_, _, rfl, by simp [lits]⟩⟩
    rw [htl] at hl0
    obtain ⟨b, off, spot⟩ := a
    have h0 := hcell 0 (by omega)
    have hspot : spot = none := by simpa [Addr.add] using World.cell?_spot h0
    subst hspot
    refine ⟨b, off, rfl, by simpa [Addr.add] using cell_lt h0, fun j x hj => ?_⟩
    have hj1 : j < len := by have := (List.getElem?_eq_some_iff.1 hj).1; rw [htl] at this; exact this
    rw [List.getElem?_take_of_lt hj1] at hj
    have := hcell j (by omega)
    rw [add_plain] at this
    rw [this]
    simp [List.getD, hj]

theorem read_pt {fuel : Nat} {cs : List Value} {x : DataW H × List MemPlace} (h : DataW.trod enc Tryz.prog w 0 sp held fuel 88 cs = some x) :
    ∃ p : Pt, cs = [.int .i64 p.x, .int .i64 p.y, .int .i64 p.z] ∧ (Lit.int .i64 p.x).wf = true ∧ (Lit.int .i64 p.y).wf = true ∧ (Lit.int .i64 p.z).wf = true := by
  obtain ⟨xs, n, _, _, hlen, hxl, hf⟩ := DataW.trod_struct Tryz.underlying88 h
  rw [cells_pt] at hlen
  match cs, hlen with
  | [a, b, c], _ =>
    match xs, hxl with
    | [x0, x1, x2], _ =>
      have h0 : DataW.trod enc Tryz.prog w 0 sp held n 3 ((List.drop 0 [a, b, c]).take (Tryz.prog.cellsOf 3)) = some x0 := hf 0 _ rfl
      have h1 : DataW.trod enc Tryz.prog w 0 sp held n 3 ((List.drop 1 [a, b, c]).take (Tryz.prog.cellsOf 3)) = some x1 := hf 1 _ rfl
      have h2 : DataW.trod enc Tryz.prog w 0 sp held n 3 ((List.drop 2 [a, b, c]).take (Tryz.prog.cellsOf 3)) = some x2 := hf 2 _ rfl
      rw [cells_int] at h0 h1 h2
      obtain ⟨a', e0, w0⟩ := read_int h0
      obtain ⟨b', e1, w1⟩ := read_int h1
      obtain ⟨c', e2, w2⟩ := read_int h2
      cases e0
      cases e1
      cases e2
      exact ⟨⟨a', b', c'⟩, rfl, w0, w1, w2⟩
theorem read_turn {fuel : Nat} {cs : List Value} {x : DataW H × List MemPlace} (h : DataW.trod enc Tryz.prog w 0 sp held fuel 86 cs = some x) :
    ∃ a b : Int, cs = [.int .i64 a, .int .i64 b] := by
  obtain ⟨xs, n, _, _, hlen, hxl, hf⟩ := DataW.trod_struct Tryz.underlying86 h
  rw [cells_turn] at hlen
  match cs, hlen with
  | [a, b], _ =>
    match xs, hxl with
    | [x0, x1], _ =>
      have h0 : DataW.trod enc Tryz.prog w 0 sp held n 3 ((List.drop 0 [a, b]).take (Tryz.prog.cellsOf 3)) = some x0 := hf 0 _ rfl
      have h1 : DataW.trod enc Tryz.prog w 0 sp held n 3 ((List.drop 1 [a, b]).take (Tryz.prog.cellsOf 3)) = some x1 := hf 1 _ rfl
      rw [cells_int] at h0 h1
      obtain ⟨a', e0, w0⟩ := read_int h0
      obtain ⟨b', e1, w1⟩ := read_int h1
      cases e0
      cases e1
      exact ⟨a', b', rfl⟩

theorem read_bar {fuel : Nat} {cs : List Value} {x : DataW H × List MemPlace} (h : DataW.trod enc Tryz.prog w 0 sp held fuel 104 cs = some x) :
    ∃ (b : BarD) (uo : Option Addr) (uc : Nat) (y0 y1 y2 y3 y4 : DataW H), cs = [.string b.mark, .int .i64 b.size, .int .i64 b.count, .int .i64 b.code, .slice uo b.dims.length uc] ∧ Ints w (.slice uo b.dims.length uc) b.dims ∧ b.mark.size ≤ maxLen ∧ x.1 = .agg [y0, y1, y2, y3, y4] ∧ Elems y4 b.dims.length := by
  obtain ⟨xs, n, _, rfl, hlen, hxl, hf⟩ := DataW.trod_struct Tryz.underlying104 h
  rw [cells_bar] at hlen
  match cs, hlen with
  | [a, b, c, d, e], _ =>
    match xs, hxl with
    | [x0, x1, x2, x3, x4], _ =>
      have h0 : DataW.trod enc Tryz.prog w 0 sp held n 9 ((List.drop 0 [a, b, c, d, e]).take (Tryz.prog.cellsOf 9)) = some x0 := hf 0 _ rfl
      have h1 : DataW.trod enc Tryz.prog w 0 sp held n 3 ((List.drop 1 [a, b, c, d, e]).take (Tryz.prog.cellsOf 3)) = some x1 := hf 1 _ rfl
      have h2 : DataW.trod enc Tryz.prog w 0 sp held n 3 ((List.drop 2 [a, b, c, d, e]).take (Tryz.prog.cellsOf 3)) = some x2 := hf 2 _ rfl
      have h3 : DataW.trod enc Tryz.prog w 0 sp held n 3 ((List.drop 3 [a, b, c, d, e]).take (Tryz.prog.cellsOf 3)) = some x3 := hf 3 _ rfl
      have h4 : DataW.trod enc Tryz.prog w 0 sp held n 24 ((List.drop 4 [a, b, c, d, e]).take (Tryz.prog.cellsOf 24)) = some x4 := hf 4 _ rfl
      rw [cells_string] at h0
      rw [cells_int] at h1 h2 h3
      rw [cells_ints] at h4
      obtain ⟨a', e0, w0⟩ := read_string h0
      obtain ⟨b', e1, w1⟩ := read_int h1
      obtain ⟨c', e2, w2⟩ := read_int h2
      obtain ⟨d', e3, w3⟩ := read_int h3
      obtain ⟨uo, uc, l, e4, hl, he⟩ := read_ints h4
      cases e0
      cases e1
      cases e2
      cases e3
      cases e4
      exact ⟨⟨a', b', c', d', l⟩, uo, uc, x0.1, x1.1, x2.1, x3.1, x4.1, rfl, hl, w0, rfl, he⟩

theorem read_run {fuel : Nat} {cs : List Value} {x : DataW H × List MemPlace} (h : DataW.trod enc Tryz.prog w 0 sp held fuel 90 cs = some x) :
    ∃ r : RunD, cs = runCells r ∧ r.mark.size ≤ maxLen := by
  obtain ⟨xs, n, _, rfl, hlen, hxl, hf⟩ := DataW.trod_struct Tryz.underlying90 h
  rw [cells_run] at hlen
  match cs, hlen with
  | [c0, c1, c2, c3, c4, c5, c6, c7, c8, c9], _ =>
    match xs, hxl with
    | [x0, x1, x2, x3, x4], _ =>
      have h0 : DataW.trod enc Tryz.prog w 0 sp held n 9 ((List.drop 0 [c0, c1, c2, c3, c4, c5, c6, c7, c8, c9]).take (Tryz.prog.cellsOf 9)) = some x0 := hf 0 _ rfl
      have h1 : DataW.trod enc Tryz.prog w 0 sp held n 86 ((List.drop 1 [c0, c1, c2, c3, c4, c5, c6, c7, c8, c9]).take (Tryz.prog.cellsOf 86)) = some x1 := hf 1 _ rfl
      have h2 : DataW.trod enc Tryz.prog w 0 sp held n 88 ((List.drop 3 [c0, c1, c2, c3, c4, c5, c6, c7, c8, c9]).take (Tryz.prog.cellsOf 88)) = some x2 := hf 2 _ rfl
      have h3 : DataW.trod enc Tryz.prog w 0 sp held n 88 ((List.drop 6 [c0, c1, c2, c3, c4, c5, c6, c7, c8, c9]).take (Tryz.prog.cellsOf 88)) = some x3 := hf 3 _ rfl
      have h4 : DataW.trod enc Tryz.prog w 0 sp held n 3 ((List.drop 9 [c0, c1, c2, c3, c4, c5, c6, c7, c8, c9]).take (Tryz.prog.cellsOf 3)) = some x4 := hf 4 _ rfl
      rw [cells_string] at h0
      rw [cells_turn] at h1
      rw [cells_pt] at h2 h3
      rw [cells_int] at h4
      obtain ⟨a', e0, w0⟩ := read_string h0
      obtain ⟨tx, ty, e1⟩ := read_turn h1
      obtain ⟨p, e2, _⟩ := read_pt h2
      obtain ⟨s, e3, _⟩ := read_pt h3
      obtain ⟨c, e4, _⟩ := read_int h4
      cases e0
      cases e1
      cases e2
      cases e3
      cases e4
      exact ⟨⟨a', tx, ty, p, s, c⟩, rfl, w0⟩

theorem weights_all_mem {P : Program} {e : TypeId} {l : List (DataW H)} {d : DataW H} (hd : d ∈ l) {n : Nat} (hn : n ∈ d.weights P e) : n ∈ DataW.weightsAll P e l := by
  induction l with
  | nil => cases hd
  | cons a l ih =>
    simp only [DataW.weightsAll, List.mem_append]
    rcases List.mem_cons.1 hd with rfl | h
    · exact .inl hn
    · exact .inr (ih h)

theorem open_bars {ts : List TypeId} {ds : List (DataW H)} {j : Nat} {v : Value} {d : DataW H} {ps : List MemPlace} (hv : ∃ a len cap, v = .slice a len cap) (h : DataW.Trod enc Tryz.prog w 0 sp held 22 v d ps)
    (hs : (DataW.weightsEach Tryz.prog ts ds).all (· ≤ reachBytes) = true) (hts : ts[j]? = some 22) (hds : ds[j]? = some d) :
    ∃ l : List BarD, Bars w v l ∧ Elems d l.length ∧ FitB l := by
  obtain ⟨a0, len0, cap0, rfl⟩ := hv
  obtain ⟨fuel, hf⟩ := h
  rcases open_slice Tryz.underlying22 hf with ⟨hcs, hx⟩ | ⟨a, len, cap, m, n, D, Pl, hcs, _, hl, hm, hmm, hx, hall⟩
  · simp [Value.cells] at hcs
    obtain ⟨rfl, rfl, rfl⟩ := hcs
    simp only [Prod.mk.injEq] at hx
    exact ⟨[], ⟨none, 0, rfl, fun h => absurd h (by simp)⟩, .inl ⟨hx.1, rfl⟩, fun b hb => by cases hb⟩
  · simp [Value.cells] at hcs
    obtain ⟨rfl, rfl, rfl⟩ := hcs
    simp only [Prod.mk.injEq] at hx
    have hle : len0 ≤ m := by rw [hmm]; split <;> omega
    have each : ∀ i, i < len0 → ∃ b : BarD, (∃ (uo : Option Addr) (uc : Nat), w.cell? (a.add (i * 5)) = some (.string b.mark) ∧ w.cell? (a.add (i * 5 + 1)) = some (.int .i64 b.size) ∧ w.cell? (a.add (i * 5 + 2)) = some (.int .i64 b.count) ∧ w.cell? (a.add (i * 5 + 3)) = some (.int .i64 b.code) ∧ w.cell? (a.add (i * 5 + 4)) = some (.slice uo b.dims.length uc) ∧ Ints w (.slice uo b.dims.length uc) b.dims) ∧ b.mark.size ≤ maxLen ∧ b.dims.length ≤ 140737488355328 := by
      intro i hi
      obtain ⟨cs', h1, h2⟩ := hall i (by omega)
      rw [cells_bar] at h1
      obtain ⟨b, uo, uc, y0, y1, y2, y3, y4, rfl, hI, hM, hagg, hE⟩ := read_bar h2
      obtain ⟨_, hlen, hcell⟩ := World.cells?_some h1
      have e0 := hcell 0 (by omega)
      have e1 := hcell 1 (by omega)
      have e2 := hcell 2 (by omega)
      have e3 := hcell 3 (by omega)
      have e4 := hcell 4 (by omega)
      rw [add_add] at e0 e1 e2 e3 e4
      refine ⟨b, ⟨uo, uc, by simpa using e0, by simpa using e1, by simpa using e2, by simpa using e3, by simpa using e4, hI⟩, hM, ?_⟩
      rcases hE with ⟨_, h0⟩ | ⟨elems, spare, hE, hEl⟩
      · omega
      · have w1 : (elems.length + spare.length) * Tryz.prog.bytesOf 3 ∈ y4.weights Tryz.prog 24 := by
          rw [hE]
          simp [DataW.weights, Tryz.underlying24]
        have w2 : (elems.length + spare.length) * Tryz.prog.bytesOf 3 ∈ (D i).weights Tryz.prog 104 := by
          have hagg' : D i = .agg [y0, y1, y2, y3, y4] := hagg
          rw [hagg']
          simp only [DataW.weights, Tryz.underlying104]
          exact DataW.weights_mem_each (j := 4) rfl rfl _ w1
        have w3 : (elems.length + spare.length) * Tryz.prog.bytesOf 3 ∈ d.weights Tryz.prog 22 := by
          rw [hx.1]
          simp only [DataW.weights, Tryz.underlying22, List.mem_cons, List.mem_append]
          exact .inr (.inl (weights_all_mem (List.mem_map.2 ⟨i, List.mem_range.2 hi, rfl⟩) w2))
        have w4 := List.all_eq_true.1 hs _ (DataW.weights_mem_each hts hds _ w3)
        have hb : Tryz.prog.bytesOf 3 = 8 := by kernel_rfl
        rw [hb] at w4
        simp only [decide_eq_true_eq] at w4
        unfold reachBytes at w4
        omega
    obtain ⟨f, hf⟩ := choose_lt each
    have hmem : ∀ b ∈ (List.range len0).map f, ∃ i, i < len0 ∧ b = f i := fun b hb => by
      obtain ⟨i, hi, rfl⟩ := List.mem_map.1 hb
      exact ⟨i, List.mem_range.1 hi, rfl⟩
    refine ⟨(List.range len0).map f, ⟨some a, cap0, by simp, fun hl0 => ?_⟩, .inr ⟨_, _, hx.1, by simp⟩, fun b hb => by
      obtain ⟨i, hi, rfl⟩ := hmem b hb
      exact (hf i hi).2⟩
    have hl1 : 0 < len0 := by simpa using hl0
    obtain ⟨b, off, spot⟩ := a
    obtain ⟨⟨_, _, h0, _⟩, _⟩ := hf 0 hl1
    have hspot : spot = none := by simpa [Addr.add] using World.cell?_spot h0
    subst hspot
    refine ⟨b, off, rfl, by simpa [Addr.add] using cell_lt h0, fun k x hk => ?_⟩
    have hk1 : k < len0 := by have := (List.getElem?_eq_some_iff.1 hk).1; simpa using this
    rw [List.getElem?_map, List.getElem?_range hk1] at hk
    cases hk
    obtain ⟨⟨uo, uc, g0, g1, g2, g3, g4, g5⟩, _⟩ := hf k hk1
    rw [add_plain] at g0 g1 g2 g3 g4
    simp only [← Nat.add_assoc] at g1 g2 g3 g4
    exact ⟨g0, g1, g2, g3, uo, uc, g4, g5⟩

theorem open_runs {v : Value} {d : DataW H} {ps : List MemPlace} (hv : ∃ a len cap, v = .slice a len cap) (h : DataW.Trod enc Tryz.prog w 0 sp held 23 v d ps) :
    ∃ l : List RunD, Runs w v l ∧ Elems d l.length ∧ ∀ r ∈ l, r.mark.size ≤ maxLen := by
  obtain ⟨a0, len0, cap0, rfl⟩ := hv
  obtain ⟨fuel, hf⟩ := h
  rcases open_slice Tryz.underlying23 hf with ⟨hcs, hx⟩ | ⟨a, len, cap, m, n, D, Pl, hcs, _, hl, hm, hmm, hx, hall⟩
  · simp [Value.cells] at hcs
    obtain ⟨rfl, rfl, rfl⟩ := hcs
    simp only [Prod.mk.injEq] at hx
    exact ⟨[], Fl.nil _ _ _ _ _, .inl ⟨hx.1, rfl⟩, fun b hb => by cases hb⟩
  · simp [Value.cells] at hcs
    obtain ⟨rfl, rfl, rfl⟩ := hcs
    simp only [Prod.mk.injEq] at hx
    have hle : len0 ≤ m := by rw [hmm]; split <;> omega
    have each : ∀ i, i < len0 → ∃ r : RunD, (∀ j u, (runCells r)[j]? = some u → w.cell? (a.add (i * 10 + j)) = some u) ∧ r.mark.size ≤ maxLen := by
      intro i hi
      obtain ⟨cs', h1, h2⟩ := hall i (by omega)
      rw [cells_run] at h1
      obtain ⟨r, rfl, hM⟩ := read_run h2
      obtain ⟨_, hlen, hcell⟩ := World.cells?_some h1
      refine ⟨r, fun j u hj => ?_, hM⟩
      have hj1 : j < 10 := (List.getElem?_eq_some_iff.1 hj).1
      have e := hcell j hj1
      rw [add_add] at e
      exact e.trans hj
    obtain ⟨f, hf⟩ := choose_lt each
    refine ⟨(List.range len0).map f, ⟨some a, cap0, by simp, fun hl0 => ?_⟩, .inr ⟨_, _, hx.1, by simp⟩, fun b hb => by
      obtain ⟨i, hi, rfl⟩ := List.mem_map.1 hb
      exact (hf i (List.mem_range.1 hi)).2⟩
    have hl1 : 0 < len0 := by simpa using hl0
    obtain ⟨b, off, spot⟩ := a
    have h0 := (hf 0 hl1).1 0 _ rfl
    have hspot : spot = none := by simpa [Addr.add] using World.cell?_spot h0
    subst hspot
    refine ⟨b, off, rfl, by simpa [Addr.add] using cell_lt h0, fun k x hk j u hj => ?_⟩
    have hk1 : k < len0 := by have := (List.getElem?_eq_some_iff.1 hk).1; simpa using this
    rw [List.getElem?_map, List.getElem?_range hk1] at hk
    cases hk
    have g := (hf k hk1).1 j u hj
    rw [add_plain, ← Nat.add_assoc] at g
    exact g

theorem open_pt {b0 : Nat} {v : Value} {d : DataW H} {ps : List MemPlace} (hv : Value.okWide Tryz.prog w .any b0 88 v) (h : DataW.Trod enc Tryz.prog w 0 sp held 88 v d ps) :
    ∃ p : Pt, v = .agg #[.int .i64 p.x, .int .i64 p.y, .int .i64 p.z] ∧ (Lit.int .i64 p.x).wf = true ∧ (Lit.int .i64 p.y).wf = true ∧ (Lit.int .i64 p.z).wf = true := by
  obtain ⟨cs, rfl, hsz⟩ := okWide_struct Tryz.underlying88 hv
  obtain ⟨fuel, hf⟩ := h
  obtain ⟨p, hp, w1, w2, w3⟩ := read_pt hf
  refine ⟨p, ?_, w1, w2, w3⟩
  have e : cs.toList = [.int .i64 p.x, .int .i64 p.y, .int .i64 p.z] := hp
  rw [← e]
end
end
end Go.Proofs.YtamogedpgkofjaaGreat
