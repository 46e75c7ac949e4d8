/-
  A slice of slices of nodes that the call itself makes and fills row by row.
-/
import Derived.Test.YthhhcaleoiopgaaMem
import Derived.Test.YthhhcaleoiopgaaLib
import Derived.Deep.RegionHeld3
import Derived.Deep.AppendLies
import Derived.Deep.DrawnRows
namespace Go.Proofs.Ythhhcaleoiopgaa
open Go.RowKit
set_option linter.unusedVariables false

def natf (x : Nat) : Value := .int .i64 (x : Int)
def boolf (x : Bool) : Value := .bool x
def rowf (v : Value) : Value := v

theorem elemRow : Elem Try.prog 48 23 24 := elem_of (z := .slice none 0 0) Try.underlying48 (by kernel_rfl) rfl

def MatVals (w : World) (base : Nat) (V : Value) (vals : List Value) (rows : List (List Nat)) : Prop :=
  vals.length = rows.length ∧ Own w base 23 rowf V vals ∧ (∀ (k : Nat) v r, vals[k]? = some v → rows[k]? = some r → Own w base 3 natf v r) ∧
    (∀ (i j : Nat) vi vj g, i ≠ j → vals[i]? = some vi → vals[j]? = some vj → vi.ownBlock = some g → vj.ownBlock ≠ some g)
def Mat (w : World) (base : Nat) (V : Value) (rows : List (List Nat)) : Prop := ∃ vals, MatVals w base V vals rows

theorem getElem?_of_len {α β : Type} {l : List α} {l' : List β} (h : l.length = l'.length) {k : Nat} {x : α} (hx : l[k]? = some x) : ∃ y, l'[k]? = some y :=
  ⟨_, List.getElem?_eq_getElem (by have := (List.getElem?_eq_some_iff.1 hx).1; omega)⟩

theorem MatVals.kept {w w1 : World} {base : Nat} {V : Value} {vals : List Value} {rows : List (List Nat)} (h : MatVals w base V vals rows) (hk : ∀ g, base ≤ g → g < w.heap.size → (∃ cs t, w.heap[g]? = some (.cells cs t (0, 0))) → w1.heap[g]? = w.heap[g]?) : MatVals w1 base V vals rows := by
  obtain ⟨h1, h2, h3, h4⟩ := h
  have cellsOf : ∀ {α : Type} {e : TypeId} {f : α → Value} {v : Value} {l : List α}, Own w base e f v l → ∀ g, v.ownBlock = some g → ∃ cs t, w.heap[g]? = some (.cells cs t (0, 0)) := by
    intro α e f v l ho g hg
    rcases ho.2 with ⟨rfl, _⟩ | ⟨g', cap, cur, rfl, _, hh, _⟩
    · cases hg
    · cases hg; exact ⟨_, _, hh⟩
  exact ⟨h1, h2.kept fun g hg => hk g (h2.lt g hg).1 (h2.lt g hg).2 (cellsOf h2 g hg), fun k v r hv hr => (h3 k v r hv hr).kept fun g hg => hk g ((h3 k v r hv hr).lt g hg).1 ((h3 k v r hv hr).lt g hg).2 (cellsOf (h3 k v r hv hr) g hg), h4⟩
theorem Mat.kept {w w1 : World} {base : Nat} {V : Value} {rows : List (List Nat)} (h : Mat w base V rows) (hk : ∀ g, base ≤ g → g < w.heap.size → w1.heap[g]? = w.heap[g]?) : Mat w1 base V rows := by
  obtain ⟨vals, h1, h2, h3, h4⟩ := h
  exact ⟨vals, h1, h2.kept fun g hg => hk g (h2.lt g hg).1 (h2.lt g hg).2, fun k v r hv hr => (h3 k v r hv hr).kept fun g hg => hk g ((h3 k v r hv hr).lt g hg).1 ((h3 k v r hv hr).lt g hg).2, h4⟩
theorem Mat.below {w w1 : World} {base : Nat} {V : Value} {rows : List (List Nat)} (h : Mat w base V rows) (hb : Below w.heap.size w w1) : Mat w1 base V rows := h.kept fun g _ hg => hb.block g hg
theorem Mat.alloc {w : World} {base : Nat} {V : Value} {rows : List (List Nat)} (h : Mat w base V rows) (o : Obj) : Mat (w.alloc o) base V rows := h.below (below_new w o)

theorem Mat.rows {w : World} {base : Nat} {V : Value} {rows : List (List Nat)} (h : Mat w base V rows) : Rows w V rows := by
  obtain ⟨vals, h1, h2, h3, h4⟩ := h
  obtain ⟨ao, cap, rfl, hs⟩ := h2.sl
  rw [h1]
  refine ⟨ao, cap, rfl, fun hl => ?_⟩
  obtain ⟨b, off, rfl, hlt, hc⟩ := hs (by omega)
  refine ⟨b, off, rfl, hlt, fun k r hr => ?_⟩
  obtain ⟨v, hv⟩ := getElem?_of_len h1.symm hr
  exact ⟨v, hc k v hv, (h3 k v r hv hr).sl⟩

theorem get_replicate {α : Type} {n k : Nat} {a x : α} (h : (List.replicate n a)[k]? = some x) : x = a := by
  obtain ⟨hk, hx⟩ := List.getElem?_eq_some_iff.1 h
  simpa using hx.symm
theorem Mat.new {w : World} {base : Nat} {V : Value} {n : Nat} (h : Own w base 23 rowf V (List.replicate n (.slice none 0 0))) : Mat w base V (List.replicate n []) := by
  refine ⟨_, by simp, h, fun k v r hv hr => ?_, fun i j vi vj g hij hi hj hg => ?_⟩
  · obtain rfl := get_replicate hv
    obtain rfl := get_replicate hr
    exact Own.nil _ _ _ _
  · obtain rfl := get_replicate hi
    cases hg

/-- Behind 'out = append(out, nil)'. -/
theorem MatVals.pushNilVals {w w1 : World} {base : Nat} {V V1 : Value} {vals : List Value} {rows : List (List Nat)} (h : MatVals w base V vals rows) (hown : Own w1 base 23 rowf V1 (vals ++ [.slice none 0 0])) (hg : w.grownBy w1 V.ownBlock) : MatVals w1 base V1 (vals ++ [.slice none 0 0]) (rows ++ [[]]) := by
  obtain ⟨h1, h2, h3, h4⟩ := h
  refine ⟨by simp [h1], hown, fun k v r hv hr => ?_, fun i j vi vj g hij hi hj hgi => ?_⟩
  · rcases Nat.lt_or_ge k rows.length with hk | hk
    · rw [List.getElem?_append_left (by omega)] at hv hr
      have := h3 k v r hv hr
      exact this.only hg (this.apart h2 (by decide))
    · rw [List.getElem?_append_right (by omega)] at hv
      have : k - vals.length = 0 := by
        have := (List.getElem?_eq_some_iff.1 hv).1
        simp at this; omega
      rw [this] at hv
      cases hv
      rw [List.getElem?_append_right hk, show k - rows.length = 0 by omega] at hr
      cases hr
      exact Own.nil _ _ _ _
  · have key : ∀ (k : Nat) v, (vals ++ [Value.slice none 0 0])[k]? = some v → ∀ g, v.ownBlock = some g → vals[k]? = some v := by
      intro k v hv g hg
      rcases Nat.lt_or_ge k vals.length with hk | hk
      · rwa [List.getElem?_append_left hk] at hv
      · rw [List.getElem?_append_right hk] at hv
        have : k - vals.length = 0 := by
          have := (List.getElem?_eq_some_iff.1 hv).1
          simp at this; omega
        rw [this] at hv
        cases hv
        cases hg
    intro hgj
    exact h4 i j vi vj g hij (key i vi hi g hgi) (key j vj hj g hgj) hgi hgj

theorem MatVals.pushNil {w w1 : World} {base : Nat} {V V1 : Value} {vals : List Value} {rows : List (List Nat)} (h : MatVals w base V vals rows) (hown : Own w1 base 23 rowf V1 (vals ++ [.slice none 0 0])) (hg : w.grownBy w1 V.ownBlock) : Mat w1 base V1 (rows ++ [[]]) := ⟨_, h.pushNilVals hown hg⟩

/-- Behind 'out[k] = append(out[k], y)': the row's append, then the store of its new value. -/
theorem MatVals.pushAt {w w1 : World} {base G n cap : Nat} {vals : List Value} {rows : List (List Nat)} (h : MatVals w base (.slice (some ⟨G, 0, none⟩) n cap) vals rows) {k y : Nat} {v v1 : Value} {r : List Nat} (hv : vals[k]? = some v) (hr : rows[k]? = some r)
    (hown : Own w1 base 3 natf v1 (r ++ [y])) (hg : w.grownBy w1 v.ownBlock) (hat : v1.ownBlock = v.ownBlock ∨ ∃ g, w.heap.size ≤ g ∧ v1.ownBlock = some g) :
    Mat (w1.setCell ⟨G, k, none⟩ v1) base (.slice (some ⟨G, 0, none⟩) n cap) (rows.set k (r ++ [y])) := by
  obtain ⟨h1, h2, h3, h4⟩ := h
  have hvr := h3 k v r hv hr
  have hk : k < vals.length := (List.getElem?_eq_some_iff.1 hv).1
  have o2 : Own w1 base 23 rowf (.slice (some ⟨G, 0, none⟩) n cap) vals := h2.only hg (h2.apart hvr (by decide))
  have o3 := o2.set k v1
  have hset : w1.grownBy (w1.setCell ⟨G, k, none⟩ v1) (some G) := only_set w1 G k v1
  have kept : ∀ (u : Value) (s : List Nat), Own w1 base 3 natf u s → Own (w1.setCell ⟨G, k, none⟩ v1) base 3 natf u s :=
    fun u s hu => hu.only hset (hu.apart o2 (by decide))
  have old : ∀ (j : Nat) u, j ≠ k → vals[j]? = some u → ∀ g, u.ownBlock = some g → some g ≠ v.ownBlock := by
    intro j u hj hu g hgu he
    exact h4 j k u v g hj hu hv hgu he.symm
  refine ⟨_, by simp [h1], o3, fun j u s hu hs => ?_, fun i j vi vj g hij hi hj hgi => ?_⟩
  · by_cases hj : k = j
    · subst hj
      rw [List.getElem?_set_self hk] at hu
      cases hu
      rw [List.getElem?_set_self (by omega)] at hs
      cases hs
      exact kept _ _ hown
    · rw [List.getElem?_set_ne hj] at hu hs
      exact kept _ _ ((h3 j u s hu hs).only hg (old j u (fun e => hj e.symm) hu))
  · have lt : ∀ (j : Nat) u, vals[j]? = some u → ∀ g, u.ownBlock = some g → g < w.heap.size := by
      intro j u hu g hgu
      obtain ⟨s, hs⟩ := getElem?_of_len h1 hu
      exact ((h3 j u s hu hs).lt g hgu).2
    by_cases hi' : k = i
    · subst hi'
      rw [List.getElem?_set_self hk] at hi
      cases hi
      rw [List.getElem?_set_ne hij] at hj
      intro hgj
      rcases hat with hat | ⟨g', hg', hat⟩
      · exact old j vj (fun e => hij e.symm) hj g hgj (by rw [← hat, hgi])
      · rw [hat] at hgi; cases hgi
        have := lt j vj hj _ hgj
        omega
    · rw [List.getElem?_set_ne hi'] at hi
      by_cases hj' : k = j
      · subst hj'
        rw [List.getElem?_set_self hk] at hj
        cases hj
        intro hgj
        rcases hat with hat | ⟨g', hg', hat⟩
        · exact old i vi (fun e => hi' e.symm) hi g hgi (by rw [← hat, hgj])
        · rw [hat] at hgj; cases hgj
          have := lt i vi hi _ hgi
          omega
      · rw [List.getElem?_set_ne hj'] at hj
        exact h4 i j vi vj g hij hi hj hgi

/-- 'append' of one element as a step of a region that draws its order. -/
theorem step_push {α : Type} {P : Program} (w0 : World) {ops : Array Oper} {o : Oper} {a : Act} {K : Act → World → Prop} {Q : Exit → Act → World → Prop} {E : Prop} (hgd : o.guard = none) (s x : Operand) (t : TypeId)
    (ho : o.op = .call { callee := .builtin .append, args := #[s, x], argTypes := #[t, t] })
    (e bytes : Nat) (he : Elem P t e bytes) (base : Nat) (f : α → Value) (v : Value) (l : List α) (y : α) (h1 : (f y).oneCell' = true)
    (hown : Own w0 base e f v l) (hs : a.eval s = v) (hx : a.eval x = .slice (some ⟨w0.heap.size, 0, none⟩) 1 1)
    (h63 : l.length + 1 ≤ 1099511627776) (hby : bytes ≤ 64) (hbase : base ≤ w0.heap.size)
    (hK : ∀ v' w', Own w' base e f v' (l ++ [y]) → w0.grownBy w' v.ownBlock → (v'.ownBlock = v.ownBlock ∨ ∃ g, w0.heap.size ≤ g ∧ v'.ownBlock = some g) → K (a.put o.dst v') w') :
    if Region.wanted o (yielded ops a.tmps) = true then Oper.wp P o a (w0.alloc (.cells #[f y] e)) K Q else E := by
  have hw : Region.wanted o (yielded ops a.tmps) = true := by simp [Region.wanted, hgd]
  rw [if_pos hw]
  obtain ⟨ht, i, z, hi, hz, hsz, hb, hzs⟩ := he
  have hown1 : (w0.alloc (.cells #[f y] e)).ownsRow base e 1 v l.length (l.map f) := World.ownsRow.alloc hown _
  obtain ⟨v', w', hrun, h2, h3, _, h5⟩ := run_append_own_at (P := P) (w0.alloc (.cells #[f y] e)) base t o.type e i z 1 bytes ht hi hz hsz hb hzs (by omega) v l.length (l.map f) hown1
    ⟨w0.heap.size, 0, none⟩ 1 1 [f y] rfl (by
      intro j u hj
      match j, hj with
      | 0, hj =>
        cases hj
        rw [Addr.add_lit, World.cell?_alloc_at _ _ _ _ rfl]; rfl) (by
      intro u hu
      rw [List.mem_singleton.1 hu]; exact h1) (by unfold maxLen; omega) (by
      have : (l.length + 1) * bytes ≤ 1099511627776 * 64 := Nat.mul_le_mul h63 hby
      omega) (by simp; omega)
  unfold Oper.wp execOp
  simp only [ho, resolve, invoke, builtin, Sem.run_bind, Sem.run_pure, Result.andThen_ok, List.map_toArray, List.map_cons, List.map_nil, hs, hx, hrun]
  refine hK v' w' ?_ ?_ ?_
  · unfold Own
    rw [List.length_append, List.map_append]
    exact h2
  · exact only_next (World.grownBy_alloc w0 _ v.ownBlock) h3 (.inl rfl)
  · rcases h5 with h5 | h5
    · exact .inl h5
    · exact .inr ⟨_, by simp, h5⟩

/-- 'make([]T, n)' of one-cell elements: a new block. -/
theorem run_make_one {P : Program} (t e bytes : Nat) (z : Value) (ht : P.underlying t = some (.slice e)) (h : (P.info? e).map (fun i => (i.zero, i.size, i.bytes)) = some (some z, 1, bytes)) (hb : bytes ≤ 64) (n : Nat) (hn : n ≤ 1099511627776) (w : World) :
    (Instr.makeSlice t (.int .i64 (n : Int)) (.int .i64 (n : Int))).run P w = .ok (.slice (some ⟨w.heap.size, 0, none⟩) n n) (w.alloc (.cells (madeCells z.cells n) e)) := by
  obtain ⟨i, h1, h2, h3, h4⟩ := info_parts h
  have hle : bytes * n ≤ 64 * 1099511627776 := Nat.mul_le_mul hb hn
  have hr := run_make (P := P) w t e i z ht h1 h2 .i64 .i64 n n (by omega) (by omega) (by
    rw [h4]
    have : ((bytes * n : Nat) : Int) ≤ 70368744177664 := by omega
    rw [Int.natCast_mul] at this
    omega) (by omega)
  simp only [Int.toNat_natCast, h3, Nat.mul_one] at hr
  exact hr
theorem own_made {α : Type} (w : World) (e : TypeId) (f : α → Value) (x : α) (z : Value) (hz : z.cells = #[f x]) (n : Nat) (hn : n ≤ 1099511627776) (base : Nat) (hb : base ≤ w.heap.size) :
    Own (w.alloc (.cells (madeCells z.cells n) e)) base e f (.slice (some ⟨w.heap.size, 0, none⟩) n n) (List.replicate n x) := by
  have hc : (madeCells #[f x] n).toList = List.replicate n (f x) := toList_madeCells_one _ _
  have hs : (madeCells #[f x] n).size = n * 1 := by rw [← Array.length_toList, hc]; simp
  have := World.ownsRow_lit w (madeCells #[f x] n) n (e := e) (size := 1) hb (by unfold maxLen; omega) hs
  unfold Own
  rw [hz, List.length_replicate, List.map_replicate, ← hc]
  exact this
end Go.Proofs.Ythhhcaleoiopgaa
