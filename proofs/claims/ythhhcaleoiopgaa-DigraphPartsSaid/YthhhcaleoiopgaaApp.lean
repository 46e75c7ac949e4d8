/-
  Words for memory: append of a whole slice of the call's own; a matrix with one row more.
-/
import Derived.Test.YthhhcaleoiopgaaMat
import Derived.Laws.OwnMore
namespace Go.Proofs.Ythhhcaleoiopgaa
open Go.RowKit
set_option linter.unusedVariables false

/-- 'append(v, s...)' for two slices of the call's own. -/
theorem wpList_app {α : Type} {P : Program} (w0 : World) {ops : Array Oper} {rest : List Oper} {o : Oper} {a : Act} {Q : Exit → Act → World → Prop} (hgd : o.guard = none) (s x : Operand) (t : TypeId)
    (ho : o.op = .call { callee := .builtin .append, args := #[s, x], argTypes := #[t, t] })
    (e bytes : Nat) (he : Elem P t e bytes) (base base2 : Nat) (f : α → Value) (v u : Value) (l l2 : List α) (h1 : ∀ y, (f y).oneCell' = true)
    (hown : Own w0 base e f v l) (hsrc : Own w0 base2 e f u l2) (hs : a.eval s = v) (hx : a.eval x = u)
    (h63 : l.length + l2.length ≤ 1099511627776) (hby : bytes ≤ 64) (hbase : base ≤ w0.heap.size)
    (hK : ∀ v' w', Own w' base e f v' (l ++ l2) → w0.grownBy w' v.ownBlock → (v'.ownBlock = v.ownBlock ∨ ∃ g, w0.heap.size ≤ g ∧ v'.ownBlock = some g) → wpList P ops Q rest (a.put o.dst v') w') :
    wpList P ops Q (o :: rest) a w0 := by
  obtain ⟨ht, i, z, hi, hz, hsz, hb, hzs⟩ := he
  have hrun : ∃ v' w', (Builtin.append_ #[t, t] o.type #[v, u]).run P w0 = .ok v' w' ∧ Own w' base e f v' (l ++ l2) ∧ w0.grownBy w' v.ownBlock ∧ (v'.ownBlock = v.ownBlock ∨ ∃ g, w0.heap.size ≤ g ∧ v'.ownBlock = some g) := by
    have hcs := hsrc
    rcases hcs.2 with ⟨rfl, h0⟩ | ⟨g, cap, cur, rfl, hbb, hg, _⟩
    · have hl2 : l2 = [] := List.length_eq_zero_iff.1 h0
      subst hl2
      refine ⟨v, w0, run_append_owned_none w0 base t o.type e i 1 ht hi v l.length (l.map f) hown, by rw [List.append_nil]; exact hown, only_refl _ _, .inl rfl⟩
    · obtain ⟨v', w', hrun, h2, h3, _, h5⟩ := run_append_own_at (P := P) w0 base t o.type e i z 1 bytes ht hi hz hsz hb hzs (by omega) v l.length (l.map f) hown
        ⟨g, 0, none⟩ l2.length cap (l2.map f) (by simp) (by
          intro j y hj
          rw [List.getElem?_map] at hj
          obtain ⟨x, hx, rfl⟩ := Option.map_eq_some_iff.1 hj
          rw [Addr.add_lit, Nat.zero_add]
          exact hsrc.cell hx) (by
          intro y hy
          obtain ⟨x, _, rfl⟩ := List.mem_map.1 hy
          exact h1 x) (by unfold maxLen; omega) (by
          have : (l.length + l2.length) * bytes ≤ 1099511627776 * 64 := Nat.mul_le_mul h63 hby
          omega) hbase
      refine ⟨v', w', hrun, ?_, h3, ?_⟩
      · unfold Own
        rw [List.length_append, List.map_append]
        exact h2
      · rcases h5 with h5 | h5
        · exact .inl h5
        · exact .inr ⟨_, Nat.le_refl _, h5⟩
  obtain ⟨v', w', hrun, k1, k2, k3⟩ := hrun
  refine wpList_plain hgd fun K hK' => ?_
  unfold Oper.wp execOp
  simp only [ho, resolve, invoke, builtin, Sem.run_bind, Sem.run_pure, Result.andThen_ok, List.map_toArray, List.map_cons, List.map_nil, hs, hx, hrun]
  exact hK' _ _ (hK v' w' k1 k2 k3)

/-- A slice of one element just written. -/
theorem own_lit {α : Type} (w : World) (e : TypeId) (f : α → Value) (x : α) (base : Nat) (hb : base ≤ w.heap.size) : Own (w.alloc (.cells #[f x] e)) base e f (.slice (some ⟨w.heap.size, 0, none⟩) 1 1) [x] :=
  World.ownsRow_lit w #[f x] 1 (e := e) (size := 1) hb (by unfold maxLen; omega) rfl

/-- Behind 'out = append(out, row)'. -/
theorem MatVals.pushRow {w w1 : World} {base : Nat} {V V1 v : Value} {vals : List Value} {rows : List (List Nat)} {r : List Nat} (h : MatVals w base V vals rows) (hr : Own w base 3 natf v r) (hfr : ∀ g, v.ownBlock = some g → ∀ (k : Nat) u, vals[k]? = some u → u.ownBlock ≠ some g)
    (hown : Own w1 base 23 rowf V1 (vals ++ [v])) (hg : w.grownBy w1 V.ownBlock) : MatVals w1 base V1 (vals ++ [v]) (rows ++ [r]) := by
  obtain ⟨h1, h2, h3, h4⟩ := h
  refine ⟨by simp [h1], hown, fun k u s hu hs => ?_, fun i j vi vj g hij hi hj hgi => ?_⟩
  · rcases Nat.lt_or_ge k rows.length with hk | hk
    · rw [List.getElem?_append_left (by omega)] at hu hs
      have := h3 k u s hu hs
      exact this.only hg (this.apart h2 (by decide))
    · rw [List.getElem?_append_right (by omega)] at hu
      have : k - vals.length = 0 := by
        have := (List.getElem?_eq_some_iff.1 hu).1
        simp at this; omega
      rw [this] at hu
      cases hu
      rw [List.getElem?_append_right hk, show k - rows.length = 0 by omega] at hs
      cases hs
      exact hr.only hg (hr.apart h2 (by decide))
  · have key : ∀ (k : Nat) u, (vals ++ [v])[k]? = some u → vals[k]? = some u ∨ (k = vals.length ∧ u = v) := by
      intro k u hu
      rcases Nat.lt_or_ge k vals.length with hk | hk
      · rw [List.getElem?_append_left hk] at hu; exact .inl hu
      · rw [List.getElem?_append_right hk] at hu
        have : k - vals.length = 0 := by
          have := (List.getElem?_eq_some_iff.1 hu).1
          simp at this; omega
        rw [this] at hu
        cases hu
        exact .inr ⟨by omega, rfl⟩
    intro hgj
    rcases key i vi hi with a | ⟨a, rfl⟩ <;> rcases key j vj hj with b | ⟨b, rfl⟩
    · exact h4 i j vi vj g hij a b hgi hgj
    · exact hfr g hgj i vi a hgi
    · exact hfr g hgi j vj b hgj
    · omega

theorem MatVals.old {w : World} {base : Nat} {V : Value} {vals : List Value} {rows : List (List Nat)} (h : MatVals w base V vals rows) (k : Nat) (u : Value) (hu : vals[k]? = some u) (g : Nat) (hg : u.ownBlock = some g) : g < w.heap.size := by
  obtain ⟨s, hs⟩ := getElem?_of_len h.1 hu
  exact ((h.2.2.1 k u s hu hs).lt g hg).2
theorem MatVals.below {w w1 : World} {base : Nat} {V : Value} {vals : List Value} {rows : List (List Nat)} (h : MatVals w base V vals rows) (hb : Below w.heap.size w w1) : MatVals w1 base V vals rows := h.kept fun g _ hg _ => hb.block g hg
theorem MatVals.only {w w1 : World} {base : Nat} {V : Value} {vals : List Value} {rows : List (List Nat)} (h : MatVals w base V vals rows) {r : Option Nat} (hg : w.grownBy w1 r) (hr : ∀ g, r = some g → w.heap.size ≤ g) : MatVals w1 base V vals rows :=
  h.kept fun g _ hg' _ => hg.block g hg' (fun e => by have := hr g e.symm; omega)
end Go.Proofs.Ythhhcaleoiopgaa
