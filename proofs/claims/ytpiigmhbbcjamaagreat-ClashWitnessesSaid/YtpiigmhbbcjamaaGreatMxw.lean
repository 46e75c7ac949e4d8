/-
  Rows of numbers, of Bools and of slices: encodings; a row just made; append of a slice that only reads as a list.
-/
import Derived.Test.YtpiigmhbbcjamaaGreatMem
import Derived.Laws.OwnMore
import Derived.Laws.MakeOwn
namespace Go.Proofs.YtpiigmhbbcjamaaGreat
open Go.RowKit
set_option linter.unusedVariables false

def natf (x : Nat) : Value := .int .i64 (x : Int)
def boolf (x : Bool) : Value := .bool x
def rowf (v : Value) : Value := v

theorem own_made {α : Type} (w : World) (e : TypeId) (f : α → Value) (x : α) (z : Value) (hz : z.cells = #[f x]) (n : Nat) (hn : n ≤ 1099511627776) (base : Nat) (hb : base ≤ w.heap.size) :
    Own (w.alloc (.cells (madeCells z.cells n) e)) base e f (.slice (some ⟨w.heap.size, 0, none⟩) n n) (List.replicate n x) := by
  have hc : (madeCells #[f x] n).toList = List.replicate n (f x) := toList_madeCells_one _ _
  have hs : (madeCells #[f x] n).size = n * 1 := by rw [← Array.length_toList, hc]; simp
  have := World.ownsRow_lit w (madeCells #[f x] n) n (e := e) (size := 1) hb (by unfold maxLen; omega) hs
  unfold Own
  rw [hz, List.length_replicate, List.map_replicate, ← hc]
  exact this

theorem run_make_one {P : Program} (t e bytes : Nat) (z : Value) (ht : P.underlying t = some (.slice e)) (h : (P.info? e).map (fun i => (i.zero, i.size, i.bytes)) = some (some z, 1, bytes)) (hb : bytes ≤ 64) (n : Nat) (hn : n ≤ 1099511627776) (w : World) :
    (Instr.makeSlice t (.int .i64 (n : Int)) (.int .i64 (n : Int))).run P w = .ok (.slice (some ⟨w.heap.size, 0, none⟩) n n) (w.alloc (.cells (madeCells z.cells n) e)) := by
  obtain ⟨i, h1, h2, h3, h4⟩ := info_parts h
  have hle : bytes * n ≤ 64 * 1099511627776 := Nat.mul_le_mul hb hn
  have hr := run_make (P := P) w t e i z ht h1 h2 .i64 .i64 n n (by omega) (by omega) (by
    rw [h4]
    have : ((bytes * n : Nat) : Int) ≤ 70368744177664 := by omega
    rw [Int.natCast_mul] at this
    omega) (by omega)
  simp only [Int.toNat_natCast, h3, Nat.mul_one] at hr
  exact hr

/-- 'append(v, s...)' for a row of the call's own and a slice that reads as a list. -/
theorem wpList_appSl {α : Type} {P : Program} (w0 : World) {ops : Array Oper} {rest : List Oper} {o : Oper} {a : Act} {Q : Exit → Act → World → Prop} (hgd : o.guard = none) (s x : Operand) (t : TypeId)
    (ho : o.op = .call { callee := .builtin .append, args := #[s, x], argTypes := #[t, t] })
    (e bytes : Nat) (he : Elem P t e bytes) (base : Nat) (f : α → Value) (v u : Value) (l l2 : List α) (h1 : ∀ y, (f y).oneCell' = true)
    (hown : Own w0 base e f v l) (hsrc : Sl w0 f u l2) (hs : a.eval s = v) (hx : a.eval x = u)
    (h63 : l.length + l2.length ≤ 1099511627776) (hby : bytes ≤ 64) (hbase : base ≤ w0.heap.size)
    (hK : ∀ v' w', Own w' base e f v' (l ++ l2) → w0.grownBy w' v.ownBlock → (v'.ownBlock = v.ownBlock ∨ ∃ g, w0.heap.size ≤ g ∧ v'.ownBlock = some g) → wpList P ops Q rest (a.put o.dst v') w') :
    wpList P ops Q (o :: rest) a w0 := by
  obtain ⟨ht, i, z, hi, hz, hsz, hb, hzs⟩ := he
  have hrun : ∃ v' w', (Builtin.append_ #[t, t] o.type #[v, u]).run P w0 = .ok v' w' ∧ Own w' base e f v' (l ++ l2) ∧ w0.grownBy w' v.ownBlock ∧ (v'.ownBlock = v.ownBlock ∨ ∃ g, w0.heap.size ≤ g ∧ v'.ownBlock = some g) := by
    obtain ⟨ao, cap, rfl, h⟩ := hsrc
    cases ao with
    | none =>
      have hl2 : l2 = [] := by
        rcases Nat.eq_zero_or_pos l2.length with h0 | h0
        · exact List.length_eq_zero_iff.1 h0
        · obtain ⟨b, off, hh, _⟩ := h h0; cases hh
      subst hl2
      refine ⟨v, w0, ?_, by rw [List.append_nil]; exact hown, only_refl _ _, .inl rfl⟩
      have hown' := hown
      rcases hown'.2 with ⟨rfl, h0⟩ | ⟨g, cap', cur, rfl, _, _, hnc, _⟩
      · simp [Builtin.append_, run_underlying ht, sizeOf, typeInfo, hi, Builtin.lenOf, Builtin.firstCells]
      · simp [Builtin.append_, run_underlying ht, sizeOf, typeInfo, hi, Builtin.lenOf, Builtin.firstCells, hnc, storeCells]
    | some ad =>
      obtain ⟨v', w', hrun, h2, h3, _, h5⟩ := run_append_own_at (P := P) w0 base t o.type e i z 1 bytes ht hi hz hsz hb hzs (by omega) v l.length (l.map f) hown
        ad l2.length cap (l2.map f) (by simp) (by
          intro j y hj
          have hlen : 0 < l2.length := by
            have := (List.getElem?_eq_some_iff.1 hj).1
            rw [List.length_map] at this; omega
          obtain ⟨b, off, hh, hlt, hc⟩ := h hlen
          cases hh
          rw [List.getElem?_map] at hj
          obtain ⟨x, hx, rfl⟩ := Option.map_eq_some_iff.1 hj
          rw [Addr.add_lit]
          exact hc j x hx) (by
          intro y hy
          obtain ⟨x, _, rfl⟩ := List.mem_map.1 hy
          exact h1 x) (by unfold maxLen; omega) (by
          have : (l.length + l2.length) * bytes ≤ 1099511627776 * 64 := Nat.mul_le_mul h63 hby
          omega) hbase
      refine ⟨v', w', hrun, ?_, h3, ?_⟩
      · unfold Own
        rw [List.length_append, List.map_append]
        exact h2
      · rcases h5 with h5 | h5
        · exact .inl h5
        · exact .inr ⟨_, Nat.le_refl _, h5⟩
  obtain ⟨v', w', hrun, k1, k2, k3⟩ := hrun
  refine wpList_plain hgd fun K hK' => ?_
  unfold Oper.wp execOp
  simp only [ho, resolve, invoke, builtin, Sem.run_bind, Sem.run_pure, Result.andThen_ok, List.map_toArray, List.map_cons, List.map_nil, hs, hx, hrun]
  exact hK' _ _ (hK v' w' k1 k2 k3)
theorem Sl.at_ {α : Type} {w : World} {f : α → Value} {v : Value} {l : List α} (h : Sl w f v l) : ∃ ao cap, v = .slice ao l.length cap := by obtain ⟨ao, cap, rfl, _⟩ := h; exact ⟨ao, cap, rfl⟩
theorem Sl.take_ {α : Type} {w : World} {f : α → Value} {ao : Option Addr} {len cap : Nat} {l : List α} (h : Sl w f (.slice ao len cap) l) (m c : Nat) (hm : m ≤ len) : Sl w f (.slice ao m c) (l.take m) := by
  obtain ⟨ao', cap', hv, h2⟩ := h
  cases hv
  have e : (l.take m).length = m := by simp; omega
  refine ⟨ao, c, by rw [e], fun hl => ?_⟩
  obtain ⟨b, off, rfl, hlt, hc⟩ := h2 (by rw [e] at hl; omega)
  refine ⟨b, off, rfl, hlt, fun k x hx => hc k x ?_⟩
  rw [List.getElem?_take] at hx
  split at hx
  · exact hx
  · cases hx
end Go.Proofs.YtpiigmhbbcjamaaGreat
