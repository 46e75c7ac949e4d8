/-
  A slice of pairs of the call's own.
-/
import Derived.Test.YtcaeemcobgopmaaGrB
namespace Go.Proofs.Ytcaeemcobgopmaa
open Go.RowKit
set_option linter.unusedVariables false

def pairCells (l : List (Nat × Nat)) : List Value := l.flatMap fun e => [.int .i64 (e.1 : Int), .int .i64 (e.2 : Int)]
theorem pairCells_get (l : List (Nat × Nat)) : ∀ (k : Nat) e, l[k]? = some e → (pairCells l)[k * 2]? = some (.int .i64 (e.1 : Int)) ∧ (pairCells l)[k * 2 + 1]? = some (.int .i64 (e.2 : Int)) := by
  induction l with
  | nil => intro k e h; cases h
  | cons a l ih =>
    intro k e h
    have hc : pairCells (a :: l) = .int .i64 (a.1 : Int) :: .int .i64 (a.2 : Int) :: pairCells l := rfl
    rw [hc]
    cases k with
    | zero => cases h; exact ⟨rfl, rfl⟩
    | succ k =>
      have := ih k e (by simpa using h)
      rw [show (k + 1) * 2 = k * 2 + 2 by omega, show k * 2 + 2 + 1 = k * 2 + 1 + 2 by omega]
      simpa using this

def OwnP (w : World) (base : Nat) (v : Value) (l : List (Nat × Nat)) : Prop := w.ownsRow base 43 2 v l.length (pairCells l)
section
variable {w w1 : World} {base : Nat} {v : Value} {l : List (Nat × Nat)}
theorem OwnP.nil (w : World) (base : Nat) : OwnP w base (.slice none 0 0) [] := World.ownsRow_nil _ _ _ _
theorem OwnP.shape (h : OwnP w base v l) : ∃ ao cap, v = .slice ao l.length cap := by
  rcases h.2 with ⟨rfl, h0⟩ | ⟨g, cap, cur, rfl, hb, hg, _⟩
  · exact ⟨none, 0, by rw [h0]⟩
  · exact ⟨_, cap, rfl⟩
theorem OwnP.lt (h : OwnP w base v l) : ∀ g, v.ownBlock = some g → base ≤ g ∧ g < w.heap.size := World.ownsRow.lt h
theorem OwnP.pairs (h : OwnP w base v l) : NPairs w v l := by
  have h0 := h
  rcases h.2 with ⟨rfl, hl⟩ | ⟨g, cap, cur, rfl, hb, hg, _⟩
  · have : l = [] := List.eq_nil_of_length_eq_zero hl
    subst this
    exact ⟨none, 0, rfl, fun h => absurd h (by simp [cst])⟩
  · refine ⟨_, cap, by rw [cst_len], fun _ => ⟨g, 0, rfl, (Array.getElem?_eq_some_iff.1 hg).1, fun k x hx => ?_⟩⟩
    unfold cst at hx
    rw [List.getElem?_map] at hx
    obtain ⟨e, he, rfl⟩ := Option.map_eq_some_iff.1 hx
    obtain ⟨h1, h2⟩ := pairCells_get l k e he
    have c1 := World.ownsRow.cells h0 (g := g) rfl (k * 2) _ h1
    have c2 := World.ownsRow.cells h0 (g := g) rfl (k * 2 + 1) _ h2
    simp only [Addr.add_lit] at c1 c2
    exact ⟨c1, by rw [Nat.add_assoc]; exact c2⟩
theorem OwnP.kept (h : OwnP w base v l) (hk : ∀ g, v.ownBlock = some g → w1.heap[g]? = w.heap[g]?) : OwnP w1 base v l := by
  refine ⟨h.1, ?_⟩
  rcases h.2 with hn | ⟨g, cap, cur, rfl, hb, hgg, rest⟩
  · exact .inl hn
  · exact .inr ⟨g, cap, cur, rfl, hb, (hk g rfl).trans hgg, rest⟩
theorem OwnP.below (h : OwnP w base v l) (hb : Below w.heap.size w w1) : OwnP w1 base v l := h.kept fun g hv => hb.block g (h.lt g hv).2
end

theorem wpList_pushP (w0 : World) {ops : Array Oper} {rest : List Oper} {o : Oper} {a : Act} {Q : Exit → Act → World → Prop} (hgd : o.guard = none) (s x : Operand)
    (ho : o.op = .call { callee := .builtin .append, args := #[s, x], argTypes := #[22, 22] })
    (base : Nat) (v : Value) (l : List (Nat × Nat)) (p q : Nat)
    (hown : OwnP w0 base v l) (hs : a.eval s = v) (hx : a.eval x = .slice (some ⟨w0.heap.size, 0, none⟩) 1 1)
    (h63 : l.length + 1 ≤ 1099511627776) (hbase : base ≤ w0.heap.size)
    (hK : ∀ v' w', OwnP w' base v' (l ++ [(p, q)]) → w0.grownBy w' v.ownBlock → wpList Try.prog ops Q rest (a.put o.dst v') w') :
    wpList Try.prog ops Q (o :: rest) a (w0.alloc (.cells #[.int .i64 (p : Int), .int .i64 (q : Int)] 43)) := by
  have hinf : (Try.prog.info? 43).map (fun i => (i.zero, i.size, i.bytes)) = some (some (.agg #[.int .i64 0, .int .i64 0]), 2, 16) := by kernel_rfl
  obtain ⟨i, hi, hz, hsz, hb⟩ := info_parts hinf
  have hown1 : (w0.alloc (.cells #[.int .i64 (p : Int), .int .i64 (q : Int)] 43)).ownsRow base 43 2 v l.length (pairCells l) := World.ownsRow.alloc hown _
  obtain ⟨v', w', hrun, h2, h3, _, h5⟩ := run_append_own_at (P := Try.prog) (w0.alloc (.cells #[.int .i64 (p : Int), .int .i64 (q : Int)] 43)) base 22 o.type 43 i _ 2 16 Try.underlying22 hi hz hsz hb (by rfl) (by omega) v l.length (pairCells l) hown1
    ⟨w0.heap.size, 0, none⟩ 1 1 [.int .i64 (p : Int), .int .i64 (q : Int)] rfl (by
      intro j u hj
      match j, hj with
      | 0, hj =>
        cases hj
        rw [Addr.add_lit, World.cell?_alloc_at _ _ _ _ rfl]; rfl
      | 1, hj =>
        cases hj
        rw [Addr.add_lit, World.cell?_alloc_at _ _ _ _ rfl]; rfl) (by
      intro u hu
      simp only [List.mem_cons, List.mem_nil_iff, or_false] at hu
      rcases hu with rfl | rfl <;> rfl) (by unfold maxLen; omega) (by omega) (by simp; omega)
  refine wpList_plain hgd fun K hK' => ?_
  unfold Oper.wp execOp
  simp only [ho, resolve, invoke, builtin, Sem.run_bind, Sem.run_pure, Result.andThen_ok, List.map_toArray, List.map_cons, List.map_nil, hs, hx, hrun]
  refine hK' _ _ (hK v' w' ?_ ?_)
  · unfold OwnP
    rw [List.length_append]
    have : pairCells (l ++ [(p, q)]) = pairCells l ++ [.int .i64 (p : Int), .int .i64 (q : Int)] := by simp [pairCells]
    rw [this]
    exact h2
  · exact only_next (World.grownBy_alloc w0 _ v.ownBlock) h3 (.inl rfl)
end Go.Proofs.Ytcaeemcobgopmaa
