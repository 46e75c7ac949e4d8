/-
  Pairs: a slice of the call's own, Clone, Contains; Clone at integers.
-/
import Derived.Test.YthhhcaleoiopgaaDgA
import Derived.Test.YthhhcaleoiopgaaApp
import Derived.Test.YthhhcaleoiopgaaRep
import Derived.Test.YthhhcaleoiopgaaNxP
import Derived.Lib.SliceRun
namespace Go.Proofs.Ythhhcaleoiopgaa
open Go.RowKit
set_option linter.unusedVariables false

def pairCells (l : List (Nat × Nat)) : List Value := l.flatMap fun e => [.int .i64 (e.1 : Int), .int .i64 (e.2 : Int)]
theorem pairCells_get (l : List (Nat × Nat)) : ∀ (k : Nat) e, l[k]? = some e → (pairCells l)[k * 2]? = some (.int .i64 (e.1 : Int)) ∧ (pairCells l)[k * 2 + 1]? = some (.int .i64 (e.2 : Int)) := by
  induction l with
  | nil => intro k e h; cases h
  | cons a l ih =>
    intro k e h
    have hc : pairCells (a :: l) = .int .i64 (a.1 : Int) :: .int .i64 (a.2 : Int) :: pairCells l := rfl
    rw [hc]
    cases k with
    | zero => cases h; exact ⟨rfl, rfl⟩
    | succ k =>
      have := ih k e (by simpa using h)
      rw [show (k + 1) * 2 = k * 2 + 2 by omega, show k * 2 + 2 + 1 = k * 2 + 1 + 2 by omega]
      simpa using this

def OwnP (w : World) (base : Nat) (v : Value) (l : List (Nat × Nat)) : Prop := w.ownsRow base 38 2 v l.length (pairCells l)
section
variable {w w1 : World} {base : Nat} {v : Value} {l : List (Nat × Nat)}
theorem OwnP.nil (w : World) (base : Nat) : OwnP w base (.slice none 0 0) [] := World.ownsRow_nil _ _ _ _
theorem OwnP.shape (h : OwnP w base v l) : ∃ ao cap, v = .slice ao l.length cap := by
  rcases h.2 with ⟨rfl, h0⟩ | ⟨g, cap, cur, rfl, hb, hg, _⟩
  · exact ⟨none, 0, by rw [h0]⟩
  · exact ⟨_, cap, rfl⟩
theorem OwnP.lt (h : OwnP w base v l) : ∀ g, v.ownBlock = some g → base ≤ g ∧ g < w.heap.size := World.ownsRow.lt h
theorem OwnP.pairs (h : OwnP w base v l) : NPairs w v l := by
  have h0 := h
  rcases h.2 with ⟨rfl, hl⟩ | ⟨g, cap, cur, rfl, hb, hg, _⟩
  · have : l = [] := List.eq_nil_of_length_eq_zero hl
    subst this
    exact ⟨none, 0, rfl, fun h => absurd h (by simp [cst])⟩
  · refine ⟨_, cap, by rw [cst_len], fun _ => ⟨g, 0, rfl, (Array.getElem?_eq_some_iff.1 hg).1, fun k x hx => ?_⟩⟩
    unfold cst at hx
    rw [List.getElem?_map] at hx
    obtain ⟨e, he, rfl⟩ := Option.map_eq_some_iff.1 hx
    obtain ⟨h1, h2⟩ := pairCells_get l k e he
    have c1 := World.ownsRow.cells h0 (g := g) rfl (k * 2) _ h1
    have c2 := World.ownsRow.cells h0 (g := g) rfl (k * 2 + 1) _ h2
    simp only [Addr.add_lit] at c1 c2
    exact ⟨c1, by rw [Nat.add_assoc]; exact c2⟩
theorem OwnP.kept (h : OwnP w base v l) (hk : ∀ g, v.ownBlock = some g → w1.heap[g]? = w.heap[g]?) : OwnP w1 base v l := by
  refine ⟨h.1, ?_⟩
  rcases h.2 with hn | ⟨g, cap, cur, rfl, hb, hgg, rest⟩
  · exact .inl hn
  · exact .inr ⟨g, cap, cur, rfl, hb, (hk g rfl).trans hgg, rest⟩
theorem OwnP.below (h : OwnP w base v l) (hb : Below w.heap.size w w1) : OwnP w1 base v l := h.kept fun g hv => hb.block g (h.lt g hv).2
end

theorem wpList_pushP (w0 : World) {ops : Array Oper} {rest : List Oper} {o : Oper} {a : Act} {Q : Exit → Act → World → Prop} (hgd : o.guard = none) (s x : Operand)
    (ho : o.op = .call { callee := .builtin .append, args := #[s, x], argTypes := #[22, 22] })
    (base : Nat) (v : Value) (l : List (Nat × Nat)) (p q : Nat)
    (hown : OwnP w0 base v l) (hs : a.eval s = v) (hx : a.eval x = .slice (some ⟨w0.heap.size, 0, none⟩) 1 1)
    (h63 : l.length + 1 ≤ 1099511627776) (hbase : base ≤ w0.heap.size)
    (hK : ∀ v' w', OwnP w' base v' (l ++ [(p, q)]) → w0.grownBy w' v.ownBlock → wpList Try.prog ops Q rest (a.put o.dst v') w') :
    wpList Try.prog ops Q (o :: rest) a (w0.alloc (.cells #[.int .i64 (p : Int), .int .i64 (q : Int)] 38)) := by
  have hinf : (Try.prog.info? 38).map (fun i => (i.zero, i.size, i.bytes)) = some (some (.agg #[.int .i64 0, .int .i64 0]), 2, 16) := by kernel_rfl
  obtain ⟨i, hi, hz, hsz, hb⟩ := info_parts hinf
  have hown1 : (w0.alloc (.cells #[.int .i64 (p : Int), .int .i64 (q : Int)] 38)).ownsRow base 38 2 v l.length (pairCells l) := World.ownsRow.alloc hown _
  obtain ⟨v', w', hrun, h2, h3, _, h5⟩ := run_append_own_at (P := Try.prog) (w0.alloc (.cells #[.int .i64 (p : Int), .int .i64 (q : Int)] 38)) base 22 o.type 38 i _ 2 16 Try.underlying22 hi hz hsz hb (by rfl) (by omega) v l.length (pairCells l) hown1
    ⟨w0.heap.size, 0, none⟩ 1 1 [.int .i64 (p : Int), .int .i64 (q : Int)] rfl (by
      intro j u hj
      match j, hj with
      | 0, hj =>
        cases hj
        rw [Addr.add_lit, World.cell?_alloc_at _ _ _ _ rfl]; rfl
      | 1, hj =>
        cases hj
        rw [Addr.add_lit, World.cell?_alloc_at _ _ _ _ rfl]; rfl) (by
      intro u hu
      simp only [List.mem_cons, List.mem_nil_iff, or_false] at hu
      rcases hu with rfl | rfl <;> rfl) (by unfold maxLen; omega) (by omega) (by simp; omega)
  refine wpList_plain hgd fun K hK' => ?_
  unfold Oper.wp execOp
  simp only [ho, resolve, invoke, builtin, Sem.run_bind, Sem.run_pure, Result.andThen_ok, List.map_toArray, List.map_cons, List.map_nil, hs, hx, hrun]
  refine hK' _ _ (hK v' w' ?_ ?_)
  · unfold OwnP
    rw [List.length_append]
    have : pairCells (l ++ [(p, q)]) = pairCells l ++ [.int .i64 (p : Int), .int .i64 (q : Int)] := by simp [pairCells]
    rw [this]
    exact h2
  · exact only_next (World.grownBy_alloc w0 _ v.ownBlock) h3 (.inl rfl)
theorem step_pushP (w0 : World) {ops : Array Oper} {o : Oper} {a : Act} {K : Act → World → Prop} {Q : Exit → Act → World → Prop} {E : Prop} (hgd : o.guard = none) (s x : Operand)
    (ho : o.op = .call { callee := .builtin .append, args := #[s, x], argTypes := #[22, 22] })
    (base : Nat) (v : Value) (l : List (Nat × Nat)) (p q : Nat)
    (hown : OwnP w0 base v l) (hs : a.eval s = v) (hx : a.eval x = .slice (some ⟨w0.heap.size, 0, none⟩) 1 1)
    (h63 : l.length + 1 ≤ 1099511627776) (hbase : base ≤ w0.heap.size)
    (hK : ∀ v' w', OwnP w' base v' (l ++ [(p, q)]) → w0.grownBy w' v.ownBlock → K (a.put o.dst v') w') :
    if Region.wanted o (yielded ops a.tmps) = true then Oper.wp Try.prog o a (w0.alloc (.cells #[.int .i64 (p : Int), .int .i64 (q : Int)] 38)) K Q else E := by
  have hw : Region.wanted o (yielded ops a.tmps) = true := by simp [Region.wanted, hgd]
  rw [if_pos hw]
  have hinf : (Try.prog.info? 38).map (fun i => (i.zero, i.size, i.bytes)) = some (some (.agg #[.int .i64 0, .int .i64 0]), 2, 16) := by kernel_rfl
  obtain ⟨i, hi, hz, hsz, hb⟩ := info_parts hinf
  have hown1 : (w0.alloc (.cells #[.int .i64 (p : Int), .int .i64 (q : Int)] 38)).ownsRow base 38 2 v l.length (pairCells l) := World.ownsRow.alloc hown _
  obtain ⟨v', w', hrun, h2, h3, _, h5⟩ := run_append_own_at (P := Try.prog) (w0.alloc (.cells #[.int .i64 (p : Int), .int .i64 (q : Int)] 38)) base 22 o.type 38 i _ 2 16 Try.underlying22 hi hz hsz hb (by rfl) (by omega) v l.length (pairCells l) hown1
    ⟨w0.heap.size, 0, none⟩ 1 1 [.int .i64 (p : Int), .int .i64 (q : Int)] rfl (by
      intro j u hj
      match j, hj with
      | 0, hj =>
        cases hj
        rw [Addr.add_lit, World.cell?_alloc_at _ _ _ _ rfl]; rfl
      | 1, hj =>
        cases hj
        rw [Addr.add_lit, World.cell?_alloc_at _ _ _ _ rfl]; rfl) (by
      intro u hu
      simp only [List.mem_cons, List.mem_nil_iff, or_false] at hu
      rcases hu with rfl | rfl <;> rfl) (by unfold maxLen; omega) (by omega) (by simp; omega)
  unfold Oper.wp execOp
  simp only [ho, resolve, invoke, builtin, Sem.run_bind, Sem.run_pure, Result.andThen_ok, List.map_toArray, List.map_cons, List.map_nil, hs, hx, hrun]
  refine hK v' w' ?_ ?_
  · unfold OwnP
    rw [List.length_append]
    have : pairCells (l ++ [(p, q)]) = pairCells l ++ [.int .i64 (p : Int), .int .i64 (q : Int)] := by simp [pairCells]
    rw [this]
    exact h2
  · exact only_next (World.grownBy_alloc w0 _ v.ownBlock) h3 (.inl rfl)
theorem pairCells_len (l : List (Nat × Nat)) : (pairCells l).length = l.length * 2 := by
  induction l with
  | nil => rfl
  | cons a l ih =>
    have hc : pairCells (a :: l) = .int .i64 (a.1 : Int) :: .int .i64 (a.2 : Int) :: pairCells l := rfl
    rw [hc, List.length_cons, List.length_cons, ih, List.length_cons]; omega
theorem pairCells_cases {l : List (Nat × Nat)} {j : Nat} {u : Value} (h : (pairCells l)[j]? = some u) : ∃ k e, l[k]? = some e ∧ ((j = k * 2 ∧ u = .int .i64 (e.1 : Int)) ∨ (j = k * 2 + 1 ∧ u = .int .i64 (e.2 : Int))) := by
  have hj := (List.getElem?_eq_some_iff.1 h).1
  rw [pairCells_len] at hj
  have hk : j / 2 < l.length := by omega
  obtain ⟨h1, h2⟩ := pairCells_get l (j / 2) _ (List.getElem?_eq_getElem hk)
  refine ⟨j / 2, _, List.getElem?_eq_getElem hk, ?_⟩
  rcases Nat.mod_two_eq_zero_or_one j with hm | hm
  · left
    have e : j = j / 2 * 2 := by omega
    rw [← e, h] at h1
    exact ⟨e, by injection h1⟩
  · right
    have e : j = j / 2 * 2 + 1 := by omega
    rw [← e, h] at h2
    exact ⟨e, by injection h2⟩
theorem pairCells_one {l : List (Nat × Nat)} : ∀ u ∈ pairCells l, u.oneCell' = true := by
  intro u hu
  obtain ⟨j, hj, rfl⟩ := List.getElem_of_mem hu
  obtain ⟨k, e, _, h⟩ := pairCells_cases (List.getElem?_eq_getElem hj)
  rcases h with ⟨_, h⟩ | ⟨_, h⟩ <;> rw [h] <;> rfl
theorem NPairs.cellAt {w : World} {b off n cap : Nat} {l : List (Nat × Nat)} (h : NPairs w (.slice (some ⟨b, off, none⟩) n cap) l) {j : Nat} {u : Value} (hj : (pairCells l)[j]? = some u) : w.cell? ⟨b, off + j, none⟩ = some u := by
  obtain ⟨k, e, he, hc⟩ := pairCells_cases hj
  obtain ⟨b', off', hx, _, c1, c2⟩ := h.edge he
  cases hx
  rcases hc with ⟨rfl, rfl⟩ | ⟨rfl, rfl⟩
  · exact c1
  · rw [← Nat.add_assoc]; exact c2

/-- 'append(v, s...)'. -/
theorem wpList_appendP (w0 : World) {ops : Array Oper} {rest : List Oper} {o : Oper} {a : Act} {Q : Exit → Act → World → Prop} (hgd : o.guard = none) (s x : Operand)
    (ho : o.op = .call { callee := .builtin .append, args := #[s, x], argTypes := #[22, 22] })
    (base : Nat) (v : Value) (l l2 : List (Nat × Nat)) (ad : Addr) (n cap : Nat)
    (hown : OwnP w0 base v l) (hs : a.eval s = v) (hx : a.eval x = .slice (some ad) n cap) (hsrc : ∀ j u, (pairCells l2)[j]? = some u → w0.cell? (ad.add j) = some u) (hn : l2.length = n)
    (h63 : l.length + n ≤ 1099511627776) (hbase : base ≤ w0.heap.size)
    (hK : ∀ v' w', OwnP w' base v' (l ++ l2) → w0.grownBy w' v.ownBlock → wpList Try.prog ops Q rest (a.put o.dst v') w') :
    wpList Try.prog ops Q (o :: rest) a w0 := by
  have hinf : (Try.prog.info? 38).map (fun i => (i.zero, i.size, i.bytes)) = some (some (.agg #[.int .i64 0, .int .i64 0]), 2, 16) := by kernel_rfl
  obtain ⟨i, hi, hz, hsz, hb⟩ := info_parts hinf
  obtain ⟨v', w', hrun, h2, h3, _, h5⟩ := run_append_own_at (P := Try.prog) w0 base 22 o.type 38 i _ 2 16 Try.underlying22 hi hz hsz hb (by rfl) (by omega) v l.length (pairCells l) hown
    ad n cap (pairCells l2) (by rw [pairCells_len, hn]) hsrc pairCells_one (by unfold maxLen; omega) (by omega) hbase
  refine wpList_plain hgd fun K hK' => ?_
  unfold Oper.wp execOp
  simp only [ho, resolve, invoke, builtin, Sem.run_bind, Sem.run_pure, Result.andThen_ok, List.map_toArray, List.map_cons, List.map_nil, hs, hx, hrun]
  refine hK' _ _ (hK v' w' ?_ h3)
  unfold OwnP
  rw [List.length_append, hn]
  have : pairCells (l ++ l2) = pairCells l ++ pairCells l2 := by simp [pairCells]
  rw [this]
  exact h2

/-- 'append(v, s...)'. -/
theorem step_appendP (w0 : World) {ops : Array Oper} {o : Oper} {a : Act} {K : Act → World → Prop} {Q : Exit → Act → World → Prop} {E : Prop} (hgd : o.guard = none) (s x : Operand)
    (ho : o.op = .call { callee := .builtin .append, args := #[s, x], argTypes := #[22, 22] })
    (base : Nat) (v : Value) (l l2 : List (Nat × Nat)) (ad : Addr) (n cap : Nat)
    (hown : OwnP w0 base v l) (hs : a.eval s = v) (hx : a.eval x = .slice (some ad) n cap) (hsrc : ∀ j u, (pairCells l2)[j]? = some u → w0.cell? (ad.add j) = some u) (hn : l2.length = n)
    (h63 : l.length + n ≤ 1099511627776) (hbase : base ≤ w0.heap.size)
    (hK : ∀ v' w', OwnP w' base v' (l ++ l2) → w0.grownBy w' v.ownBlock → K (a.put o.dst v') w') :
    if Region.wanted o (yielded ops a.tmps) = true then Oper.wp Try.prog o a w0 K Q else E := by
  have hw : Region.wanted o (yielded ops a.tmps) = true := by simp [Region.wanted, hgd]
  rw [if_pos hw]
  have hinf : (Try.prog.info? 38).map (fun i => (i.zero, i.size, i.bytes)) = some (some (.agg #[.int .i64 0, .int .i64 0]), 2, 16) := by kernel_rfl
  obtain ⟨i, hi, hz, hsz, hb⟩ := info_parts hinf
  obtain ⟨v', w', hrun, h2, h3, _, h5⟩ := run_append_own_at (P := Try.prog) w0 base 22 o.type 38 i _ 2 16 Try.underlying22 hi hz hsz hb (by rfl) (by omega) v l.length (pairCells l) hown
    ad n cap (pairCells l2) (by rw [pairCells_len, hn]) hsrc pairCells_one (by unfold maxLen; omega) (by omega) hbase
  unfold Oper.wp execOp
  simp only [ho, resolve, invoke, builtin, Sem.run_bind, Sem.run_pure, Result.andThen_ok, List.map_toArray, List.map_cons, List.map_nil, hs, hx, hrun]
  refine hK v' w' ?_ h3
  unfold OwnP
  rw [List.length_append, hn]
  have : pairCells (l ++ l2) = pairCells l ++ pairCells l2 := by simp [pairCells]
  rw [this]
  exact h2

theorem OwnP.mono {w : World} {base base' : Nat} {v : Value} {l : List (Nat × Nat)} (h : OwnP w base v l) (hb : base' ≤ base) : OwnP w base' v l := by
  refine ⟨h.1, ?_⟩
  rcases h.2 with hn | ⟨g, cap, cur, rfl, hg, rest⟩
  · exact .inl hn
  · exact .inr ⟨g, cap, cur, rfl, Nat.le_trans hb hg, rest⟩

set_option maxHeartbeats 400000 in
theorem cloneP_any (v : Value) (ns : List (Nat × Nat)) (w : World) (hp : NPairs w v ns) (hl : ns.length ≤ 4000) :
    Calls Try.prog 20 #[v] w fun e w' => (∃ u, e = .returned u ∧ OwnP w' w.heap.size u ns) ∧ Below w.heap.size w w' := by
  have hp' := hp
  obtain ⟨ao, cap, rfl, h⟩ := hp.open_
  have hnil := @Lib.run_eql_slice_nil
  cases ao with
  | none =>
    have h0 : ns = [] := by
      cases ns with
      | nil => rfl
      | cons a l => obtain ⟨b, off, e, _⟩ := h (by simp); cases e
    subst h0
    clear h
    go_enter Try.func20, Try.ntmps20
    go_wp2
    go_ret
    exact ⟨⟨_, rfl, OwnP.nil _ _⟩, Below.refl _ _⟩
  | some ad =>
    have hsrc : ∀ j u, (pairCells ns)[j]? = some u → w.cell? (ad.add j) = some u ∧ (ad.add j).block < w.heap.size := fun j u hj => by
      have hlt : 0 < ns.length := by
        have := (List.getElem?_eq_some_iff.1 hj).1
        rw [pairCells_len] at this
        omega
      obtain ⟨b, off, e, hb, _⟩ := h hlt
      cases e
      rw [Addr.add_lit]
      exact ⟨hp'.cellAt hj, hb⟩
    have HSRC : Hid (∀ j u, (pairCells ns)[j]? = some u → (w.alloc (.cells #[] 38)).cell? (ad.add j) = some u) := fun j u hj => by
      obtain ⟨h1, h2⟩ := hsrc j u hj
      exact (World.cell?_alloc_lt w _ _ h2).trans h1
    have hB0 := below_new w (.cells #[] 38)
    have HO : Hid (OwnP (w.alloc (.cells #[] 38)) w.heap.size (.slice (some ⟨w.heap.size, 0, none⟩) 0 0) []) := World.ownsRow_lit w #[] 0 (e := 38) (size := 2) (Nat.le_refl _) (by unfold maxLen; omega) rfl
    clear hsrc h hp'
    go_enter Try.func20, Try.ntmps20
    go_wp2_with (at_builtin; refine wpList_appendP _ rfl _ _ rfl w.heap.size _ [] ns ad ns.length cap HO.out rfl rfl HSRC.out rfl (by simp; omega) (by simp) ?_; intro v' w' hown' hg)
    go_ret
    exact ⟨⟨_, rfl, hown'⟩, below_grown hB0 hg (by simp) (fun g e => by cases e; exact Nat.le_refl _)⟩

/-- 'append(v, s...)' at integers, s any slice. -/
theorem wpList_appendI (w0 : World) {ops : Array Oper} {rest : List Oper} {o : Oper} {a : Act} {Q : Exit → Act → World → Prop} (hgd : o.guard = none) (s x : Operand)
    (ho : o.op = .call { callee := .builtin .append, args := #[s, x], argTypes := #[23, 23] })
    (base : Nat) (v : Value) (l l2 : List Int) (ad : Addr) (n cap : Nat)
    (hown : Own w0 base 3 intf v l) (hs : a.eval s = v) (hx : a.eval x = .slice (some ad) n cap) (hsrc : ∀ (j : Nat) u, l2[j]? = some u → w0.cell? (ad.add j) = some (intf u)) (hn : l2.length = n)
    (h63 : l.length + n ≤ 1099511627776) (hbase : base ≤ w0.heap.size)
    (hK : ∀ v' w', Own w' base 3 intf v' (l ++ l2) → w0.grownBy w' v.ownBlock → wpList Try.prog ops Q rest (a.put o.dst v') w') :
    wpList Try.prog ops Q (o :: rest) a w0 := by
  obtain ⟨ht, i, z, hi, hz, hsz, hb, hzs⟩ := elemInt
  obtain ⟨v', w', hrun, h2, h3, _, h5⟩ := run_append_own_at (P := Try.prog) w0 base 23 o.type 3 i z 1 8 ht hi hz hsz hb hzs (by omega) v l.length (l.map intf) hown
    ad n cap (l2.map intf) (by simp [hn]) (by
      intro j u hj
      rw [List.getElem?_map] at hj
      obtain ⟨y, hy, rfl⟩ := Option.map_eq_some_iff.1 hj
      exact hsrc j y hy) (by
      intro u hu
      obtain ⟨y, _, rfl⟩ := List.mem_map.1 hu
      rfl) (by unfold maxLen; omega) (by omega) hbase
  refine wpList_plain hgd fun K hK' => ?_
  unfold Oper.wp execOp
  simp only [ho, resolve, invoke, builtin, Sem.run_bind, Sem.run_pure, Result.andThen_ok, List.map_toArray, List.map_cons, List.map_nil, hs, hx, hrun]
  refine hK' _ _ (hK v' w' ?_ h3)
  unfold Own
  rw [List.length_append, hn, List.map_append]
  exact h2

set_option maxHeartbeats 400000 in
theorem cloneI_any (v : Value) (l : List Int) (w : World) (hp : Ints w v l) (hl : l.length ≤ 4000) :
    Calls Try.prog 21 #[v] w fun e w' => (∃ u, e = .returned u ∧ Own w' w.heap.size 3 intf u l) ∧ Below w.heap.size w w' := by
  obtain ⟨ao, cap, rfl, h⟩ := hp
  have hnil := @Lib.run_eql_slice_nil
  cases ao with
  | none =>
    have h0 : l = [] := by
      cases l with
      | nil => rfl
      | cons a l => obtain ⟨b, off, e, _⟩ := h (by simp); cases e
    subst h0
    clear h
    go_enter Try.func21, Try.ntmps21
    go_wp2
    go_ret
    exact ⟨⟨_, rfl, Own.nil _ _ _ _⟩, Below.refl _ _⟩
  | some ad =>
    have HSRC : Hid (∀ (j : Nat) u, l[j]? = some u → (w.alloc (.cells #[] 3)).cell? (ad.add j) = some (intf u)) := fun j u hj => by
      obtain ⟨b, off, e, hb, hc⟩ := h (by have := (List.getElem?_eq_some_iff.1 hj).1; omega)
      cases e
      rw [Addr.add_lit]
      exact (World.cell?_alloc_lt w _ _ hb).trans (hc j u hj)
    have hB0 := below_new w (.cells #[] 3)
    have HO : Hid (Own (w.alloc (.cells #[] 3)) w.heap.size 3 intf (.slice (some ⟨w.heap.size, 0, none⟩) 0 0) []) := World.ownsRow_lit w #[] 0 (e := 3) (size := 1) (Nat.le_refl _) (by unfold maxLen; omega) rfl
    clear h
    go_enter Try.func21, Try.ntmps21
    go_wp2_with (at_builtin; refine wpList_appendI _ rfl _ _ rfl w.heap.size _ [] l ad l.length cap HO.out rfl rfl HSRC.out rfl (by simp; omega) (by simp) ?_; intro v' w' hown' hg)
    go_ret
    exact ⟨⟨_, rfl, hown'⟩, below_grown hB0 hg (by simp) (fun g e => by cases e; exact Nat.le_refl _)⟩

/-! ### Contains -/
theorem run_eq_pair (w : World) (a b x y : Int) : (Op.equalIn 10000 38 (.agg #[.int .i64 a, .int .i64 b]) (.agg #[.int .i64 x, .int .i64 y])).run Try.prog w = .ok (decide (a = x ∧ b = y)) w := by
  have hs : ∀ w, (Go.sizeOf 3).run Try.prog w = .ok 1 w := fun w => by kernel_rfl
  have h1 : ∀ d (p q : Int) w, (Op.equalIn (d + 1) 3 (.int .i64 p) (.int .i64 q)).run Try.prog w = .ok (p == q) w := fun d p q w => by
    simp [Op.equalIn, run_underlying Try.underlying3]
  have hp0 : ∀ (p q : Int) w, (part 3 #[.int .i64 p, .int .i64 q] 0).run Try.prog w = .ok (.int .i64 p) w := fun p q w => by kernel_rfl
  have hp1 : ∀ (p q : Int) w, (part 3 #[.int .i64 p, .int .i64 q] 1).run Try.prog w = .ok (.int .i64 q) w := fun p q w => by kernel_rfl
  have key : ∀ d : Nat, (Op.equalIn (d + 1 + 1) 38 (.agg #[.int .i64 a, .int .i64 b]) (.agg #[.int .i64 x, .int .i64 y])).run Try.prog w = .ok (decide (a = x ∧ b = y)) w := fun d => by
    rw [Op.equalIn]
    simp only [Sem.run_bind, run_underlying Try.underlying38, Result.andThen_ok, hs]

    by_cases ha : a = x
    · by_cases hb : b = y
      · simp [Std.Legacy.Range.forIn_eq_forIn_range', h1, hp0, hp1, ha, hb, List.range'_succ, Sem.run_bind]
      · simp [Std.Legacy.Range.forIn_eq_forIn_range', h1, hp0, hp1, ha, hb, List.range'_succ, Sem.run_bind]
    · simp [Std.Legacy.Range.forIn_eq_forIn_range', h1, hp0, hp1, ha, List.range'_succ, Sem.run_bind]
  exact key 9998
def pairIn (l : List (Int × Int)) (a b : Int) : Bool := decide ((a, b) ∈ l)
def pairIdx (l : List (Int × Int)) (a b : Int) (i : Int) : Prop := decide (0 ≤ i) = pairIn l a b

set_option maxHeartbeats 1000000 in
theorem indexPair_any (v : Value) (l : List (Int × Int)) (a b : Int) (w : World) (hp : Pairs w v l) (hl : l.length ≤ 140737488355328) :
    Calls Try.prog 50 #[v, .agg #[.int .i64 a, .int .i64 b]] w fun e w' => (∃ i : Int, e = .returned (.int .i64 i) ∧ pairIdx l a b i) ∧ Below w.heap.size w w' := by
  obtain ⟨ao, cap, rfl, h⟩ := hp
  have HH := Lib.hid h
  clear h
  go_enter Try.func50, Try.ntmps50
  go_wp2
  go_loopw [5, 8] (fun _ i wr => ∃ k : Nat, k ≤ l.length ∧ i = .int .i64 k ∧ Below (w.heap.size + 1) (w.alloc (.cells #[.int .i64 a, .int .i64 b] 38)) wr ∧ Hid (∀ (j : Nat) y, j < k → l[j]? = some y → y ≠ (a, b))) (fun _ i _ => l.length - (intOf i).toNat)
  case atStart => exact ⟨0, Nat.zero_le _, rfl, Below.refl _ _, fun j _ hj => by omega⟩
  case round =>
    obtain ⟨k, hk, rfl, hBr, hno⟩ := hrel
    have hBw : Below w.heap.size w wr := (below_new w _).trans (hBr.mono (by omega))
    have g1 := (hBr.cell (p := ⟨w.heap.size, 0, none⟩) (by simp)).trans (show _ = some (.int .i64 a) by rw [World.cell?_alloc_at _ _ _ _ rfl]; rfl)
    have g2 := (hBr.cell (p := ⟨w.heap.size, 1, none⟩) (by simp)).trans (show _ = some (.int .i64 b) by rw [World.cell?_alloc_at _ _ _ _ rfl]; rfl)
    by_cases hk2 : k < l.length
    · obtain ⟨eb, off, rfl, hbl, hc⟩ := HH.out (by omega)
      obtain ⟨⟨x, y⟩, hy⟩ : ∃ y, l[k]? = some y := ⟨_, List.getElem?_eq_getElem hk2⟩
      obtain ⟨hc1, hc2⟩ := hc k _ hy
      have hd1 := (hBw.cell (p := ⟨eb, off + k * 2, none⟩) hbl).trans hc1
      have hd2 := (hBw.cell (p := ⟨eb, off + k * 2 + 1, none⟩) hbl).trans hc2
      have HY := Lib.hid hy
      have k0 : (0 : Int) ≤ (k : Int) := Int.natCast_nonneg _
      have k1 : (k : Int) < (l.length : Int) := by omega
      clear hy hc hc1 hc2
      by_cases hab : a = x ∧ b = y
      · obtain ⟨rfl, rfl⟩ := hab
        have HR := Lib.hid (show pairIn l a b = true from dec_yes (List.mem_of_getElem? HY.out))
        have hq : ∀ W, (Op.equalIn 10000 38 (.agg #[.int .i64 a, .int .i64 b]) (.agg #[.int .i64 a, .int .i64 b])).run Try.prog W = .ok true W := fun W => by rw [run_eq_pair]; simp
        go_wp2
        go_region
        all_goals
          go_wp2
          go_ret
          exact ⟨⟨k, rfl, by unfold pairIdx; rw [HR.out]; simp⟩, by first | exact below_drewN' hBw 1 | exact hBw.drew⟩
      · have HN : Hid (∀ (j : Nat) y, j < k + 1 → l[j]? = some y → y ≠ (a, b)) := fun j z hj hz => by
          by_cases e : j = k
          · subst e; rw [HY.out] at hz; cases hz; exact fun e => hab (by injection e with e1 e2; exact ⟨e1.symm, e2.symm⟩)
          · exact hno.out j z (by omega) hz
        have hq : ∀ W, (Op.equalIn 10000 38 (.agg #[.int .i64 a, .int .i64 b]) (.agg #[.int .i64 x, .int .i64 y])).run Try.prog W = .ok false W := fun W => by rw [run_eq_pair, dec_no hab]
        clear hab
        go_wp2
        go_region
        all_goals
          go_wp2
          go_roundw
          case rel => exact ⟨k + 1, by omega, by go_num, hBr.drew, HN.out⟩
          case measure => simp [intOf]; omega
    · have HR := Lib.hid (show pairIn l a b = false from dec_no fun hm => by
        obtain ⟨j, hj⟩ := List.mem_iff_getElem?.1 hm
        exact hno.out j _ (by have := (List.getElem?_eq_some_iff.1 hj).1; omega) hj rfl)
      go_wp2
      go_ret
      exact ⟨⟨-1, rfl, by unfold pairIdx; rw [HR.out]; rfl⟩, hBw⟩

theorem containsPair_any (v : Value) (l : List (Int × Int)) (a b : Int) (w : World) (hp : Pairs w v l) (hl : l.length ≤ 140737488355328) :
    Calls Try.prog 19 #[v, .agg #[.int .i64 a, .int .i64 b]] w fun e w' => e = .returned (.bool (pairIn l a b)) ∧ Below w.heap.size w w' := by
  have hb0 := below_new w (.cells #[.int .i64 a, .int .i64 b] 38)
  have HI := Lib.hid (indexPair_any v l a b _ (hp.below hb0) hl)
  clear hp
  go_enter Try.func19, Try.ntmps19
  go_wp2_with fail
  refine HI.out.mono ?_
  rintro e w9 ⟨⟨i, rfl, hi⟩, hb1⟩
  unfold pairIdx at hi
  have HR := Lib.hid hi
  clear hi
  go_wp2
  go_ret
  exact ⟨ret_bool HR.out, bstep hb0 hb1⟩
end Go.Proofs.Ythhhcaleoiopgaa
