/-
  Slices of pairs of integers of the call's own; EqualFunc over rows.
-/
import Derived.Test.YthhhcaleoiopgaaPdr
namespace Go.Proofs.Ythhhcaleoiopgaa
open Go.RowKit
set_option linter.unusedVariables false
attribute [local go_sem ↓] Go.wp_at_zero Go.wp_at_succ

def cellsQ (l : List (Int × Int)) : List Value := l.flatMap fun e => [.int .i64 (e.1 : Int), .int .i64 (e.2 : Int)]
theorem cellsQ_get (l : List (Int × Int)) : ∀ (k : Nat) e, l[k]? = some e → (cellsQ l)[k * 2]? = some (.int .i64 (e.1 : Int)) ∧ (cellsQ l)[k * 2 + 1]? = some (.int .i64 (e.2 : Int)) := by
  induction l with
  | nil => intro k e h; cases h
  | cons a l ih =>
    intro k e h
    have hc : cellsQ (a :: l) = .int .i64 (a.1 : Int) :: .int .i64 (a.2 : Int) :: cellsQ l := rfl
    rw [hc]
    cases k with
    | zero => cases h; exact ⟨rfl, rfl⟩
    | succ k =>
      have := ih k e (by simpa using h)
      rw [show (k + 1) * 2 = k * 2 + 2 by omega, show k * 2 + 2 + 1 = k * 2 + 1 + 2 by omega]
      simpa using this

def OwnQ (w : World) (base : Nat) (v : Value) (l : List (Int × Int)) : Prop := w.ownsRow base 38 2 v l.length (cellsQ l)
section
variable {w w1 : World} {base : Nat} {v : Value} {l : List (Int × Int)}
theorem OwnQ.nil (w : World) (base : Nat) : OwnQ w base (.slice none 0 0) [] := World.ownsRow_nil _ _ _ _
theorem OwnQ.shape (h : OwnQ w base v l) : ∃ ao cap, v = .slice ao l.length cap := by
  rcases h.2 with ⟨rfl, h0⟩ | ⟨g, cap, cur, rfl, hb, hg, _⟩
  · exact ⟨none, 0, by rw [h0]⟩
  · exact ⟨_, cap, rfl⟩
theorem OwnQ.lt (h : OwnQ w base v l) : ∀ g, v.ownBlock = some g → base ≤ g ∧ g < w.heap.size := World.ownsRow.lt h
theorem OwnQ.pairs (h : OwnQ w base v l) : Pairs w v l := by
  have h0 := h
  rcases h.2 with ⟨rfl, hl⟩ | ⟨g, cap, cur, rfl, hb, hg, _⟩
  · have : l = [] := List.eq_nil_of_length_eq_zero hl
    subst this
    exact ⟨none, 0, rfl, fun h => absurd h (by simp)⟩
  · refine ⟨_, cap, rfl, fun _ => ⟨g, 0, rfl, (Array.getElem?_eq_some_iff.1 hg).1, fun k x hx => ?_⟩⟩
    obtain ⟨h1, h2⟩ := cellsQ_get l k x hx
    have c1 := World.ownsRow.cells h0 (g := g) rfl (k * 2) _ h1
    have c2 := World.ownsRow.cells h0 (g := g) rfl (k * 2 + 1) _ h2
    simp only [Addr.add_lit] at c1 c2
    exact ⟨c1, by rw [Nat.add_assoc]; exact c2⟩
theorem OwnQ.kept (h : OwnQ w base v l) (hk : ∀ g, v.ownBlock = some g → w1.heap[g]? = w.heap[g]?) : OwnQ w1 base v l := by
  refine ⟨h.1, ?_⟩
  rcases h.2 with hn | ⟨g, cap, cur, rfl, hb, hgg, rest⟩
  · exact .inl hn
  · exact .inr ⟨g, cap, cur, rfl, hb, (hk g rfl).trans hgg, rest⟩
theorem OwnQ.below (h : OwnQ w base v l) (hb : Below w.heap.size w w1) : OwnQ w1 base v l := h.kept fun g hv => hb.block g (h.lt g hv).2
end

theorem wpList_pushQQ (w0 : World) {ops : Array Oper} {rest : List Oper} {o : Oper} {a : Act} {Q : Exit → Act → World → Prop} (hgd : o.guard = none) (s x : Operand)
    (ho : o.op = .call { callee := .builtin .append, args := #[s, x], argTypes := #[22, 22] })
    (base : Nat) (v : Value) (l : List (Int × Int)) (p q : Int)
    (hown : OwnQ w0 base v l) (hs : a.eval s = v) (hx : a.eval x = .slice (some ⟨w0.heap.size, 0, none⟩) 1 1)
    (h63 : l.length + 1 ≤ 1099511627776) (hbase : base ≤ w0.heap.size)
    (hK : ∀ v' w', OwnQ w' base v' (l ++ [(p, q)]) → w0.grownBy w' v.ownBlock → wpList Try.prog ops Q rest (a.put o.dst v') w') :
    wpList Try.prog ops Q (o :: rest) a (w0.alloc (.cells #[.int .i64 (p : Int), .int .i64 (q : Int)] 38)) := by
  have hinf : (Try.prog.info? 38).map (fun i => (i.zero, i.size, i.bytes)) = some (some (.agg #[.int .i64 0, .int .i64 0]), 2, 16) := by kernel_rfl
  obtain ⟨i, hi, hz, hsz, hb⟩ := info_parts hinf
  have hown1 : (w0.alloc (.cells #[.int .i64 (p : Int), .int .i64 (q : Int)] 38)).ownsRow base 38 2 v l.length (cellsQ l) := World.ownsRow.alloc hown _
  obtain ⟨v', w', hrun, h2, h3, _, h5⟩ := run_append_own_at (P := Try.prog) (w0.alloc (.cells #[.int .i64 (p : Int), .int .i64 (q : Int)] 38)) base 22 o.type 38 i _ 2 16 Try.underlying22 hi hz hsz hb (by rfl) (by omega) v l.length (cellsQ l) hown1
    ⟨w0.heap.size, 0, none⟩ 1 1 [.int .i64 (p : Int), .int .i64 (q : Int)] rfl (by
      intro j u hj
      match j, hj with
      | 0, hj =>
        cases hj
        rw [Addr.add_lit, World.cell?_alloc_at _ _ _ _ rfl]; rfl
      | 1, hj =>
        cases hj
        rw [Addr.add_lit, World.cell?_alloc_at _ _ _ _ rfl]; rfl) (by
      intro u hu
      simp only [List.mem_cons, List.mem_nil_iff, or_false] at hu
      rcases hu with rfl | rfl <;> rfl) (by unfold maxLen; omega) (by omega) (by simp; omega)
  refine wpList_plain hgd fun K hK' => ?_
  unfold Oper.wp execOp
  simp only [ho, resolve, invoke, builtin, Sem.run_bind, Sem.run_pure, Result.andThen_ok, List.map_toArray, List.map_cons, List.map_nil, hs, hx, hrun]
  refine hK' _ _ (hK v' w' ?_ ?_)
  · unfold OwnQ
    rw [List.length_append]
    have : cellsQ (l ++ [(p, q)]) = cellsQ l ++ [.int .i64 (p : Int), .int .i64 (q : Int)] := by simp [cellsQ]
    rw [this]
    exact h2
  · exact only_next (World.grownBy_alloc w0 _ v.ownBlock) h3 (.inl rfl)

set_option maxRecDepth 100000 in
set_option maxHeartbeats 1000000 in
theorem eqFunc_yes (v v' : Value) (l : List (List Nat)) (w : World) (h : Rows w v l) (h' : Rows w v' l) (hl : l.length ≤ 1000000) (hr : ∀ r ∈ l, r.length ≤ 1000000) :
    Calls Try.prog 28 #[v, v', .func (.func 17) #[] #[]] w fun e w' => e = .returned (.bool true) ∧ Below w.heap.size w w' := by
  have HR := Lib.hid hr
  have H := Lib.hid h
  have H' := Lib.hid h'
  obtain ⟨ao, cap, rfl, _⟩ := h
  obtain ⟨ao', cap', rfl, _⟩ := h'
  have hF : ∀ (xs : Array Value) (W : World), (callFunc 17 xs).run Try.prog W = .ok (.enter 17 xs) W := fun xs W => by rfl
  have hne : ((l.length : Int) != (l.length : Int)) = false := by simp
  clear hr
  go_enter Try.func28, Try.ntmps28
  go_wp2
  clear hne
  go_loopw [7, 8, 9, 17] (fun _ _ _ s17 wr => ∃ k : Nat, k ≤ l.length ∧ s17 = .int .i64 (k : Int) ∧ Below w.heap.size w wr) (fun _ _ _ s17 _ => l.length - (intOf s17).toNat)
  case atStart => exact ⟨0, Nat.zero_le _, rfl, Below.refl _ _⟩
  case round =>
    obtain ⟨k, hk, rfl, hB⟩ := hrel
    by_cases hlt : k < l.length
    · obtain ⟨r, hkr⟩ : ∃ r, l[k]? = some r := ⟨_, List.getElem?_eq_getElem hlt⟩
      have hrl := HR.out r (List.mem_of_getElem? hkr)
      obtain ⟨b, off, rfl, hbl, uo, uc, c1, N⟩ := rows_get H.out hkr
      obtain ⟨b', off', rfl, hbl', uo', uc', c1', N'⟩ := rows_get H'.out hkr
      have d1 := (hB.cell (p := ⟨b, off + k, none⟩) hbl).trans c1
      have d2 := (hB.cell (p := ⟨b', off' + k, none⟩) hbl').trans c1'
      have HE := Lib.hid (equalN_yes _ _ r r wr (N.below hB) (N'.below hB) (by omega) rfl)
      have k0 : (0 : Int) ≤ (k : Int) := Int.natCast_nonneg _
      have k1 : (k : Int) < (l.length : Int) := by omega
      clear hkr c1 c1' N N'
      go_wp2_with fail
      refine HE.out.mono ?_
      rintro e w9 ⟨rfl, hb9⟩
      have hB9 := bstep hB hb9
      go_wp2
      go_roundw
      case rel => exact ⟨k + 1, by omega, by go_num, hB9⟩
      case measure => simp [intOf]; omega
    · go_wp2
      go_ret
      exact ⟨rfl, hB⟩
end Go.Proofs.Ythhhcaleoiopgaa
