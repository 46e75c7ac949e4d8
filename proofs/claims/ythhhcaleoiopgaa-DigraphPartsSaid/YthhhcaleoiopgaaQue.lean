/-
  A queue: a slice of the call's own that begins anywhere in its block; a push onto it, its tail.
-/
import Derived.Test.YthhhcaleoiopgaaMat
namespace Go.Proofs.Ythhhcaleoiopgaa
open Go.RowKit
set_option linter.unusedVariables false

def Que {α : Type} (w : World) (base : Nat) (e : TypeId) (f : α → Value) (g off cap : Nat) (l : List α) : Prop :=
  ∃ cur : Array Value, l.length ≤ cap ∧ cap ≤ maxLen ∧ base ≤ g ∧ w.heap[g]? = some (.cells cur e (0, 0)) ∧ off + cap ≤ cur.size ∧ ∀ (k : Nat) x, l[k]? = some x → cur[off + k]? = some (f x)

section
variable {α : Type} {w w1 : World} {base g off cap : Nat} {e : TypeId} {f : α → Value} {l : List α}
theorem Que.lt (h : Que w base e f g off cap l) : base ≤ g ∧ g < w.heap.size := by
  obtain ⟨cur, _, _, hb, hg, _⟩ := h
  exact ⟨hb, (Array.getElem?_eq_some_iff.1 hg).1⟩
theorem Que.cell (h : Que w base e f g off cap l) {k : Nat} {x : α} (hx : l[k]? = some x) : w.cell? ⟨g, off + k, none⟩ = some (f x) := by
  obtain ⟨cur, _, _, hb, hg, _, hc⟩ := h
  simp [World.cell?, hg, hc k x hx]
theorem Que.free (h : Que w base e f g off cap l) (k : Nat) : w.frozen? ⟨g, k, none⟩ = false := by
  obtain ⟨cur, _, _, hb, hg, _, hc⟩ := h
  simp [World.frozen?, hg]
theorem Que.len (h : Que w base e f g off cap l) : l.length ≤ cap ∧ cap ≤ maxLen := ⟨h.choose_spec.1, h.choose_spec.2.1⟩
theorem Que.kept (h : Que w base e f g off cap l) (hk : w1.heap[g]? = w.heap[g]?) : Que w1 base e f g off cap l := by
  obtain ⟨cur, h1, h2, h3, hg, h4, hc⟩ := h
  exact ⟨cur, h1, h2, h3, hk.trans hg, h4, hc⟩
theorem Que.only (h : Que w base e f g off cap l) {r : Option Nat} (hg : w.grownBy w1 r) (hne : some g ≠ r) : Que w1 base e f g off cap l := h.kept (hg.block g h.lt.2 hne)
theorem Que.below (h : Que w base e f g off cap l) (hb : Below w.heap.size w w1) : Que w1 base e f g off cap l := h.kept (hb.block g h.lt.2)
/-- q[1:], where the array does not end there, and where it does. -/
theorem Que.tail {x : α} (h : Que w base e f g off cap (x :: l)) : Que w base e f g (off + 1) (cap - 1) l := by
  obtain ⟨cur, h1, h2, h3, hg, h4, hc⟩ := h
  simp only [List.length_cons] at h1
  refine ⟨cur, by omega, by omega, h3, hg, by omega, fun k y hk => ?_⟩
  have := hc (k + 1) y (by simpa using hk)
  rwa [show off + (k + 1) = off + 1 + k by omega] at this
theorem Que.last {x : α} (h : Que w base e f g off 1 (x :: l)) : Que w base e f g off 0 l := by
  obtain ⟨cur, h1, h2, h3, hg, h4, hc⟩ := h
  simp only [List.length_cons] at h1
  have : l = [] := List.eq_nil_of_length_eq_zero (by omega)
  subst this
  exact ⟨cur, by simp, by unfold maxLen; omega, h3, hg, by omega, fun k y hk => by simp at hk⟩
theorem Que.of_one (w : World) (f : α → Value) (x : α) (hb : base ≤ w.heap.size) : Que (w.alloc (.cells #[f x] e)) base e f w.heap.size 0 1 [x] := by
  refine ⟨#[f x], by simp, by unfold maxLen; omega, hb, heap_alloc_new w _, by simp, fun k y hk => ?_⟩
  match k, hk with
  | 0, hk => cases hk; rfl
end

theorem setCells_one (w : World) (b o : Nat) (v : Value) : w.setCells b o [v] = w.setCell ⟨b, o, none⟩ v := rfl

/-- 'q = append(q, y)'. -/
theorem wpList_pushQ {α : Type} {P : Program} (w0 : World) {ops : Array Oper} {rest : List Oper} {o : Oper} {a : Act} {Q : Exit → Act → World → Prop} (hgd : o.guard = none) (s x : Operand) (t : TypeId)
    (ho : o.op = .call { callee := .builtin .append, args := #[s, x], argTypes := #[t, t] })
    (e bytes : Nat) (he : Elem P t e bytes) (base : Nat) (f : α → Value) (g off cap : Nat) (l : List α) (y : α) (h1 : ∀ y, (f y).oneCell' = true)
    (hq : Que w0 base e f g off cap l) (hs : a.eval s = .slice (some ⟨g, off, none⟩) l.length cap) (N : Nat) (hN : w0.heap.size = N) (hx : a.eval x = .slice (some ⟨N, 0, none⟩) 1 1)
    (h63 : l.length + 1 ≤ 1099511627776) (hby : bytes ≤ 64) (hbase : base ≤ w0.heap.size)
    (hK : ∀ g' off' cap' w', Que w' base e f g' off' cap' (l ++ [y]) → w0.grownBy w' (some g) → ((g' = g ∧ off' = off) ∨ (N ≤ g' ∧ off' = 0)) → wpList P ops Q rest (a.put o.dst (.slice (some ⟨g', off', none⟩) (l.length + 1) cap')) w') :
    wpList P ops Q (o :: rest) a (w0.alloc (.cells #[f y] e)) := by
  subst hN
  obtain ⟨ht, i, z, hi, hz, hsz, hb, hzs⟩ := he
  obtain ⟨cur, q1, q2, q3, hg, q4, hc⟩ := hq
  have hglt : g < w0.heap.size := (Array.getElem?_eq_some_iff.1 hg).1
  have hg1 : (w0.alloc (.cells #[f y] e)).heap[g]? = some (.cells cur e (0, 0)) := (Below.heap_alloc w0 _ g hglt).trans hg
  have hnews : ∀ j u, [f y][j]? = some u → (w0.alloc (.cells #[f y] e)).cell? ((⟨w0.heap.size, 0, none⟩ : Addr).add j) = some u := by
    intro j u hj
    match j, hj with
    | 0, hj =>
      cases hj
      rw [Addr.add_lit, World.cell?_alloc_at _ _ _ _ rfl]; rfl
  have hone : ∀ u ∈ [f y], u.oneCell' = true := by
    intro u hu
    rw [List.mem_singleton.1 hu]; exact h1 y
  refine wpList_plain hgd fun K hK' => ?_
  unfold Oper.wp execOp
  simp only [ho, resolve, invoke, builtin, Sem.run_bind, Sem.run_pure, Result.andThen_ok, List.map_toArray, List.map_cons, List.map_nil, hs, hx]
  by_cases hroom : l.length + 1 ≤ cap
  · have hlt : off + l.length < cur.size := by omega
    have hrun := run_append_room_cells (P := P) (w0.alloc (.cells #[f y] e)) t o.type e i ht hi g off l.length cap ⟨w0.heap.size, 0, none⟩ 1 1 [f y] (by simp [hsz]) hnews hone hroom
      (by
        intro j hj
        simp only [List.length_singleton] at hj
        obtain rfl : j = 0 := by omega
        simp [World.cell?, hg1, hsz, hlt])
      (by
        intro j hj
        simp [World.frozen?, hg1])
    rw [setCells_one, hsz, Nat.mul_one] at hrun
    simp only [hrun, Result.andThen_ok]
    refine hK' _ _ (hK g off cap _ ?_ ?_ (.inl ⟨rfl, rfl⟩))
    · refine ⟨cur.setIfInBounds (off + l.length) (f y), by simpa using hroom, q2, q3, heap_setCell_same _ g (off + l.length) cur e (f y) hg1, by simpa using q4, fun k u hk => ?_⟩
      rcases Nat.lt_or_ge k l.length with hkl | hkl
      · rw [List.getElem?_append_left hkl] at hk
        rw [Array.getElem?_setIfInBounds_ne (by omega)]
        exact hc k u hk
      · rw [List.getElem?_append_right hkl] at hk
        have : k - l.length = 0 := by
          have := (List.getElem?_eq_some_iff.1 hk).1
          simp at this; omega
        rw [this] at hk
        cases hk
        rw [show off + k = off + l.length by omega, Array.getElem?_setIfInBounds_self_of_lt (by exact hlt)]
    · exact only_trans (World.grownBy_alloc w0 _ (some g)) (only_set _ _ _ _)
  · have holds : ∀ j u, (l.map f)[j]? = some u → (w0.alloc (.cells #[f y] e)).cell? ((⟨g, off, none⟩ : Addr).add j) = some u := by
      intro j u hj
      rw [List.getElem?_map] at hj
      obtain ⟨x', hx', rfl⟩ := Option.map_eq_some_iff.1 hj
      rw [Addr.add_lit]
      simp [World.cell?, hg1, hc j x' hx']
    obtain ⟨v', w', hrun, hown, hgr⟩ := run_append_arg_grows (P := P) (w0.alloc (.cells #[f y] e)) t o.type e i z 1 bytes ht hi hz hsz hb hzs (by omega) ⟨g, off, none⟩ l.length cap (l.map f) (by simp) holds
      ⟨w0.heap.size, 0, none⟩ 1 1 [f y] rfl hnews (by omega) (by unfold maxLen; omega) (by
        have : (l.length + 1) * bytes ≤ 1099511627776 * 64 := Nat.mul_le_mul h63 hby
        omega)
    rcases hown.2 with ⟨_, h0⟩ | ⟨g', cap', cur', rfl, hbg, hgg, hnc, hcm, hcs, htake⟩
    · omega
    · simp only [hrun, Result.andThen_ok]
      have hsz0 : (w0.alloc (.cells #[f y] e)).heap.size = w0.heap.size + 1 := by simp
      refine hK' _ _ (hK g' 0 cap' _ ?_ ?_ (.inr ⟨by omega, rfl⟩))
      · refine ⟨cur', by simpa using hnc, hcm, by omega, hgg, by omega, fun k u hk => ?_⟩
        have hlk : k < l.length + 1 := by
          have := (List.getElem?_eq_some_iff.1 hk).1
          simpa using this
        have e1 : (l.map f ++ [f y])[k]? = some (f u) := by
          rw [show l.map f ++ [f y] = (l ++ [y]).map f by simp, List.getElem?_map, hk]; rfl
        rw [← htake] at e1
        rw [List.getElem?_take_of_lt (by omega)] at e1
        rw [Nat.zero_add]
        simpa using e1
      · exact only_next (World.grownBy_alloc w0 _ (some g)) hgr (.inr (by intro g e; cases e))

end Go.Proofs.Ythhhcaleoiopgaa
