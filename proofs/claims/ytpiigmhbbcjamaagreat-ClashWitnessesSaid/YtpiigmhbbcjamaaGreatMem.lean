/-
  Words for memory: slices that read as lists (Sl, Pairs, Rows), slices of the call's own (Own), a push onto one, what a step leaves alone.
-/
import Derived.Test.YtpiigmhbbcjamaaGreatChecked
import Derived.WalkKit
import Derived.Handy
import Derived.Lib.Hide
import Derived.BigQuiet
import Derived.Deep.QuietTactic
import Derived.Maps.AppendAt
import Derived.Laws.MakeOwn
namespace Go.Proofs.YtpiigmhbbcjamaaGreat
open Go.RowKit
set_option linter.unusedVariables false

theorem ret_int {k : IntKind} {a b : Int} (h : a = b) : Ending.returned (.int k a) = .returned (.int k b) := by rw [h]
theorem ret_bool {a b : Bool} (h : a = b) : Ending.returned (.bool a) = .returned (.bool b) := by rw [h]
theorem ret2_any {a b a' b' : Value} (h : a = b) (h' : a' = b') : Ending.returned (.tuple #[a, a']) = .returned (.tuple #[b, b']) := by rw [h, h']
theorem val_int {k : IntKind} {a b : Int} (h : a = b) : Value.int k a = .int k b := by rw [h]
theorem val_bool {a b : Bool} (h : a = b) : Value.bool a = .bool b := by rw [h]
theorem bne_no {a b : Int} (h : a = b) : (a != b) = false := by rw [h]; simp
theorem bne_yes {a b : Int} (h : a ≠ b) : (a != b) = true := by simpa using h
theorem beq_no {a b : Int} (h : a ≠ b) : (a == b) = false := by simpa using h
theorem beq_yes {a b : Int} (h : a = b) : (a == b) = true := by simpa using h
theorem dec_no {p : Prop} [Decidable p] (h : ¬ p) : decide p = false := by simpa using h
theorem dec_yes {p : Prop} [Decidable p] (h : p) : decide p = true := by simpa using h

theorem below_new (w : World) (o : Obj) : Below w.heap.size w (w.alloc o) := (Below.refl _ _).alloc (Nat.le_refl _) o
theorem below_drewN' {B : Nat} {a w : World} (h : Below B a w) (n : Nat) : Below B a (w.drewN n) := ⟨h.os, h.tape, h.output, h.size, h.block⟩
theorem bstep {w W w1 : World} (h : Below w.heap.size w W) (hb : Below W.heap.size W w1) : Below w.heap.size w w1 := h.trans (hb.mono h.size)
theorem bdraw {w : World} (n : Nat) : Below w.heap.size w (w.drewN n) := below_drewN' (Below.refl _ _) n

/-! ### steps that leave all blocks but one alone -/
theorem only_refl (w : World) (r : Option Nat) : w.grownBy w r := ⟨rfl, rfl, rfl, Nat.le_refl _, fun _ _ _ => rfl⟩
theorem only_below {w w1 : World} (h : Below w.heap.size w w1) (r : Option Nat) : w.grownBy w1 r := ⟨h.os, h.tape, h.output, h.size, fun i hi _ => h.block i hi⟩
theorem below_only {w w1 : World} (h : w.grownBy w1 none) : Below w.heap.size w w1 := ⟨h.os, h.tape, h.output, h.size, fun i hi => h.block i hi (by simp)⟩
/-- A step that turned a block of the call's own is 'Below' for what was there when the call began. -/
theorem below_grown {B : Nat} {w0 w w1 : World} (h : Below B w0 w) {r : Option Nat} (hg : w.grownBy w1 r) (hB : B ≤ w.heap.size) (hr : ∀ g, r = some g → B ≤ g) : Below B w0 w1 := h.grown hg hB hr
theorem only_trans {w w1 w2 : World} {r : Option Nat} (h : w.grownBy w1 r) (k : w1.grownBy w2 r) : w.grownBy w2 r :=
  ⟨k.os.trans h.os, k.tape.trans h.tape, k.output.trans h.output, Nat.le_trans h.size k.size, fun i hi hn => (k.block i (Nat.lt_of_lt_of_le hi h.size) hn).trans (h.block i hi hn)⟩
/-- Two steps: the second turned the first's block, or a new one. -/
theorem only_next {w w1 w2 : World} {r r' : Option Nat} (h : w.grownBy w1 r) (k : w1.grownBy w2 r') (hr : r' = r ∨ ∀ g, r' = some g → w.heap.size ≤ g) : w.grownBy w2 r :=
  ⟨k.os.trans h.os, k.tape.trans h.tape, k.output.trans h.output, Nat.le_trans h.size k.size, fun i hi hn => (k.block i (Nat.lt_of_lt_of_le hi h.size) (by
    intro e
    rcases hr with hr | hr
    · exact hn (e.trans hr)
    · have := hr i e.symm; omega)).trans (h.block i hi hn)⟩
theorem only_alloc' {w w1 : World} {r : Option Nat} (h : w.grownBy w1 r) (o : Obj) : w.grownBy (w1.alloc o) r := only_next h (World.grownBy_alloc w1 o none) (.inr (by intro g e; cases e))
theorem only_draw {w w1 : World} {r : Option Nat} (h : w.grownBy w1 r) (n : Nat) : w.grownBy (w1.drewN n) r := ⟨h.os, h.tape, h.output, h.size, h.block⟩
theorem only_set (w : World) (g i : Nat) (u : Value) : w.grownBy (w.setCell ⟨g, i, none⟩ u) (some g) :=
  ⟨rfl, rfl, rfl, by simp, fun k _ hk => heap_setCell_other w ⟨g, i, none⟩ k u (fun e => hk (by simp [e]))⟩

/-! ### a slice that reads as a list -/
def Sl {α : Type} (w : World) (f : α → Value) (v : Value) (l : List α) : Prop :=
  ∃ ao cap, v = .slice ao l.length cap ∧ (0 < l.length → ∃ b off, ao = some ⟨b, off, none⟩ ∧ b < w.heap.size ∧ ∀ k x, l[k]? = some x → w.cell? ⟨b, off + k, none⟩ = some (f x))

theorem Sl.keep {α : Type} {w w1 : World} {f : α → Value} {v : Value} {l : List α} (h : Sl w f v l) (hs : w.heap.size ≤ w1.heap.size) (hk : ∀ b o, b < w.heap.size → (∃ off n c, v = .slice (some ⟨b, off, none⟩) n c) → w1.cell? ⟨b, o, none⟩ = w.cell? ⟨b, o, none⟩) : Sl w1 f v l := by
  obtain ⟨ao, cap, rfl, h⟩ := h
  refine ⟨ao, cap, rfl, fun hl => ?_⟩
  obtain ⟨b, off, rfl, hlt, hc⟩ := h hl
  exact ⟨b, off, rfl, Nat.lt_of_lt_of_le hlt hs, fun k x hx => (hk b _ hlt ⟨_, _, _, rfl⟩).trans (hc k x hx)⟩
theorem Sl.below {α : Type} {w w1 : World} {f : α → Value} {v : Value} {l : List α} (h : Sl w f v l) (hb : Below w.heap.size w w1) : Sl w1 f v l :=
  h.keep hb.size fun b o hlt _ => hb.cell (p := ⟨b, o, none⟩) hlt
theorem Sl.nil {α : Type} (w : World) (f : α → Value) (ao : Option Addr) (c : Nat) : Sl w f (.slice ao 0 c) ([] : List α) := ⟨ao, c, rfl, fun h => absurd h (by simp)⟩
theorem Sl.map_ {α β : Type} {w : World} {f : α → Value} {g : β → Value} {v : Value} {l : List α} (h : Sl w f v l) (m : α → β) (hm : ∀ x, f x = g (m x)) : Sl w g v (l.map m) := by
  obtain ⟨ao, cap, rfl, h⟩ := h
  refine ⟨ao, cap, by simp, fun hl => ?_⟩
  obtain ⟨b, off, rfl, hlt, hc⟩ := h (by simpa using hl)
  refine ⟨b, off, rfl, hlt, fun k x hx => ?_⟩
  rw [List.getElem?_map] at hx
  obtain ⟨y, hy, rfl⟩ := Option.map_eq_some_iff.1 hx
  rw [hc k y hy, hm]

abbrev Ints (w : World) (v : Value) (l : List Int) : Prop := Sl w (fun x : Int => .int .i64 x) v l
abbrev Nats (w : World) (v : Value) (l : List Nat) : Prop := Sl w (fun x : Nat => .int .i64 (x : Int)) v l
abbrev Bools (w : World) (v : Value) (l : List Bool) : Prop := Sl w (fun x : Bool => .bool x) v l

theorem Nats.ints {w : World} {v : Value} {l : List Nat} (h : Nats w v l) : Ints w v (l.map (fun x : Nat => (x : Int))) := Sl.map_ h _ (fun _ => rfl)

/-- A slice of pairs. -/
def Pairs (w : World) (v : Value) (l : List (Int × Int)) : Prop :=
  ∃ ao cap, v = .slice ao l.length cap ∧ (0 < l.length → ∃ b off, ao = some ⟨b, off, none⟩ ∧ b < w.heap.size ∧ ∀ k x, l[k]? = some x → w.cell? ⟨b, off + k * 2, none⟩ = some (.int .i64 x.1) ∧ w.cell? ⟨b, off + k * 2 + 1, none⟩ = some (.int .i64 x.2))
theorem Pairs.keep {w w1 : World} {v : Value} {l : List (Int × Int)} (h : Pairs w v l) (hs : w.heap.size ≤ w1.heap.size) (hk : ∀ b o, b < w.heap.size → (∃ off n c, v = .slice (some ⟨b, off, none⟩) n c) → w1.cell? ⟨b, o, none⟩ = w.cell? ⟨b, o, none⟩) : Pairs w1 v l := by
  obtain ⟨ao, cap, rfl, h⟩ := h
  refine ⟨ao, cap, rfl, fun hl => ?_⟩
  obtain ⟨b, off, rfl, hlt, hc⟩ := h hl
  exact ⟨b, off, rfl, Nat.lt_of_lt_of_le hlt hs, fun k x hx => ⟨(hk b _ hlt ⟨_, _, _, rfl⟩).trans (hc k x hx).1, (hk b _ hlt ⟨_, _, _, rfl⟩).trans (hc k x hx).2⟩⟩
theorem Pairs.below {w w1 : World} {v : Value} {l : List (Int × Int)} (h : Pairs w v l) (hb : Below w.heap.size w w1) : Pairs w1 v l :=
  h.keep hb.size fun b o hlt _ => hb.cell (p := ⟨b, o, none⟩) hlt

/-- A slice of slices: each element by a reading R of its own. -/
def SlOf {α : Type} (R : World → Value → α → Prop) (w : World) (v : Value) (l : List α) : Prop :=
  ∃ ao cap, v = .slice ao l.length cap ∧ (0 < l.length → ∃ b off, ao = some ⟨b, off, none⟩ ∧ b < w.heap.size ∧ ∀ k x, l[k]? = some x → ∃ u, w.cell? ⟨b, off + k, none⟩ = some u ∧ R w u x)
theorem SlOf.below {α : Type} {R : World → Value → α → Prop} (hR : ∀ w w1 u x, R w u x → Below w.heap.size w w1 → R w1 u x) {w w1 : World} {v : Value} {l : List α} (h : SlOf R w v l) (hb : Below w.heap.size w w1) : SlOf R w1 v l := by
  obtain ⟨ao, cap, rfl, h⟩ := h
  refine ⟨ao, cap, rfl, fun hl => ?_⟩
  obtain ⟨b, off, rfl, hlt, hc⟩ := h hl
  refine ⟨b, off, rfl, Nat.lt_of_lt_of_le hlt hb.size, fun k x hx => ?_⟩
  obtain ⟨u, hu, hr⟩ := hc k x hx
  exact ⟨u, (hb.cell hlt).trans hu, hR _ _ _ _ hr hb⟩
abbrev Rows (w : World) (v : Value) (l : List (List Nat)) : Prop := SlOf (fun w u x => Nats w u x) w v l
abbrev IRows (w : World) (v : Value) (l : List (List Int)) : Prop := SlOf (fun w u x => Ints w u x) w v l
theorem Rows.below {w w1 : World} {v : Value} {l : List (List Nat)} (h : Rows w v l) (hb : Below w.heap.size w w1) : Rows w1 v l := SlOf.below (R := fun w u x => Nats w u x) (fun _ _ _ _ h hb => Sl.below h hb) h hb
theorem IRows.below {w w1 : World} {v : Value} {l : List (List Int)} (h : IRows w v l) (hb : Below w.heap.size w w1) : IRows w1 v l := SlOf.below (R := fun w u x => Ints w u x) (fun _ _ _ _ h hb => Sl.below h hb) h hb

/-! ### a slice of the call's own -/
def Own {α : Type} (w : World) (base : Nat) (e : TypeId) (f : α → Value) (v : Value) (l : List α) : Prop := w.ownsRow base e 1 v l.length (l.map f)

section
variable {α : Type} {w w1 : World} {base : Nat} {e : TypeId} {f : α → Value} {v : Value} {l : List α}
theorem Own.nil (w : World) (base : Nat) (e : TypeId) (f : α → Value) : Own w base e f (.slice none 0 0) [] := World.ownsRow_nil _ _ _ _
theorem Own.form (h : Own w base e f v l) (hl : 0 < l.length) : ∃ g cap, v = .slice (some ⟨g, 0, none⟩) l.length cap ∧ g < w.heap.size ∧ base ≤ g ∧ v.ownBlock = some g := by
  rcases h.2 with ⟨_, h0⟩ | ⟨g, cap, cur, rfl, hb, hg, _⟩
  · omega
  · exact ⟨g, cap, rfl, (Array.getElem?_eq_some_iff.1 hg).1, hb, rfl⟩
theorem Own.shape (h : Own w base e f v l) : ∃ ao cap, v = .slice ao l.length cap := by
  rcases h.2 with ⟨rfl, h0⟩ | ⟨g, cap, cur, rfl, hb, hg, _⟩
  · exact ⟨none, 0, by rw [h0]⟩
  · exact ⟨_, cap, rfl⟩
theorem Own.lt (h : Own w base e f v l) : ∀ g, v.ownBlock = some g → base ≤ g ∧ g < w.heap.size := World.ownsRow.lt h
theorem Own.cell {g n cap : Nat} (h : Own w base e f (.slice (some ⟨g, 0, none⟩) n cap) l) {k : Nat} {x : α} (hx : l[k]? = some x) : w.cell? ⟨g, k, none⟩ = some (f x) := by
  have hc := World.ownsRow.cells h (g := g) rfl k (f x) (by rw [List.getElem?_map, hx]; rfl)
  simpa [Addr.add_lit] using hc
theorem Own.free {g n cap : Nat} (h : Own w base e f (.slice (some ⟨g, 0, none⟩) n cap) l) (k : Nat) : w.frozen? ⟨g, k, none⟩ = false := by
  rcases h.2 with ⟨h', _⟩ | ⟨g', cap', cur, h', _, hg, _⟩
  · cases h'
  · cases h'
    simp [World.frozen?, hg]
theorem Own.sl (h : Own w base e f v l) : Sl w f v l := by
  rcases h.2 with ⟨rfl, h0⟩ | ⟨g, cap, cur, rfl, hb, hg, _⟩
  · exact ⟨none, 0, by rw [h0], fun hl => by omega⟩
  · refine ⟨_, cap, rfl, fun _ => ⟨g, 0, rfl, (Array.getElem?_eq_some_iff.1 hg).1, fun k x hx => ?_⟩⟩
    rw [Nat.zero_add]
    exact Own.cell h hx
theorem Own.set {g n cap : Nat} (h : Own w base e f (.slice (some ⟨g, 0, none⟩) n cap) l) (k : Nat) (x : α) : Own (w.setCell ⟨g, k, none⟩ (f x)) base e f (.slice (some ⟨g, 0, none⟩) n cap) (l.set k x) := by
  have hn : n = l.length := by
    rcases h.2 with ⟨h', _⟩ | ⟨g', cap', cur, h', _⟩
    · cases h'
    · cases h'; rfl
  subst hn
  have := (World.ownsRow.stored (g := g) (cap := cap) h k (f x)).1
  unfold Own
  rw [List.length_set, List.map_set]
  exact this
theorem Own.kept (h : Own w base e f v l) (hk : ∀ g, v.ownBlock = some g → w1.heap[g]? = w.heap[g]?) : Own w1 base e f v l := by
  refine ⟨h.1, ?_⟩
  rcases h.2 with hn | ⟨g, cap, cur, rfl, hb, hgg, rest⟩
  · exact .inl hn
  · exact .inr ⟨g, cap, cur, rfl, hb, (hk g rfl).trans hgg, rest⟩
theorem Own.only (h : Own w base e f v l) {r : Option Nat} (hg : w.grownBy w1 r) (hne : ∀ g, v.ownBlock = some g → some g ≠ r) : Own w1 base e f v l :=
  h.kept fun g hv => hg.block g (h.lt g hv).2 (hne g hv)
theorem Own.below (h : Own w base e f v l) (hb : Below w.heap.size w w1) : Own w1 base e f v l := h.kept fun g hv => hb.block g (h.lt g hv).2
theorem Own.alloc (h : Own w base e f v l) (o : Obj) : Own (w.alloc o) base e f v l := World.ownsRow.alloc h o
theorem Own.drawN (h : Own w base e f v l) (n : Nat) : Own (w.drewN n) base e f v l := h
theorem Own.mono (h : Own w base e f v l) {base' : Nat} (hb : base' ≤ base) : Own w base' e f v l := by
  refine ⟨h.1, ?_⟩
  rcases h.2 with hn | ⟨g, cap, cur, rfl, hg, rest⟩
  · exact .inl hn
  · exact .inr ⟨g, cap, cur, rfl, Nat.le_trans hb hg, rest⟩
/-- Rows of different element types are different blocks. -/
theorem Own.apart {β : Type} {base' : Nat} {e' : TypeId} {f' : β → Value} {v' : Value} {l' : List β} (h : Own w base e f v l) (h' : Own w base' e' f' v' l') (hne : e ≠ e') : ∀ g, v.ownBlock = some g → some g ≠ v'.ownBlock := by
  intro g hg he
  rcases h.2 with ⟨rfl, _⟩ | ⟨g1, cap, cur, rfl, _, hh, _⟩
  · cases hg
  · cases hg
    rcases h'.2 with ⟨rfl, _⟩ | ⟨g2, cap2, cur2, rfl, _, hh2, _⟩
    · cases he
    · cases he
      rw [hh] at hh2
      injection hh2 with hh2
      injection hh2 with _ ht
      exact hne ht
theorem Own.apart_blk {cs : Array Value} {g' : Nat} {e' : TypeId} {fr : Nat × Nat} (h : Own w base e f v l) (h' : w.heap[g']? = some (.cells cs e' fr)) (hne : e ≠ e') : ∀ g, v.ownBlock = some g → g ≠ g' := by
  intro g hg he
  subst he
  rcases h.2 with ⟨rfl, _⟩ | ⟨g1, cap, cur, rfl, _, hh, _⟩
  · cases hg
  · cases hg
    rw [hh] at h'
    injection h' with h'
    injection h' with _ ht
    exact hne ht
end

/-- An element type of one cell, and the slice type over it. -/
def Elem (P : Program) (t e : TypeId) (bytes : Nat) : Prop :=
  P.underlying t = some (.slice e) ∧ ∃ i z, P.info? e = some i ∧ i.zero = some z ∧ i.size = 1 ∧ i.bytes = bytes ∧ z.cells.size = 1

theorem elem_of {P : Program} {t e : TypeId} {z : Value} {bytes : Nat} (ht : P.underlying t = some (.slice e)) (h : (P.info? e).map (fun i => (i.zero, i.size, i.bytes)) = some (some z, 1, bytes)) (hz : z.cells.size = 1) : Elem P t e bytes := by
  obtain ⟨i, h1, h2, h3, h4⟩ := info_parts h
  exact ⟨ht, i, z, h1, h2, h3, h4, hz⟩

/-- 'v = append(v, y)': the new element lies in a block of its own just made. -/
theorem wpList_push {α : Type} {P : Program} (w0 : World) {ops : Array Oper} {rest : List Oper} {o : Oper} {a : Act} {Q : Exit → Act → World → Prop} (hgd : o.guard = none) (s x : Operand) (t : TypeId)
    (ho : o.op = .call { callee := .builtin .append, args := #[s, x], argTypes := #[t, t] })
    (e bytes : Nat) (he : Elem P t e bytes) (base : Nat) (f : α → Value) (v : Value) (l : List α) (y : α) (h1 : (f y).oneCell' = true)
    (hown : Own w0 base e f v l) (hs : a.eval s = v) (hx : a.eval x = .slice (some ⟨w0.heap.size, 0, none⟩) 1 1)
    (h63 : l.length + 1 ≤ 1099511627776) (hby : bytes ≤ 64) (hbase : base ≤ w0.heap.size)
    (hK : ∀ v' w', Own w' base e f v' (l ++ [y]) → w0.grownBy w' v.ownBlock → (v'.ownBlock = v.ownBlock ∨ ∃ g, w0.heap.size ≤ g ∧ v'.ownBlock = some g) → wpList P ops Q rest (a.put o.dst v') w') :
    wpList P ops Q (o :: rest) a (w0.alloc (.cells #[f y] e)) := by
  obtain ⟨ht, i, z, hi, hz, hsz, hb, hzs⟩ := he
  have hown1 : (w0.alloc (.cells #[f y] e)).ownsRow base e 1 v l.length (l.map f) := World.ownsRow.alloc hown _
  obtain ⟨v', w', hrun, h2, h3, _, h5⟩ := run_append_own_at (P := P) (w0.alloc (.cells #[f y] e)) base t o.type e i z 1 bytes ht hi hz hsz hb hzs (by omega) v l.length (l.map f) hown1
    ⟨w0.heap.size, 0, none⟩ 1 1 [f y] rfl (by
      intro j u hj
      match j, hj with
      | 0, hj =>
        cases hj
        rw [Addr.add_lit, World.cell?_alloc_at _ _ _ _ rfl]; rfl) (by
      intro u hu
      rw [List.mem_singleton.1 hu]; exact h1) (by unfold maxLen; omega) (by
      have : (l.length + 1) * bytes ≤ 1099511627776 * 64 := Nat.mul_le_mul h63 hby
      omega) (by simp; omega)
  refine wpList_plain hgd fun K hK' => ?_
  unfold Oper.wp execOp
  simp only [ho, resolve, invoke, builtin, Sem.run_bind, Sem.run_pure, Result.andThen_ok, List.map_toArray, List.map_cons, List.map_nil, hs, hx, hrun]
  refine hK' _ _ (hK v' w' ?_ ?_ ?_)
  · unfold Own
    rw [List.length_append, List.map_append]
    exact h2
  · exact only_next (World.grownBy_alloc w0 _ v.ownBlock) h3 (.inl rfl)
  · rcases h5 with h5 | h5
    · exact .inl h5
    · exact .inr ⟨_, by simp, h5⟩

end Go.Proofs.YtpiigmhbbcjamaaGreat
