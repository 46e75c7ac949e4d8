/-
  Base texts, shaken by wip/shake.py: Mem Lia Mxw Mat Ifn Np App.
-/
import Derived.WalkKit
import Derived.Handy
import Derived.Lib.Hide
import Derived.BigQuiet
import Derived.Deep.QuietTactic
import Derived.Maps.AppendAt
import Derived.Laws.MakeOwn
import Derived.Laws.OwnMore
import Derived.Deep.RegionHeld3
import Derived.Deep.AppendLies
import Derived.Deep.DrawnRows
import Derived.Test.YtejcgjdfajppgaaGreatDoorChecked
namespace Go.Proofs.YtejcgjdfajppgaaGreatDoor
section
open Go.RowKit
set_option linter.unusedVariables false

theorem ret_int {k : IntKind} {a b : Int} (h : a = b) : Ending.returned (.int k a) = .returned (.int k b) := by rw [h]
theorem ret_bool {a b : Bool} (h : a = b) : Ending.returned (.bool a) = .returned (.bool b) := by rw [h]
theorem ret2_any {a b a' b' : Value} (h : a = b) (h' : a' = b') : Ending.returned (.tuple #[a, a']) = .returned (.tuple #[b, b']) := by rw [h, h']
theorem val_int {k : IntKind} {a b : Int} (h : a = b) : Value.int k a = .int k b := by rw [h]
theorem bne_no {a b : Int} (h : a = b) : (a != b) = false := by rw [h]; simp
theorem bne_yes {a b : Int} (h : a ≠ b) : (a != b) = true := by simpa using h
theorem beq_no {a b : Int} (h : a ≠ b) : (a == b) = false := by simpa using h
theorem beq_yes {a b : Int} (h : a = b) : (a == b) = true := by simpa using h
theorem dec_no {p : Prop} [Decidable p] (h : ¬ p) : decide p = false := by simpa using h
theorem dec_yes {p : Prop} [Decidable p] (h : p) : decide p = true := by simpa using h

theorem below_new (w : World) (o : Obj) : Below w.heap.size w (w.alloc o) := (Below.refl _ _).alloc (Nat.le_refl _) o
theorem below_drewN' {B : Nat} {a w : World} (h : Below B a w) (n : Nat) : Below B a (w.drewN n) := ⟨h.os, h.tape, h.output, h.size, h.block⟩
theorem bstep {w W w1 : World} (h : Below w.heap.size w W) (hb : Below W.heap.size W w1) : Below w.heap.size w w1 := h.trans (hb.mono h.size)
theorem only_refl (w : World) (r : Option Nat) : w.grownBy w r := ⟨rfl, rfl, rfl, Nat.le_refl _, fun _ _ _ => rfl⟩
theorem only_below {w w1 : World} (h : Below w.heap.size w w1) (r : Option Nat) : w.grownBy w1 r := ⟨h.os, h.tape, h.output, h.size, fun i hi _ => h.block i hi⟩
/-- A step that turned a block of the call's own is 'Below' for what was there when the call began. -/
theorem below_grown {B : Nat} {w0 w w1 : World} (h : Below B w0 w) {r : Option Nat} (hg : w.grownBy w1 r) (hB : B ≤ w.heap.size) (hr : ∀ g, r = some g → B ≤ g) : Below B w0 w1 := h.grown hg hB hr
theorem only_trans {w w1 w2 : World} {r : Option Nat} (h : w.grownBy w1 r) (k : w1.grownBy w2 r) : w.grownBy w2 r :=
  ⟨k.os.trans h.os, k.tape.trans h.tape, k.output.trans h.output, Nat.le_trans h.size k.size, fun i hi hn => (k.block i (Nat.lt_of_lt_of_le hi h.size) hn).trans (h.block i hi hn)⟩
/-- Two steps: the second turned the first's block, or a new one. -/
theorem only_next {w w1 w2 : World} {r r' : Option Nat} (h : w.grownBy w1 r) (k : w1.grownBy w2 r') (hr : r' = r ∨ ∀ g, r' = some g → w.heap.size ≤ g) : w.grownBy w2 r :=
  ⟨k.os.trans h.os, k.tape.trans h.tape, k.output.trans h.output, Nat.le_trans h.size k.size, fun i hi hn => (k.block i (Nat.lt_of_lt_of_le hi h.size) (by
    intro e
    rcases hr with hr | hr
    · exact hn (e.trans hr)
    · have := hr i e.symm; omega)).trans (h.block i hi hn)⟩
theorem only_alloc' {w w1 : World} {r : Option Nat} (h : w.grownBy w1 r) (o : Obj) : w.grownBy (w1.alloc o) r := only_next h (World.grownBy_alloc w1 o none) (.inr (by intro g e; cases e))
theorem only_draw {w w1 : World} {r : Option Nat} (h : w.grownBy w1 r) (n : Nat) : w.grownBy (w1.drewN n) r := ⟨h.os, h.tape, h.output, h.size, h.block⟩
theorem only_set (w : World) (g i : Nat) (u : Value) : w.grownBy (w.setCell ⟨g, i, none⟩ u) (some g) :=
  ⟨rfl, rfl, rfl, by simp, fun k _ hk => heap_setCell_other w ⟨g, i, none⟩ k u (fun e => hk (by simp [e]))⟩

def Sl {α : Type} (w : World) (f : α → Value) (v : Value) (l : List α) : Prop :=
  ∃ ao cap, v = .slice ao l.length cap ∧ (0 < l.length → ∃ b off, ao = some ⟨b, off, none⟩ ∧ b < w.heap.size ∧ ∀ k x, l[k]? = some x → w.cell? ⟨b, off + k, none⟩ = some (f x))

theorem Sl.keep {α : Type} {w w1 : World} {f : α → Value} {v : Value} {l : List α} (h : Sl w f v l) (hs : w.heap.size ≤ w1.heap.size) (hk : ∀ b o, b < w.heap.size → (∃ off n c, v = .slice (some ⟨b, off, none⟩) n c) → w1.cell? ⟨b, o, none⟩ = w.cell? ⟨b, o, none⟩) : Sl w1 f v l := by
  obtain ⟨ao, cap, rfl, h⟩ := h
  refine ⟨ao, cap, rfl, fun hl => ?_⟩
  obtain ⟨b, off, rfl, hlt, hc⟩ := h hl
  exact ⟨b, off, rfl, Nat.lt_of_lt_of_le hlt hs, fun k x hx => (hk b _ hlt ⟨_, _, _, rfl⟩).trans (hc k x hx)⟩
theorem Sl.below {α : Type} {w w1 : World} {f : α → Value} {v : Value} {l : List α} (h : Sl w f v l) (hb : Below w.heap.size w w1) : Sl w1 f v l :=
  h.keep hb.size fun b o hlt _ => hb.cell (p := ⟨b, o, none⟩) hlt
theorem Sl.nil {α : Type} (w : World) (f : α → Value) (ao : Option Addr) (c : Nat) : Sl w f (.slice ao 0 c) ([] : List α) := ⟨ao, c, rfl, fun h => absurd h (by simp)⟩
theorem Sl.map_ {α β : Type} {w : World} {f : α → Value} {g : β → Value} {v : Value} {l : List α} (h : Sl w f v l) (m : α → β) (hm : ∀ x, f x = g (m x)) : Sl w g v (l.map m) := by
  obtain ⟨ao, cap, rfl, h⟩ := h
  refine ⟨ao, cap, by simp, fun hl => ?_⟩
  obtain ⟨b, off, rfl, hlt, hc⟩ := h (by simpa using hl)
  refine ⟨b, off, rfl, hlt, fun k x hx => ?_⟩
  rw [List.getElem?_map] at hx
  obtain ⟨y, hy, rfl⟩ := Option.map_eq_some_iff.1 hx
  rw [hc k y hy, hm]

abbrev Ints (w : World) (v : Value) (l : List Int) : Prop := Sl w (fun x : Int => .int .i64 x) v l
abbrev Nats (w : World) (v : Value) (l : List Nat) : Prop := Sl w (fun x : Nat => .int .i64 (x : Int)) v l
abbrev Bools (w : World) (v : Value) (l : List Bool) : Prop := Sl w (fun x : Bool => .bool x) v l

/-- A slice of pairs. -/
def Pairs (w : World) (v : Value) (l : List (Int × Int)) : Prop :=
  ∃ ao cap, v = .slice ao l.length cap ∧ (0 < l.length → ∃ b off, ao = some ⟨b, off, none⟩ ∧ b < w.heap.size ∧ ∀ k x, l[k]? = some x → w.cell? ⟨b, off + k * 2, none⟩ = some (.int .i64 x.1) ∧ w.cell? ⟨b, off + k * 2 + 1, none⟩ = some (.int .i64 x.2))
theorem Pairs.keep {w w1 : World} {v : Value} {l : List (Int × Int)} (h : Pairs w v l) (hs : w.heap.size ≤ w1.heap.size) (hk : ∀ b o, b < w.heap.size → (∃ off n c, v = .slice (some ⟨b, off, none⟩) n c) → w1.cell? ⟨b, o, none⟩ = w.cell? ⟨b, o, none⟩) : Pairs w1 v l := by
  obtain ⟨ao, cap, rfl, h⟩ := h
  refine ⟨ao, cap, rfl, fun hl => ?_⟩
  obtain ⟨b, off, rfl, hlt, hc⟩ := h hl
  exact ⟨b, off, rfl, Nat.lt_of_lt_of_le hlt hs, fun k x hx => ⟨(hk b _ hlt ⟨_, _, _, rfl⟩).trans (hc k x hx).1, (hk b _ hlt ⟨_, _, _, rfl⟩).trans (hc k x hx).2⟩⟩
theorem Pairs.below {w w1 : World} {v : Value} {l : List (Int × Int)} (h : Pairs w v l) (hb : Below w.heap.size w w1) : Pairs w1 v l :=
  h.keep hb.size fun b o hlt _ => hb.cell (p := ⟨b, o, none⟩) hlt

/-- A slice of slices: each element by a reading R of its own. -/
def SlOf {α : Type} (R : World → Value → α → Prop) (w : World) (v : Value) (l : List α) : Prop :=
  ∃ ao cap, v = .slice ao l.length cap ∧ (0 < l.length → ∃ b off, ao = some ⟨b, off, none⟩ ∧ b < w.heap.size ∧ ∀ k x, l[k]? = some x → ∃ u, w.cell? ⟨b, off + k, none⟩ = some u ∧ R w u x)
theorem SlOf.below {α : Type} {R : World → Value → α → Prop} (hR : ∀ w w1 u x, R w u x → Below w.heap.size w w1 → R w1 u x) {w w1 : World} {v : Value} {l : List α} (h : SlOf R w v l) (hb : Below w.heap.size w w1) : SlOf R w1 v l := by
  obtain ⟨ao, cap, rfl, h⟩ := h
  refine ⟨ao, cap, rfl, fun hl => ?_⟩
  obtain ⟨b, off, rfl, hlt, hc⟩ := h hl
  refine ⟨b, off, rfl, Nat.lt_of_lt_of_le hlt hb.size, fun k x hx => ?_⟩
  obtain ⟨u, hu, hr⟩ := hc k x hx
  exact ⟨u, (hb.cell hlt).trans hu, hR _ _ _ _ hr hb⟩
abbrev Rows (w : World) (v : Value) (l : List (List Nat)) : Prop := SlOf (fun w u x => Nats w u x) w v l
abbrev IRows (w : World) (v : Value) (l : List (List Int)) : Prop := SlOf (fun w u x => Ints w u x) w v l
theorem Rows.below {w w1 : World} {v : Value} {l : List (List Nat)} (h : Rows w v l) (hb : Below w.heap.size w w1) : Rows w1 v l := SlOf.below (R := fun w u x => Nats w u x) (fun _ _ _ _ h hb => Sl.below h hb) h hb
theorem IRows.below {w w1 : World} {v : Value} {l : List (List Int)} (h : IRows w v l) (hb : Below w.heap.size w w1) : IRows w1 v l := SlOf.below (R := fun w u x => Ints w u x) (fun _ _ _ _ h hb => Sl.below h hb) h hb

def Own {α : Type} (w : World) (base : Nat) (e : TypeId) (f : α → Value) (v : Value) (l : List α) : Prop := w.ownsRow base e 1 v l.length (l.map f)

section
variable {α : Type} {w w1 : World} {base : Nat} {e : TypeId} {f : α → Value} {v : Value} {l : List α}
theorem Own.nil (w : World) (base : Nat) (e : TypeId) (f : α → Value) : Own w base e f (.slice none 0 0) [] := World.ownsRow_nil _ _ _ _
theorem Own.form (h : Own w base e f v l) (hl : 0 < l.length) : ∃ g cap, v = .slice (some ⟨g, 0, none⟩) l.length cap ∧ g < w.heap.size ∧ base ≤ g ∧ v.ownBlock = some g := by
  rcases h.2 with ⟨_, h0⟩ | ⟨g, cap, cur, rfl, hb, hg, _⟩
  · omega
  · exact ⟨g, cap, rfl, (Array.getElem?_eq_some_iff.1 hg).1, hb, rfl⟩
theorem Own.shape (h : Own w base e f v l) : ∃ ao cap, v = .slice ao l.length cap := by
  rcases h.2 with ⟨rfl, h0⟩ | ⟨g, cap, cur, rfl, hb, hg, _⟩
  · exact ⟨none, 0, by rw [h0]⟩
  · exact ⟨_, cap, rfl⟩
theorem Own.lt (h : Own w base e f v l) : ∀ g, v.ownBlock = some g → base ≤ g ∧ g < w.heap.size := World.ownsRow.lt h
theorem Own.cell {g n cap : Nat} (h : Own w base e f (.slice (some ⟨g, 0, none⟩) n cap) l) {k : Nat} {x : α} (hx : l[k]? = some x) : w.cell? ⟨g, k, none⟩ = some (f x) := by
  have hc := World.ownsRow.cells h (g := g) rfl k (f x) (by rw [List.getElem?_map, hx]; rfl)
  simpa [Addr.add_lit] using hc
theorem Own.free {g n cap : Nat} (h : Own w base e f (.slice (some ⟨g, 0, none⟩) n cap) l) (k : Nat) : w.frozen? ⟨g, k, none⟩ = false := by
  rcases h.2 with ⟨h', _⟩ | ⟨g', cap', cur, h', _, hg, _⟩
  · cases h'
  · cases h'
    simp [World.frozen?, hg]
theorem Own.sl (h : Own w base e f v l) : Sl w f v l := by
  rcases h.2 with ⟨rfl, h0⟩ | ⟨g, cap, cur, rfl, hb, hg, _⟩
  · exact ⟨none, 0, by rw [h0], fun hl => by omega⟩
  · refine ⟨_, cap, rfl, fun _ => ⟨g, 0, rfl, (Array.getElem?_eq_some_iff.1 hg).1, fun k x hx => ?_⟩⟩
    rw [Nat.zero_add]
    exact Own.cell h hx
theorem Own.set {g n cap : Nat} (h : Own w base e f (.slice (some ⟨g, 0, none⟩) n cap) l) (k : Nat) (x : α) : Own (w.setCell ⟨g, k, none⟩ (f x)) base e f (.slice (some ⟨g, 0, none⟩) n cap) (l.set k x) := by
  have hn : n = l.length := by
    rcases h.2 with ⟨h', _⟩ | ⟨g', cap', cur, h', _⟩
    · cases h'
    · cases h'; rfl
  subst hn
  have := (World.ownsRow.stored (g := g) (cap := cap) h k (f x)).1
  unfold Own
  rw [List.length_set, List.map_set]
  exact this
theorem Own.kept (h : Own w base e f v l) (hk : ∀ g, v.ownBlock = some g → w1.heap[g]? = w.heap[g]?) : Own w1 base e f v l := by
  refine ⟨h.1, ?_⟩
  rcases h.2 with hn | ⟨g, cap, cur, rfl, hb, hgg, rest⟩
  · exact .inl hn
  · exact .inr ⟨g, cap, cur, rfl, hb, (hk g rfl).trans hgg, rest⟩
theorem Own.only (h : Own w base e f v l) {r : Option Nat} (hg : w.grownBy w1 r) (hne : ∀ g, v.ownBlock = some g → some g ≠ r) : Own w1 base e f v l :=
  h.kept fun g hv => hg.block g (h.lt g hv).2 (hne g hv)
theorem Own.below (h : Own w base e f v l) (hb : Below w.heap.size w w1) : Own w1 base e f v l := h.kept fun g hv => hb.block g (h.lt g hv).2
theorem Own.alloc (h : Own w base e f v l) (o : Obj) : Own (w.alloc o) base e f v l := World.ownsRow.alloc h o
theorem Own.mono (h : Own w base e f v l) {base' : Nat} (hb : base' ≤ base) : Own w base' e f v l := by
  refine ⟨h.1, ?_⟩
  rcases h.2 with hn | ⟨g, cap, cur, rfl, hg, rest⟩
  · exact .inl hn
  · exact .inr ⟨g, cap, cur, rfl, Nat.le_trans hb hg, rest⟩
/-- Rows of different element types are different blocks. -/
theorem Own.apart {β : Type} {base' : Nat} {e' : TypeId} {f' : β → Value} {v' : Value} {l' : List β} (h : Own w base e f v l) (h' : Own w base' e' f' v' l') (hne : e ≠ e') : ∀ g, v.ownBlock = some g → some g ≠ v'.ownBlock := by
  intro g hg he
  rcases h.2 with ⟨rfl, _⟩ | ⟨g1, cap, cur, rfl, _, hh, _⟩
  · cases hg
  · cases hg
    rcases h'.2 with ⟨rfl, _⟩ | ⟨g2, cap2, cur2, rfl, _, hh2, _⟩
    · cases he
    · cases he
      rw [hh] at hh2
      injection hh2 with hh2
      injection hh2 with _ ht
      exact hne ht
end

/-- An element type of one cell, and the slice type over it. -/
def Elem (P : Program) (t e : TypeId) (bytes : Nat) : Prop :=
  P.underlying t = some (.slice e) ∧ ∃ i z, P.info? e = some i ∧ i.zero = some z ∧ i.size = 1 ∧ i.bytes = bytes ∧ z.cells.size = 1

theorem elem_of {P : Program} {t e : TypeId} {z : Value} {bytes : Nat} (ht : P.underlying t = some (.slice e)) (h : (P.info? e).map (fun i => (i.zero, i.size, i.bytes)) = some (some z, 1, bytes)) (hz : z.cells.size = 1) : Elem P t e bytes := by
  obtain ⟨i, h1, h2, h3, h4⟩ := info_parts h
  exact ⟨ht, i, z, h1, h2, h3, h4, hz⟩

/-- 'v = append(v, y)': the new element lies in a block of its own just made. -/
theorem wpList_push {α : Type} {P : Program} (w0 : World) {ops : Array Oper} {rest : List Oper} {o : Oper} {a : Act} {Q : Exit → Act → World → Prop} (hgd : o.guard = none) (s x : Operand) (t : TypeId)
    (ho : o.op = .call { callee := .builtin .append, args := #[s, x], argTypes := #[t, t] })
    (e bytes : Nat) (he : Elem P t e bytes) (base : Nat) (f : α → Value) (v : Value) (l : List α) (y : α) (h1 : (f y).oneCell' = true)
    (hown : Own w0 base e f v l) (hs : a.eval s = v) (hx : a.eval x = .slice (some ⟨w0.heap.size, 0, none⟩) 1 1)
    (h63 : l.length + 1 ≤ 1099511627776) (hby : bytes ≤ 64) (hbase : base ≤ w0.heap.size)
    (hK : ∀ v' w', Own w' base e f v' (l ++ [y]) → w0.grownBy w' v.ownBlock → (v'.ownBlock = v.ownBlock ∨ ∃ g, w0.heap.size ≤ g ∧ v'.ownBlock = some g) → wpList P ops Q rest (a.put o.dst v') w') :
    wpList P ops Q (o :: rest) a (w0.alloc (.cells #[f y] e)) := by
  obtain ⟨ht, i, z, hi, hz, hsz, hb, hzs⟩ := he
  have hown1 : (w0.alloc (.cells #[f y] e)).ownsRow base e 1 v l.length (l.map f) := World.ownsRow.alloc hown _
  obtain ⟨v', w', hrun, h2, h3, _, h5⟩ := run_append_own_at (P := P) (w0.alloc (.cells #[f y] e)) base t o.type e i z 1 bytes ht hi hz hsz hb hzs (by omega) v l.length (l.map f) hown1
    ⟨w0.heap.size, 0, none⟩ 1 1 [f y] rfl (by
      intro j u hj
      match j, hj with
      | 0, hj =>
        cases hj
        rw [Addr.add_lit, World.cell?_alloc_at _ _ _ _ rfl]; rfl) (by
      intro u hu
      rw [List.mem_singleton.1 hu]; exact h1) (by unfold maxLen; omega) (by
      have : (l.length + 1) * bytes ≤ 1099511627776 * 64 := Nat.mul_le_mul h63 hby
      omega) (by simp; omega)
  refine wpList_plain hgd fun K hK' => ?_
  unfold Oper.wp execOp
  simp only [ho, resolve, invoke, builtin, Sem.run_bind, Sem.run_pure, Result.andThen_ok, List.map_toArray, List.map_cons, List.map_nil, hs, hx, hrun]
  refine hK' _ _ (hK v' w' ?_ ?_ ?_)
  · unfold Own
    rw [List.length_append, List.map_append]
    exact h2
  · exact only_next (World.grownBy_alloc w0 _ v.ownBlock) h3 (.inl rfl)
  · rcases h5 with h5 | h5
    · exact .inl h5
    · exact .inr ⟨_, by simp, h5⟩
end
section
open Go.RowKit
set_option linter.unusedVariables false

theorem elemInt : Elem Tryz.prog 23 3 8 := elem_of (z := .int .i64 0) Tryz.underlying23 (by kernel_rfl) rfl

def idxOf (l : List Int) (x : Int) : Int := match l.findIdx? (· == x) with | some i => (i : Int) | none => -1

/-- The first k elements are not x. -/
theorem idxOf_hit (l : List Int) (x : Int) (k : Nat) (hno : ∀ (j : Nat) y, j < k → l[j]? = some y → y ≠ x) (hx : l[k]? = some x) : idxOf l x = k := by
  have hk : k < l.length := (List.getElem?_eq_some_iff.1 hx).1
  have : l.findIdx? (· == x) = some k := by
    rw [List.findIdx?_eq_some_iff_getElem]
    refine ⟨hk, ?_, fun j hj => ?_⟩
    · have := (List.getElem?_eq_some_iff.1 hx).2
      simp [this]
    · have := hno j _ hj (List.getElem?_eq_getElem (by omega))
      simpa using this
  simp [idxOf, this]
theorem idxOf_miss (l : List Int) (x : Int) (hno : ∀ (j : Nat) y, l[j]? = some y → y ≠ x) : idxOf l x = -1 := by
  have : l.findIdx? (· == x) = none := by
    rw [List.findIdx?_eq_none_iff]
    intro y hy
    obtain ⟨j, hj, rfl⟩ := List.getElem_of_mem hy
    have := hno j _ (List.getElem?_eq_getElem hj)
    simpa using this
  simp [idxOf, this]

theorem idxOf_mem (l : List Int) (x : Int) : decide (0 ≤ idxOf l x) = decide (x ∈ l) := by
  unfold idxOf
  cases h : l.findIdx? (· == x) with
  | some i =>
    obtain ⟨hi, hx, _⟩ := List.findIdx?_eq_some_iff_getElem.1 h
    have : x ∈ l := by
      have := List.getElem_mem hi
      rw [show l[i] = x by simpa using hx] at this
      exact this
    simp [this]
  | none =>
    rw [List.findIdx?_eq_none_iff] at h
    have : x ∉ l := fun hm => by simpa using h x hm
    simp [this]

set_option maxHeartbeats 400000 in
theorem index_any (v : Value) (l : List Int) (x : Int) (w : World) (h : Ints w v l) (hl : l.length ≤ 140737488355328) :
    Calls Tryz.prog 93 #[v, .int .i64 x] w fun e w' => e = .returned (.int .i64 (idxOf l x)) ∧ w = w' := by
  obtain ⟨ao, cap, rfl, h⟩ := h
  go_enter Tryz.func93, Tryz.ntmps93
  go_wp2
  go_loop [5, 8] (fun _ i => ∃ k : Nat, k ≤ l.length ∧ i = .int .i64 k ∧ Hid (∀ (j : Nat) y, j < k → l[j]? = some y → y ≠ x)) (fun _ i => l.length - (intOf i).toNat)
  case atStart => exact ⟨0, Nat.zero_le _, rfl, fun j _ hj => by omega⟩
  case round =>
    obtain ⟨k, hk, rfl, hno⟩ := hrel
    by_cases hlt : k < l.length
    · obtain ⟨b, off, rfl, _, hc⟩ := h (by omega)
      obtain ⟨y, hy⟩ : ∃ y, l[k]? = some y := ⟨_, List.getElem?_eq_getElem hlt⟩
      have hck := hc k y hy
      clear hc h
      have HY := Lib.hid hy
      clear hy
      by_cases hx : x = y
      · subst hx
        go_wp2
        go_ret
        exact ⟨ret_int (idxOf_hit l x k hno HY.out).symm, rfl⟩
      · have hxb := beq_no hx
        have HX := Lib.hid hx
        clear hx
        go_wp2
        go_round
        case rel => exact ⟨k + 1, by omega, by go_num, fun j z hj hz => by
          by_cases e : j = k
          · subst e; rw [HY.out] at hz; cases hz; exact fun e => HX.out e.symm
          · exact hno j z (by omega) hz⟩
        case measure => simp [intOf]; omega
    · clear h
      go_wp2
      go_ret
      exact ⟨ret_int (idxOf_miss l x (fun j y hy => hno j y (by have := (List.getElem?_eq_some_iff.1 hy).1; omega) hy)).symm, rfl⟩

theorem contains_any (v : Value) (l : List Int) (x : Int) (w : World) (h : Ints w v l) (hl : l.length ≤ 140737488355328) :
    Calls Tryz.prog 74 #[v, .int .i64 x] w fun e w' => e = .returned (.bool (decide (x ∈ l))) ∧ w = w' := by
  have E := Lib.hid (idxOf_mem l x)
  go_enter Tryz.func74, Tryz.ntmps74
  go_wp2_with (first
    | (go_at_call 93; refine (index_any _ l _ _ h hl).mono ?_; rintro e w9 ⟨rfl, rfl⟩))
  go_ret
  exact ⟨ret_bool E.out, rfl⟩
end
section
open Go.RowKit
set_option linter.unusedVariables false

def natf (x : Nat) : Value := .int .i64 (x : Int)
def boolf (x : Bool) : Value := .bool x
def rowf (v : Value) : Value := v

theorem own_made {α : Type} (w : World) (e : TypeId) (f : α → Value) (x : α) (z : Value) (hz : z.cells = #[f x]) (n : Nat) (hn : n ≤ 1099511627776) (base : Nat) (hb : base ≤ w.heap.size) :
    Own (w.alloc (.cells (madeCells z.cells n) e)) base e f (.slice (some ⟨w.heap.size, 0, none⟩) n n) (List.replicate n x) := by
  have hc : (madeCells #[f x] n).toList = List.replicate n (f x) := toList_madeCells_one _ _
  have hs : (madeCells #[f x] n).size = n * 1 := by rw [← Array.length_toList, hc]; simp
  have := World.ownsRow_lit w (madeCells #[f x] n) n (e := e) (size := 1) hb (by unfold maxLen; omega) hs
  unfold Own
  rw [hz, List.length_replicate, List.map_replicate, ← hc]
  exact this

theorem run_make_one {P : Program} (t e bytes : Nat) (z : Value) (ht : P.underlying t = some (.slice e)) (h : (P.info? e).map (fun i => (i.zero, i.size, i.bytes)) = some (some z, 1, bytes)) (hb : bytes ≤ 64) (n : Nat) (hn : n ≤ 1099511627776) (w : World) :
    (Instr.makeSlice t (.int .i64 (n : Int)) (.int .i64 (n : Int))).run P w = .ok (.slice (some ⟨w.heap.size, 0, none⟩) n n) (w.alloc (.cells (madeCells z.cells n) e)) := by
  obtain ⟨i, h1, h2, h3, h4⟩ := info_parts h
  have hle : bytes * n ≤ 64 * 1099511627776 := Nat.mul_le_mul hb hn
  have hr := run_make (P := P) w t e i z ht h1 h2 .i64 .i64 n n (by omega) (by omega) (by
    rw [h4]
    have : ((bytes * n : Nat) : Int) ≤ 70368744177664 := by omega
    rw [Int.natCast_mul] at this
    omega) (by omega)
  simp only [Int.toNat_natCast, h3, Nat.mul_one] at hr
  exact hr

/-- 'append(v, s...)' for a row of the call's own and a slice that reads as a list. -/
theorem wpList_appSl {α : Type} {P : Program} (w0 : World) {ops : Array Oper} {rest : List Oper} {o : Oper} {a : Act} {Q : Exit → Act → World → Prop} (hgd : o.guard = none) (s x : Operand) (t : TypeId)
    (ho : o.op = .call { callee := .builtin .append, args := #[s, x], argTypes := #[t, t] })
    (e bytes : Nat) (he : Elem P t e bytes) (base : Nat) (f : α → Value) (v u : Value) (l l2 : List α) (h1 : ∀ y, (f y).oneCell' = true)
    (hown : Own w0 base e f v l) (hsrc : Sl w0 f u l2) (hs : a.eval s = v) (hx : a.eval x = u)
    (h63 : l.length + l2.length ≤ 1099511627776) (hby : bytes ≤ 64) (hbase : base ≤ w0.heap.size)
    (hK : ∀ v' w', Own w' base e f v' (l ++ l2) → w0.grownBy w' v.ownBlock → (v'.ownBlock = v.ownBlock ∨ ∃ g, w0.heap.size ≤ g ∧ v'.ownBlock = some g) → wpList P ops Q rest (a.put o.dst v') w') :
    wpList P ops Q (o :: rest) a w0 := by
  obtain ⟨ht, i, z, hi, hz, hsz, hb, hzs⟩ := he
  have hrun : ∃ v' w', (Builtin.append_ #[t, t] o.type #[v, u]).run P w0 = .ok v' w' ∧ Own w' base e f v' (l ++ l2) ∧ w0.grownBy w' v.ownBlock ∧ (v'.ownBlock = v.ownBlock ∨ ∃ g, w0.heap.size ≤ g ∧ v'.ownBlock = some g) := by
    obtain ⟨ao, cap, rfl, h⟩ := hsrc
    cases ao with
    | none =>
      have hl2 : l2 = [] := by
        rcases Nat.eq_zero_or_pos l2.length with h0 | h0
        · exact List.length_eq_zero_iff.1 h0
        · obtain ⟨b, off, hh, _⟩ := h h0; cases hh
      subst hl2
      refine ⟨v, w0, ?_, by rw [List.append_nil]; exact hown, only_refl _ _, .inl rfl⟩
      have hown' := hown
      rcases hown'.2 with ⟨rfl, h0⟩ | ⟨g, cap', cur, rfl, _, _, hnc, _⟩
      · simp [Builtin.append_, run_underlying ht, sizeOf, typeInfo, hi, Builtin.lenOf, Builtin.firstCells]
      · simp [Builtin.append_, run_underlying ht, sizeOf, typeInfo, hi, Builtin.lenOf, Builtin.firstCells, hnc, storeCells]
    | some ad =>
      obtain ⟨v', w', hrun, h2, h3, _, h5⟩ := run_append_own_at (P := P) w0 base t o.type e i z 1 bytes ht hi hz hsz hb hzs (by omega) v l.length (l.map f) hown
        ad l2.length cap (l2.map f) (by simp) (by
          intro j y hj
          have hlen : 0 < l2.length := by
            have := (List.getElem?_eq_some_iff.1 hj).1
            rw [List.length_map] at this; omega
          obtain ⟨b, off, hh, hlt, hc⟩ := h hlen
          cases hh
          rw [List.getElem?_map] at hj
          obtain ⟨x, hx, rfl⟩ := Option.map_eq_some_iff.1 hj
          rw [Addr.add_lit]
          exact hc j x hx) (by
          intro y hy
          obtain ⟨x, _, rfl⟩ := List.mem_map.1 hy
          exact h1 x) (by unfold maxLen; omega) (by
          have : (l.length + l2.length) * bytes ≤ 1099511627776 * 64 := Nat.mul_le_mul h63 hby
          omega) hbase
      refine ⟨v', w', hrun, ?_, h3, ?_⟩
      · unfold Own
        rw [List.length_append, List.map_append]
        exact h2
      · rcases h5 with h5 | h5
        · exact .inl h5
        · exact .inr ⟨_, Nat.le_refl _, h5⟩
  obtain ⟨v', w', hrun, k1, k2, k3⟩ := hrun
  refine wpList_plain hgd fun K hK' => ?_
  unfold Oper.wp execOp
  simp only [ho, resolve, invoke, builtin, Sem.run_bind, Sem.run_pure, Result.andThen_ok, List.map_toArray, List.map_cons, List.map_nil, hs, hx, hrun]
  exact hK' _ _ (hK v' w' k1 k2 k3)
theorem Sl.at_ {α : Type} {w : World} {f : α → Value} {v : Value} {l : List α} (h : Sl w f v l) : ∃ ao cap, v = .slice ao l.length cap := by obtain ⟨ao, cap, rfl, _⟩ := h; exact ⟨ao, cap, rfl⟩
theorem Sl.take_ {α : Type} {w : World} {f : α → Value} {ao : Option Addr} {len cap : Nat} {l : List α} (h : Sl w f (.slice ao len cap) l) (m c : Nat) (hm : m ≤ len) : Sl w f (.slice ao m c) (l.take m) := by
  obtain ⟨ao', cap', hv, h2⟩ := h
  cases hv
  have e : (l.take m).length = m := by simp; omega
  refine ⟨ao, c, by rw [e], fun hl => ?_⟩
  obtain ⟨b, off, rfl, hlt, hc⟩ := h2 (by rw [e] at hl; omega)
  refine ⟨b, off, rfl, hlt, fun k x hx => hc k x ?_⟩
  rw [List.getElem?_take] at hx
  split at hx
  · exact hx
  · cases hx
end
section
open Go.RowKit
set_option linter.unusedVariables false


theorem elemRow : Elem Tryz.prog 47 23 24 := elem_of (z := .slice none 0 0) Tryz.underlying47 (by kernel_rfl) rfl

def MatVals (w : World) (base : Nat) (V : Value) (vals : List Value) (rows : List (List Nat)) : Prop :=
  vals.length = rows.length ∧ Own w base 23 rowf V vals ∧ (∀ (k : Nat) v r, vals[k]? = some v → rows[k]? = some r → Own w base 3 natf v r) ∧
    (∀ (i j : Nat) vi vj g, i ≠ j → vals[i]? = some vi → vals[j]? = some vj → vi.ownBlock = some g → vj.ownBlock ≠ some g)
def Mat (w : World) (base : Nat) (V : Value) (rows : List (List Nat)) : Prop := ∃ vals, MatVals w base V vals rows

theorem getElem?_of_len {α β : Type} {l : List α} {l' : List β} (h : l.length = l'.length) {k : Nat} {x : α} (hx : l[k]? = some x) : ∃ y, l'[k]? = some y :=
  ⟨_, List.getElem?_eq_getElem (by have := (List.getElem?_eq_some_iff.1 hx).1; omega)⟩

theorem MatVals.kept {w w1 : World} {base : Nat} {V : Value} {vals : List Value} {rows : List (List Nat)} (h : MatVals w base V vals rows) (hk : ∀ g, base ≤ g → g < w.heap.size → (∃ cs t, w.heap[g]? = some (.cells cs t (0, 0))) → w1.heap[g]? = w.heap[g]?) : MatVals w1 base V vals rows := by
  obtain ⟨h1, h2, h3, h4⟩ := h
  have cellsOf : ∀ {α : Type} {e : TypeId} {f : α → Value} {v : Value} {l : List α}, Own w base e f v l → ∀ g, v.ownBlock = some g → ∃ cs t, w.heap[g]? = some (.cells cs t (0, 0)) := by
    intro α e f v l ho g hg
    rcases ho.2 with ⟨rfl, _⟩ | ⟨g', cap, cur, rfl, _, hh, _⟩
    · cases hg
    · cases hg; exact ⟨_, _, hh⟩
  exact ⟨h1, h2.kept fun g hg => hk g (h2.lt g hg).1 (h2.lt g hg).2 (cellsOf h2 g hg), fun k v r hv hr => (h3 k v r hv hr).kept fun g hg => hk g ((h3 k v r hv hr).lt g hg).1 ((h3 k v r hv hr).lt g hg).2 (cellsOf (h3 k v r hv hr) g hg), h4⟩
theorem Mat.kept {w w1 : World} {base : Nat} {V : Value} {rows : List (List Nat)} (h : Mat w base V rows) (hk : ∀ g, base ≤ g → g < w.heap.size → w1.heap[g]? = w.heap[g]?) : Mat w1 base V rows := by
  obtain ⟨vals, h1, h2, h3, h4⟩ := h
  exact ⟨vals, h1, h2.kept fun g hg => hk g (h2.lt g hg).1 (h2.lt g hg).2, fun k v r hv hr => (h3 k v r hv hr).kept fun g hg => hk g ((h3 k v r hv hr).lt g hg).1 ((h3 k v r hv hr).lt g hg).2, h4⟩
theorem Mat.below {w w1 : World} {base : Nat} {V : Value} {rows : List (List Nat)} (h : Mat w base V rows) (hb : Below w.heap.size w w1) : Mat w1 base V rows := h.kept fun g _ hg => hb.block g hg
theorem Mat.alloc {w : World} {base : Nat} {V : Value} {rows : List (List Nat)} (h : Mat w base V rows) (o : Obj) : Mat (w.alloc o) base V rows := h.below (below_new w o)

theorem Mat.rows {w : World} {base : Nat} {V : Value} {rows : List (List Nat)} (h : Mat w base V rows) : Rows w V rows := by
  obtain ⟨vals, h1, h2, h3, h4⟩ := h
  obtain ⟨ao, cap, rfl, hs⟩ := h2.sl
  rw [h1]
  refine ⟨ao, cap, rfl, fun hl => ?_⟩
  obtain ⟨b, off, rfl, hlt, hc⟩ := hs (by omega)
  refine ⟨b, off, rfl, hlt, fun k r hr => ?_⟩
  obtain ⟨v, hv⟩ := getElem?_of_len h1.symm hr
  exact ⟨v, hc k v hv, (h3 k v r hv hr).sl⟩

theorem get_replicate {α : Type} {n k : Nat} {a x : α} (h : (List.replicate n a)[k]? = some x) : x = a := by
  obtain ⟨hk, hx⟩ := List.getElem?_eq_some_iff.1 h
  simpa using hx.symm
theorem Mat.new {w : World} {base : Nat} {V : Value} {n : Nat} (h : Own w base 23 rowf V (List.replicate n (.slice none 0 0))) : Mat w base V (List.replicate n []) := by
  refine ⟨_, by simp, h, fun k v r hv hr => ?_, fun i j vi vj g hij hi hj hg => ?_⟩
  · obtain rfl := get_replicate hv
    obtain rfl := get_replicate hr
    exact Own.nil _ _ _ _
  · obtain rfl := get_replicate hi
    cases hg

/-- Behind 'out = append(out, nil)'. -/
theorem MatVals.pushNilVals {w w1 : World} {base : Nat} {V V1 : Value} {vals : List Value} {rows : List (List Nat)} (h : MatVals w base V vals rows) (hown : Own w1 base 23 rowf V1 (vals ++ [.slice none 0 0])) (hg : w.grownBy w1 V.ownBlock) : MatVals w1 base V1 (vals ++ [.slice none 0 0]) (rows ++ [[]]) := by
  obtain ⟨h1, h2, h3, h4⟩ := h
  refine ⟨by simp [h1], hown, fun k v r hv hr => ?_, fun i j vi vj g hij hi hj hgi => ?_⟩
  · rcases Nat.lt_or_ge k rows.length with hk | hk
    · rw [List.getElem?_append_left (by omega)] at hv hr
      have := h3 k v r hv hr
      exact this.only hg (this.apart h2 (by decide))
    · rw [List.getElem?_append_right (by omega)] at hv
      have : k - vals.length = 0 := by
        have := (List.getElem?_eq_some_iff.1 hv).1
        simp at this; omega
      rw [this] at hv
      cases hv
      rw [List.getElem?_append_right hk, show k - rows.length = 0 by omega] at hr
      cases hr
      exact Own.nil _ _ _ _
  · have key : ∀ (k : Nat) v, (vals ++ [Value.slice none 0 0])[k]? = some v → ∀ g, v.ownBlock = some g → vals[k]? = some v := by
      intro k v hv g hg
      rcases Nat.lt_or_ge k vals.length with hk | hk
      · rwa [List.getElem?_append_left hk] at hv
      · rw [List.getElem?_append_right hk] at hv
        have : k - vals.length = 0 := by
          have := (List.getElem?_eq_some_iff.1 hv).1
          simp at this; omega
        rw [this] at hv
        cases hv
        cases hg
    intro hgj
    exact h4 i j vi vj g hij (key i vi hi g hgi) (key j vj hj g hgj) hgi hgj

theorem MatVals.pushNil {w w1 : World} {base : Nat} {V V1 : Value} {vals : List Value} {rows : List (List Nat)} (h : MatVals w base V vals rows) (hown : Own w1 base 23 rowf V1 (vals ++ [.slice none 0 0])) (hg : w.grownBy w1 V.ownBlock) : Mat w1 base V1 (rows ++ [[]]) := ⟨_, h.pushNilVals hown hg⟩

/-- Behind 'out[k] = append(out[k], y)': the row's append, then the store of its new value. -/
theorem MatVals.pushAt {w w1 : World} {base G n cap : Nat} {vals : List Value} {rows : List (List Nat)} (h : MatVals w base (.slice (some ⟨G, 0, none⟩) n cap) vals rows) {k y : Nat} {v v1 : Value} {r : List Nat} (hv : vals[k]? = some v) (hr : rows[k]? = some r)
    (hown : Own w1 base 3 natf v1 (r ++ [y])) (hg : w.grownBy w1 v.ownBlock) (hat : v1.ownBlock = v.ownBlock ∨ ∃ g, w.heap.size ≤ g ∧ v1.ownBlock = some g) :
    Mat (w1.setCell ⟨G, k, none⟩ v1) base (.slice (some ⟨G, 0, none⟩) n cap) (rows.set k (r ++ [y])) := by
  obtain ⟨h1, h2, h3, h4⟩ := h
  have hvr := h3 k v r hv hr
  have hk : k < vals.length := (List.getElem?_eq_some_iff.1 hv).1
  have o2 : Own w1 base 23 rowf (.slice (some ⟨G, 0, none⟩) n cap) vals := h2.only hg (h2.apart hvr (by decide))
  have o3 := o2.set k v1
  have hset : w1.grownBy (w1.setCell ⟨G, k, none⟩ v1) (some G) := only_set w1 G k v1
  have kept : ∀ (u : Value) (s : List Nat), Own w1 base 3 natf u s → Own (w1.setCell ⟨G, k, none⟩ v1) base 3 natf u s :=
    fun u s hu => hu.only hset (hu.apart o2 (by decide))
  have old : ∀ (j : Nat) u, j ≠ k → vals[j]? = some u → ∀ g, u.ownBlock = some g → some g ≠ v.ownBlock := by
    intro j u hj hu g hgu he
    exact h4 j k u v g hj hu hv hgu he.symm
  refine ⟨_, by simp [h1], o3, fun j u s hu hs => ?_, fun i j vi vj g hij hi hj hgi => ?_⟩
  · by_cases hj : k = j
    · subst hj
      rw [List.getElem?_set_self hk] at hu
      cases hu
      rw [List.getElem?_set_self (by omega)] at hs
      cases hs
      exact kept _ _ hown
    · rw [List.getElem?_set_ne hj] at hu hs
      exact kept _ _ ((h3 j u s hu hs).only hg (old j u (fun e => hj e.symm) hu))
  · have lt : ∀ (j : Nat) u, vals[j]? = some u → ∀ g, u.ownBlock = some g → g < w.heap.size := by
      intro j u hu g hgu
      obtain ⟨s, hs⟩ := getElem?_of_len h1 hu
      exact ((h3 j u s hu hs).lt g hgu).2
    by_cases hi' : k = i
    · subst hi'
      rw [List.getElem?_set_self hk] at hi
      cases hi
      rw [List.getElem?_set_ne hij] at hj
      intro hgj
      rcases hat with hat | ⟨g', hg', hat⟩
      · exact old j vj (fun e => hij e.symm) hj g hgj (by rw [← hat, hgi])
      · rw [hat] at hgi; cases hgi
        have := lt j vj hj _ hgj
        omega
    · rw [List.getElem?_set_ne hi'] at hi
      by_cases hj' : k = j
      · subst hj'
        rw [List.getElem?_set_self hk] at hj
        cases hj
        intro hgj
        rcases hat with hat | ⟨g', hg', hat⟩
        · exact old i vi (fun e => hi' e.symm) hi g hgi (by rw [← hat, hgj])
        · rw [hat] at hgj; cases hgj
          have := lt i vi hi _ hgi
          omega
      · rw [List.getElem?_set_ne hj'] at hj
        exact h4 i j vi vj g hij hi hj hgi
end
section
open Go.RowKit
set_option linter.unusedVariables false
attribute [local go_sem ↓] Go.wp_at_zero Go.wp_at_succ

/-- Contracts of a predicate over integers. -/
def IntPred (F : Nat) (caps : Array Value) (p : Int → Bool) (l : List Int) (w : World) : Prop :=
  (∀ (xs : Array Value) (W : World), (callFunc F xs).run Tryz.prog W = .ok (.enter F xs) W) ∧
  ∀ (x : Int) (W : World), x ∈ l → Below w.heap.size w W → Calls Tryz.prog F (#[.int .i64 x] ++ caps) W fun e w1 => e = .returned (.bool (p x)) ∧ Below W.heap.size W w1

/-- The place of the first that satisfies p; -1 if there is none. -/
def FirstAt (p : Int → Bool) (l : List Int) (i : Int) : Prop :=
  (∃ (j : Nat) (x : Int), i = j ∧ l[j]? = some x ∧ p x = true ∧ ∀ (k : Nat) y, k < j → l[k]? = some y → p y = false) ∨ (i = -1 ∧ ∀ x ∈ l, p x = false)

theorem FirstAt.any {p : Int → Bool} {l : List Int} {i : Int} (h : FirstAt p l i) : decide (0 ≤ i) = l.any p := by
  rcases h with ⟨j, x, rfl, h1, h2, _⟩ | ⟨rfl, h⟩
  · rw [List.any_eq_true.2 ⟨x, List.mem_of_getElem? h1, h2⟩]; simp
  · rw [List.any_eq_false.2 (fun x hx => by rw [h x hx]; simp)]; rfl

theorem FirstAt.is {p : Int → Bool} {l : List Int} {i : Int} (h : FirstAt p l i) {j : Nat} {x : Int} (hx : l[j]? = some x) (hp : p x = true) (hno : ∀ (k : Nat) y, k < j → l[k]? = some y → p y = false) : i = j := by
  rcases h with ⟨j', x', rfl, h1, h2, h3⟩ | ⟨rfl, h⟩
  · rcases Nat.lt_trichotomy j' j with h4 | h4 | h4
    · have := hno j' x' h4 h1; rw [h2] at this; cases this
    · rw [h4]
    · have := h3 j x h4 hx; rw [hp] at this; cases this
  · have := h x (List.mem_of_getElem? hx); rw [hp] at this; cases this

set_option maxHeartbeats 400000 in
theorem indexInts_any (F : Nat) (caps : Array Value) (p : Int → Bool) (v : Value) (l : List Int) (w : World) (hp : Ints w v l) (hl : l.length ≤ 140737488355328) (hC : IntPred F caps p l w) :
    Calls Tryz.prog 39 #[v, .func (.func F) #[] caps] w fun e w' => (∃ i : Int, e = .returned (.int .i64 i) ∧ FirstAt p l i) ∧ Below w.heap.size w w' := by
  obtain ⟨hF, hC⟩ := hC
  obtain ⟨ao, cap, rfl, h⟩ := hp
  have HC := Lib.hid hC
  have HH := Lib.hid h
  clear hC h
  go_enter Tryz.func39, Tryz.ntmps39
  go_wp2
  go_loopw [5, 8] (fun _ i wr => ∃ k : Nat, k ≤ l.length ∧ i = .int .i64 k ∧ Below w.heap.size w wr ∧ Hid (∀ (j : Nat) y, j < k → l[j]? = some y → p y = false)) (fun _ i _ => l.length - (intOf i).toNat)
  case atStart => exact ⟨0, Nat.zero_le _, rfl, Below.refl _ _, fun j _ hj => by omega⟩
  case round =>
    obtain ⟨k, hk, rfl, hBr, hno⟩ := hrel
    by_cases hk2 : k < l.length
    · obtain ⟨b, off, rfl, hbl, hc⟩ := HH.out (by omega)
      obtain ⟨x, hy⟩ : ∃ y, l[k]? = some y := ⟨_, List.getElem?_eq_getElem hk2⟩
      have hd1 := (hBr.cell (p := ⟨b, off + k, none⟩) hbl).trans (hc k _ hy)
      have HK := Lib.hid (HC.out x wr (List.mem_of_getElem? hy) hBr)
      have HY := Lib.hid hy
      obtain ⟨q, hq⟩ : ∃ q, p x = q := ⟨_, rfl⟩
      rw [hq] at HK
      have HQ := Lib.hid hq
      clear hy hc hq
      cases q
      · go_wp2_with fail
        refine HK.out.mono ?_
        rintro e w9 ⟨rfl, hb9⟩
        have hB9 := bstep hBr hb9
        go_wp2
        go_roundw
        case rel => exact ⟨k + 1, by omega, by go_num, hB9, fun j z hj hz => by
          by_cases e : j = k
          · subst e; rw [HY.out] at hz; cases hz; exact HQ.out
          · exact hno j z (by omega) hz⟩
        case measure => simp [intOf]; omega
      · go_wp2_with fail
        refine HK.out.mono ?_
        rintro e w9 ⟨rfl, hb9⟩
        have hB9 := bstep hBr hb9
        go_wp2
        go_ret
        exact ⟨⟨k, rfl, .inl ⟨k, x, rfl, HY.out, HQ.out, hno.out⟩⟩, hB9⟩
    · go_wp2
      go_ret
      exact ⟨⟨-1, rfl, .inr ⟨rfl, fun x hx => by
          obtain ⟨j, hj, rfl⟩ := List.getElem_of_mem hx
          exact hno j _ (by omega) (List.getElem?_eq_getElem hj)⟩⟩, hBr⟩
end
section
open Go.RowKit
set_option linter.unusedVariables false

def cst (ns : List (Nat × Nat)) : List (Int × Int) := ns.map fun e => ((e.1 : Int), (e.2 : Int))

/-- A slice of pairs of nodes. -/
def NPairs (w : World) (v : Value) (ns : List (Nat × Nat)) : Prop := Pairs w v (cst ns)

theorem NPairs.below {w w1 : World} {v : Value} {l : List (Nat × Nat)} (h : NPairs w v l) (hb : Below w.heap.size w w1) : NPairs w1 v l := Pairs.below h hb

theorem sl_lit {α : Type} (w : World) (f : α → Value) (l : List α) (cs : Array Value) (t : TypeId) (n : Nat) (hcs : cs = (l.map f).toArray) (hn : n = l.length) : Sl (w.alloc (.cells cs t)) f (.slice (some ⟨w.heap.size, 0, none⟩) n n) l := by
  subst hcs hn
  refine ⟨_, _, rfl, fun _ => ⟨_, _, rfl, by simp, fun k x hx => ?_⟩⟩
  rw [World.cell?_alloc_at _ _ _ _ rfl, Nat.zero_add]
  simp [hx]

theorem rows_get {w : World} {ao : Option Addr} {n cap k : Nat} {l : List (List Nat)} {r : List Nat} (h : Rows w (.slice ao n cap) l) (hk : l[k]? = some r) :
    ∃ b off, ao = some ⟨b, off, none⟩ ∧ b < w.heap.size ∧ ∃ uo uc, w.cell? ⟨b, off + k, none⟩ = some (.slice uo r.length uc) ∧ Nats w (.slice uo r.length uc) r := by
  obtain ⟨ao', cap', hv, h2⟩ := h
  cases hv
  obtain ⟨b, off, rfl, hlt, hc⟩ := h2 (by have := (List.getElem?_eq_some_iff.1 hk).1; omega)
  obtain ⟨u, hu, hn⟩ := hc k r hk
  have hn' := hn
  obtain ⟨uo, uc, rfl, _⟩ := hn
  exact ⟨b, off, rfl, hlt, uo, uc, hu, hn'⟩

theorem nats_get {w : World} {ao : Option Addr} {n cap k : Nat} {l : List Nat} {x : Nat} (h : Nats w (.slice ao n cap) l) (hk : l[k]? = some x) :
    ∃ b off, ao = some ⟨b, off, none⟩ ∧ b < w.heap.size ∧ w.cell? ⟨b, off + k, none⟩ = some (.int .i64 (x : Int)) := by
  obtain ⟨ao', cap', hv, h2⟩ := h
  cases hv
  obtain ⟨b, off, rfl, hlt, hc⟩ := h2 (by have := (List.getElem?_eq_some_iff.1 hk).1; omega)
  exact ⟨b, off, rfl, hlt, hc k x hk⟩

theorem Mat.mono {w : World} {base base' : Nat} {V : Value} {rows : List (List Nat)} (h : Mat w base V rows) (hb : base' ≤ base) : Mat w base' V rows := by
  obtain ⟨vals, h1, h2, h3, h4⟩ := h
  exact ⟨vals, h1, h2.mono hb, fun k v r hv hr => (h3 k v r hv hr).mono hb, h4⟩
end
section
open Go.RowKit
set_option linter.unusedVariables false

/-- 'append(v, s...)' for two slices of the call's own. -/
theorem wpList_app {α : Type} {P : Program} (w0 : World) {ops : Array Oper} {rest : List Oper} {o : Oper} {a : Act} {Q : Exit → Act → World → Prop} (hgd : o.guard = none) (s x : Operand) (t : TypeId)
    (ho : o.op = .call { callee := .builtin .append, args := #[s, x], argTypes := #[t, t] })
    (e bytes : Nat) (he : Elem P t e bytes) (base base2 : Nat) (f : α → Value) (v u : Value) (l l2 : List α) (h1 : ∀ y, (f y).oneCell' = true)
    (hown : Own w0 base e f v l) (hsrc : Own w0 base2 e f u l2) (hs : a.eval s = v) (hx : a.eval x = u)
    (h63 : l.length + l2.length ≤ 1099511627776) (hby : bytes ≤ 64) (hbase : base ≤ w0.heap.size)
    (hK : ∀ v' w', Own w' base e f v' (l ++ l2) → w0.grownBy w' v.ownBlock → (v'.ownBlock = v.ownBlock ∨ ∃ g, w0.heap.size ≤ g ∧ v'.ownBlock = some g) → wpList P ops Q rest (a.put o.dst v') w') :
    wpList P ops Q (o :: rest) a w0 := by
  obtain ⟨ht, i, z, hi, hz, hsz, hb, hzs⟩ := he
  have hrun : ∃ v' w', (Builtin.append_ #[t, t] o.type #[v, u]).run P w0 = .ok v' w' ∧ Own w' base e f v' (l ++ l2) ∧ w0.grownBy w' v.ownBlock ∧ (v'.ownBlock = v.ownBlock ∨ ∃ g, w0.heap.size ≤ g ∧ v'.ownBlock = some g) := by
    have hcs := hsrc
    rcases hcs.2 with ⟨rfl, h0⟩ | ⟨g, cap, cur, rfl, hbb, hg, _⟩
    · have hl2 : l2 = [] := List.length_eq_zero_iff.1 h0
      subst hl2
      refine ⟨v, w0, run_append_owned_none w0 base t o.type e i 1 ht hi v l.length (l.map f) hown, by rw [List.append_nil]; exact hown, only_refl _ _, .inl rfl⟩
    · obtain ⟨v', w', hrun, h2, h3, _, h5⟩ := run_append_own_at (P := P) w0 base t o.type e i z 1 bytes ht hi hz hsz hb hzs (by omega) v l.length (l.map f) hown
        ⟨g, 0, none⟩ l2.length cap (l2.map f) (by simp) (by
          intro j y hj
          rw [List.getElem?_map] at hj
          obtain ⟨x, hx, rfl⟩ := Option.map_eq_some_iff.1 hj
          rw [Addr.add_lit, Nat.zero_add]
          exact hsrc.cell hx) (by
          intro y hy
          obtain ⟨x, _, rfl⟩ := List.mem_map.1 hy
          exact h1 x) (by unfold maxLen; omega) (by
          have : (l.length + l2.length) * bytes ≤ 1099511627776 * 64 := Nat.mul_le_mul h63 hby
          omega) hbase
      refine ⟨v', w', hrun, ?_, h3, ?_⟩
      · unfold Own
        rw [List.length_append, List.map_append]
        exact h2
      · rcases h5 with h5 | h5
        · exact .inl h5
        · exact .inr ⟨_, Nat.le_refl _, h5⟩
  obtain ⟨v', w', hrun, k1, k2, k3⟩ := hrun
  refine wpList_plain hgd fun K hK' => ?_
  unfold Oper.wp execOp
  simp only [ho, resolve, invoke, builtin, Sem.run_bind, Sem.run_pure, Result.andThen_ok, List.map_toArray, List.map_cons, List.map_nil, hs, hx, hrun]
  exact hK' _ _ (hK v' w' k1 k2 k3)

/-- A slice of one element just written. -/
theorem own_litA {α : Type} (w : World) (e : TypeId) (f : α → Value) (x : α) (base : Nat) (hb : base ≤ w.heap.size) : Own (w.alloc (.cells #[f x] e)) base e f (.slice (some ⟨w.heap.size, 0, none⟩) 1 1) [x] :=
  World.ownsRow_lit w #[f x] 1 (e := e) (size := 1) hb (by unfold maxLen; omega) rfl

/-- Behind 'out = append(out, row)'. -/
theorem MatVals.pushRow {w w1 : World} {base : Nat} {V V1 v : Value} {vals : List Value} {rows : List (List Nat)} {r : List Nat} (h : MatVals w base V vals rows) (hr : Own w base 3 natf v r) (hfr : ∀ g, v.ownBlock = some g → ∀ (k : Nat) u, vals[k]? = some u → u.ownBlock ≠ some g)
    (hown : Own w1 base 23 rowf V1 (vals ++ [v])) (hg : w.grownBy w1 V.ownBlock) : MatVals w1 base V1 (vals ++ [v]) (rows ++ [r]) := by
  obtain ⟨h1, h2, h3, h4⟩ := h
  refine ⟨by simp [h1], hown, fun k u s hu hs => ?_, fun i j vi vj g hij hi hj hgi => ?_⟩
  · rcases Nat.lt_or_ge k rows.length with hk | hk
    · rw [List.getElem?_append_left (by omega)] at hu hs
      have := h3 k u s hu hs
      exact this.only hg (this.apart h2 (by decide))
    · rw [List.getElem?_append_right (by omega)] at hu
      have : k - vals.length = 0 := by
        have := (List.getElem?_eq_some_iff.1 hu).1
        simp at this; omega
      rw [this] at hu
      cases hu
      rw [List.getElem?_append_right hk, show k - rows.length = 0 by omega] at hs
      cases hs
      exact hr.only hg (hr.apart h2 (by decide))
  · have key : ∀ (k : Nat) u, (vals ++ [v])[k]? = some u → vals[k]? = some u ∨ (k = vals.length ∧ u = v) := by
      intro k u hu
      rcases Nat.lt_or_ge k vals.length with hk | hk
      · rw [List.getElem?_append_left hk] at hu; exact .inl hu
      · rw [List.getElem?_append_right hk] at hu
        have : k - vals.length = 0 := by
          have := (List.getElem?_eq_some_iff.1 hu).1
          simp at this; omega
        rw [this] at hu
        cases hu
        exact .inr ⟨by omega, rfl⟩
    intro hgj
    rcases key i vi hi with a | ⟨a, rfl⟩ <;> rcases key j vj hj with b | ⟨b, rfl⟩
    · exact h4 i j vi vj g hij a b hgi hgj
    · exact hfr g hgj i vi a hgi
    · exact hfr g hgi j vj b hgj
    · omega

theorem MatVals.old {w : World} {base : Nat} {V : Value} {vals : List Value} {rows : List (List Nat)} (h : MatVals w base V vals rows) (k : Nat) (u : Value) (hu : vals[k]? = some u) (g : Nat) (hg : u.ownBlock = some g) : g < w.heap.size := by
  obtain ⟨s, hs⟩ := getElem?_of_len h.1 hu
  exact ((h.2.2.1 k u s hu hs).lt g hg).2
theorem MatVals.below {w w1 : World} {base : Nat} {V : Value} {vals : List Value} {rows : List (List Nat)} (h : MatVals w base V vals rows) (hb : Below w.heap.size w w1) : MatVals w1 base V vals rows := h.kept fun g _ hg _ => hb.block g hg
theorem MatVals.only {w w1 : World} {base : Nat} {V : Value} {vals : List Value} {rows : List (List Nat)} (h : MatVals w base V vals rows) {r : Option Nat} (hg : w.grownBy w1 r) (hr : ∀ g, r = some g → w.heap.size ≤ g) : MatVals w1 base V vals rows :=
  h.kept fun g _ hg' _ => hg.block g hg' (fun e => by have := hr g e.symm; omega)
end
end Go.Proofs.YtejcgjdfajppgaaGreatDoor
