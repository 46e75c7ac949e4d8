/-
  Base texts, shaken by wip/shake.py: Lda.
-/
import Derived.Laws.StructEq
import Derived.WalkLawsBesides
import Derived.Deep.MidRow
import Derived.Deep.RegionHeld3
import Derived.Deep.DrawnRows
import Derived.Deep.DeepCutAuto
import Derived.StillTailTactics
import Derived.Test.YtejcgjdfajppgaaGreatDoorKmm
namespace Go.Proofs.YtejcgjdfajppgaaGreatDoor
section
section
open Go.RowKit
set_option linter.unusedVariables false

structure Pt where
  x : Int
  y : Int
  z : Int
deriving DecidableEq
structure Bx where
  lo : Pt
  hi : Pt
deriving DecidableEq
structure BarD where
  mark : ByteArray
  size : Int
  count : Int
  code : Int
  dims : List Int
structure RunD where
  mark : ByteArray
  tx : Int
  ty : Int
  at_ : Pt
  step : Pt
  count : Int

def ptCells (p : Pt) : List Value := [.int .i64 p.x, .int .i64 p.y, .int .i64 p.z]
def bxCells (b : Bx) : List Value := [.int .i64 b.lo.x, .int .i64 b.lo.y, .int .i64 b.lo.z, .int .i64 b.hi.x, .int .i64 b.hi.y, .int .i64 b.hi.z]
def runCells (r : RunD) : List Value := [.string r.mark, .int .i64 r.tx, .int .i64 r.ty, .int .i64 r.at_.x, .int .i64 r.at_.y, .int .i64 r.at_.z, .int .i64 r.step.x, .int .i64 r.step.y, .int .i64 r.step.z, .int .i64 r.count]
def Fl {α : Type} (n : Nat) (enc : α → List Value) (w : World) (v : Value) (l : List α) : Prop :=
  ∃ ao cap, v = .slice ao l.length cap ∧ (0 < l.length → ∃ b off, ao = some ⟨b, off, none⟩ ∧ b < w.heap.size ∧ ∀ k x, l[k]? = some x → ∀ j u, (enc x)[j]? = some u → w.cell? ⟨b, off + k * n + j, none⟩ = some u)

section
variable {α : Type} {n : Nat} {enc : α → List Value} {w w1 : World} {v : Value} {l : List α}
theorem Fl.keep (h : Fl n enc w v l) (hs : w.heap.size ≤ w1.heap.size) (hk : ∀ b o, b < w.heap.size → (∃ off n c, v = .slice (some ⟨b, off, none⟩) n c) → w1.cell? ⟨b, o, none⟩ = w.cell? ⟨b, o, none⟩) : Fl n enc w1 v l := by
  obtain ⟨ao, cap, rfl, h⟩ := h
  refine ⟨ao, cap, rfl, fun hl => ?_⟩
  obtain ⟨b, off, rfl, hlt, hc⟩ := h hl
  exact ⟨b, off, rfl, Nat.lt_of_lt_of_le hlt hs, fun k x hx j u hu => (hk b _ hlt ⟨_, _, _, rfl⟩).trans (hc k x hx j u hu)⟩
theorem Fl.below (h : Fl n enc w v l) (hb : Below w.heap.size w w1) : Fl n enc w1 v l := h.keep hb.size fun b o hlt _ => hb.cell (p := ⟨b, o, none⟩) hlt
theorem Fl.nil (n : Nat) (enc : α → List Value) (w : World) (ao : Option Addr) (c : Nat) : Fl n enc w (.slice ao 0 c) [] := ⟨ao, c, rfl, fun h => absurd h (by simp)⟩
theorem Fl.at_ (h : Fl n enc w v l) : ∃ ao cap, v = .slice ao l.length cap := by obtain ⟨ao, cap, rfl, _⟩ := h; exact ⟨ao, cap, rfl⟩
theorem Fl.get {ao : Option Addr} {len cap k : Nat} {x : α} (h : Fl n enc w (.slice ao len cap) l) (hx : l[k]? = some x) :
    ∃ b off, ao = some ⟨b, off, none⟩ ∧ b < w.heap.size ∧ ∀ j u, (enc x)[j]? = some u → w.cell? ⟨b, off + k * n + j, none⟩ = some u := by
  obtain ⟨ao', cap', hv, h2⟩ := h
  cases hv
  obtain ⟨b, off, rfl, hlt, hc⟩ := h2 (by have := (List.getElem?_eq_some_iff.1 hx).1; omega)
  exact ⟨b, off, rfl, hlt, hc k x hx⟩
/-- The first cells of a slice, with another length. -/
theorem Fl.take_ {ao : Option Addr} {len cap : Nat} (h : Fl n enc w (.slice ao len cap) l) (m c : Nat) (hm : m ≤ len) : Fl n enc w (.slice ao m c) (l.take m) := by
  obtain ⟨ao', cap', hv, h2⟩ := h
  cases hv
  have e : (l.take m).length = m := by simp; omega
  refine ⟨ao, c, by rw [e], fun hl => ?_⟩
  obtain ⟨b, off, rfl, hlt, hc⟩ := h2 (by rw [e] at hl; omega)
  refine ⟨b, off, rfl, hlt, fun k x hx => hc k x ?_⟩
  rw [List.getElem?_take] at hx
  split at hx
  · exact hx
  · cases hx
end

def OwnN {α : Type} (w : World) (base : Nat) (e : TypeId) (n : Nat) (enc : α → List Value) (v : Value) (l : List α) : Prop := w.ownsRow base e n v l.length (l.flatMap enc)

theorem flat_get {α : Type} {n : Nat} {enc : α → List Value} (hn : ∀ x, (enc x).length = n) (l : List α) : ∀ (k : Nat) (x : α) (j : Nat) (u : Value), l[k]? = some x → (enc x)[j]? = some u → (l.flatMap enc)[k * n + j]? = some u := by
  induction l with
  | nil => intro k x j u h; cases h
  | cons a l ih =>
    intro k x j u h hu
    rw [List.flatMap_cons]
    cases k with
    | zero =>
      cases h
      rw [List.getElem?_append_left (by have := (List.getElem?_eq_some_iff.1 hu).1; omega)]
      simpa using hu
    | succ k =>
      rw [List.getElem?_append_right (by rw [hn]; have : n ≤ (k + 1) * n := by rw [Nat.succ_mul]; omega
                                         omega), hn]
      rw [show (k + 1) * n + j - n = k * n + j by rw [Nat.succ_mul]; omega]
      exact ih k x j u (by simpa using h) hu
theorem flat_len {α : Type} {n : Nat} {enc : α → List Value} (hn : ∀ x, (enc x).length = n) (l : List α) : (l.flatMap enc).length = l.length * n := by
  induction l with
  | nil => simp
  | cons a l ih => rw [List.flatMap_cons, List.length_append, hn, ih, List.length_cons, Nat.succ_mul]; omega

section
variable {α : Type} {n : Nat} {enc : α → List Value} {w w1 : World} {base : Nat} {e : TypeId} {v : Value} {l : List α}
theorem OwnN.nil (w : World) (base : Nat) (e : TypeId) (n : Nat) (enc : α → List Value) : OwnN w base e n enc (.slice none 0 0) [] := World.ownsRow_nil _ _ _ _
theorem OwnN.shape (h : OwnN w base e n enc v l) : ∃ ao cap, v = .slice ao l.length cap := by
  rcases h.2 with ⟨rfl, h0⟩ | ⟨g, cap, cur, rfl, hb, hg, _⟩
  · exact ⟨none, 0, by rw [h0]⟩
  · exact ⟨_, cap, rfl⟩
theorem OwnN.lt (h : OwnN w base e n enc v l) : ∀ g, v.ownBlock = some g → base ≤ g ∧ g < w.heap.size := World.ownsRow.lt h
theorem OwnN.fl (hn : ∀ x, (enc x).length = n) (h : OwnN w base e n enc v l) : Fl n enc w v l := by
  have h0 := h
  rcases h.2 with ⟨rfl, hl⟩ | ⟨g, cap, cur, rfl, hb, hg, _⟩
  · exact ⟨none, 0, by rw [hl], fun h => by omega⟩
  · refine ⟨_, cap, rfl, fun _ => ⟨g, 0, rfl, (Array.getElem?_eq_some_iff.1 hg).1, fun k x hx j u hu => ?_⟩⟩
    have c1 := World.ownsRow.cells h0 (g := g) rfl (k * n + j) u (flat_get hn l k x j u hx hu)
    rw [Nat.zero_add]
    simpa [Addr.add_lit] using c1
theorem OwnN.kept (h : OwnN w base e n enc v l) (hk : ∀ g, v.ownBlock = some g → w1.heap[g]? = w.heap[g]?) : OwnN w1 base e n enc v l := by
  refine ⟨h.1, ?_⟩
  rcases h.2 with hn | ⟨g, cap, cur, rfl, hb, hgg, rest⟩
  · exact .inl hn
  · exact .inr ⟨g, cap, cur, rfl, hb, (hk g rfl).trans hgg, rest⟩
theorem OwnN.below (h : OwnN w base e n enc v l) (hb : Below w.heap.size w w1) : OwnN w1 base e n enc v l := h.kept fun g hv => hb.block g (h.lt g hv).2
theorem OwnN.only (h : OwnN w base e n enc v l) {r : Option Nat} (hg : w.grownBy w1 r) (hne : ∀ g, v.ownBlock = some g → some g ≠ r) : OwnN w1 base e n enc v l :=
  h.kept fun g hv => hg.block g (h.lt g hv).2 (hne g hv)
theorem OwnN.alloc (h : OwnN w base e n enc v l) (o : Obj) : OwnN (w.alloc o) base e n enc v l := World.ownsRow.alloc h o
theorem OwnN.mono (h : OwnN w base e n enc v l) {base' : Nat} (hb : base' ≤ base) : OwnN w base' e n enc v l := by
  refine ⟨h.1, ?_⟩
  rcases h.2 with hn | ⟨g, cap, cur, rfl, hg, rest⟩
  · exact .inl hn
  · exact .inr ⟨g, cap, cur, rfl, Nat.le_trans hb hg, rest⟩
end

theorem own_lit {α : Type} (w : World) (e : TypeId) (n : Nat) (enc : α → List Value) (l : List α) (cs : Array Value) (m base : Nat) (hb : base ≤ w.heap.size) (hcs : cs = (l.flatMap enc).toArray) (hm : m = l.length) (hn : ∀ x, (enc x).length = n) (hl : l.length ≤ 1099511627776) :
    OwnN (w.alloc (.cells cs e)) base e n enc (.slice (some ⟨w.heap.size, 0, none⟩) m m) l := by
  subst hcs hm
  have h := World.ownsRow_lit (base := base) (e := e) (size := n) w (l.flatMap enc).toArray l.length hb (by unfold maxLen; omega) (by rw [List.size_toArray, flat_len hn])
  exact h

/-- An element type of so many cells, and the slice type over it. -/
def ElemN (P : Program) (t e : TypeId) (n bytes : Nat) : Prop :=
  P.underlying t = some (.slice e) ∧ ∃ i z, P.info? e = some i ∧ i.zero = some z ∧ i.size = n ∧ i.bytes = bytes ∧ z.cells.size = n ∧ 0 < n

theorem elemN_of {P : Program} {t e : TypeId} {z : Value} {n bytes : Nat} (ht : P.underlying t = some (.slice e)) (h : (P.info? e).map (fun i => (i.zero, i.size, i.bytes)) = some (some z, n, bytes)) (hz : z.cells.size = n) (hn : 0 < n) : ElemN P t e n bytes := by
  obtain ⟨i, h1, h2, h3, h4⟩ := info_parts h
  exact ⟨ht, i, z, h1, h2, h3, h4, hz, hn⟩

/-- What 'v = append(v, y)' does: the new element lies in a block of its own just made. -/
theorem run_pushN {α : Type} {P : Program} (w0 : World) (t ty : TypeId)
    (e n bytes : Nat) (he : ElemN P t e n bytes) (base : Nat) (enc : α → List Value) (v : Value) (l : List α) (y : α) (cs : Array Value) (hcs : cs = (enc y).toArray) (hny : (enc y).length = n) (h1 : ∀ u ∈ enc y, u.oneCell' = true)
    (hown : OwnN w0 base e n enc v l)
    (h63 : l.length + 1 ≤ 1099511627776) (hby : bytes ≤ 120) (hbase : base ≤ w0.heap.size) :
    ∃ v' w', (Builtin.append_ #[t, t] ty #[v, .slice (some ⟨w0.heap.size, 0, none⟩) 1 1]).run P (w0.alloc (.cells cs e)) = .ok v' w' ∧
      OwnN w' base e n enc v' (l ++ [y]) ∧ w0.grownBy w' v.ownBlock ∧ (v'.ownBlock = v.ownBlock ∨ ∃ g, w0.heap.size ≤ g ∧ v'.ownBlock = some g) := by
  obtain ⟨ht, i, z, hi, hz, hsz, hb, hzs, hpos⟩ := he
  subst hcs
  have hown1 : (w0.alloc (.cells (enc y).toArray e)).ownsRow base e n v l.length (l.flatMap enc) := World.ownsRow.alloc hown _
  obtain ⟨v', w', hrun, h2, h3, _, h5⟩ := run_append_own_at (P := P) (w0.alloc (.cells (enc y).toArray e)) base t ty e i z n bytes ht hi hz hsz hb hzs hpos v l.length (l.flatMap enc) hown1
    ⟨w0.heap.size, 0, none⟩ 1 1 (enc y) (by rw [hny]; omega) (by
      intro j u hj
      rw [Addr.add_lit, World.cell?_alloc_at _ _ _ _ rfl]
      simpa using hj) h1 (by unfold maxLen; omega) (by
      have : (l.length + 1) * bytes ≤ 1099511627776 * 120 := Nat.mul_le_mul h63 hby
      omega) (by simp; omega)
  refine ⟨v', w', hrun, ?_, only_next (World.grownBy_alloc w0 _ v.ownBlock) h3 (.inl rfl), ?_⟩
  · unfold OwnN
    rw [List.length_append, List.flatMap_append]
    simpa using h2
  · rcases h5 with h5 | h5
    · exact .inl h5
    · exact .inr ⟨_, by simp, h5⟩

theorem wpList_pushN {α : Type} {P : Program} (w0 : World) {ops : Array Oper} {rest : List Oper} {o : Oper} {a : Act} {Q : Exit → Act → World → Prop} (hgd : o.guard = none) (s x : Operand) (t : TypeId)
    (ho : o.op = .call { callee := .builtin .append, args := #[s, x], argTypes := #[t, t] })
    (e n bytes : Nat) (he : ElemN P t e n bytes) (base : Nat) (enc : α → List Value) (v : Value) (l : List α) (y : α) (cs : Array Value) (hcs : cs = (enc y).toArray) (hny : (enc y).length = n) (h1 : ∀ u ∈ enc y, u.oneCell' = true)
    (hown : OwnN w0 base e n enc v l) (hs : a.eval s = v) (hx : a.eval x = .slice (some ⟨w0.heap.size, 0, none⟩) 1 1)
    (h63 : l.length + 1 ≤ 1099511627776) (hby : bytes ≤ 120) (hbase : base ≤ w0.heap.size)
    (hK : ∀ v' w', OwnN w' base e n enc v' (l ++ [y]) → w0.grownBy w' v.ownBlock → (v'.ownBlock = v.ownBlock ∨ ∃ g, w0.heap.size ≤ g ∧ v'.ownBlock = some g) → wpList P ops Q rest (a.put o.dst v') w') :
    wpList P ops Q (o :: rest) a (w0.alloc (.cells cs e)) := by
  obtain ⟨v', w', hrun, h2, h3, h5⟩ := run_pushN (P := P) w0 t o.type e n bytes he base enc v l y cs hcs hny h1 hown h63 hby hbase
  refine wpList_plain hgd fun K hK' => ?_
  unfold Oper.wp execOp
  simp only [ho, resolve, invoke, builtin, Sem.run_bind, Sem.run_pure, Result.andThen_ok, List.map_toArray, List.map_cons, List.map_nil, hs, hx, hrun]
  exact hK' _ _ (hK v' w' h2 h3 h5)

theorem step_pushN {α : Type} {P : Program} (w0 : World) {ops : Array Oper} {o : Oper} {a : Act} {K : Act → World → Prop} {Q : Exit → Act → World → Prop} {E : Prop} (hgd : o.guard = none) (s x : Operand) (t : TypeId)
    (ho : o.op = .call { callee := .builtin .append, args := #[s, x], argTypes := #[t, t] })
    (e n bytes : Nat) (he : ElemN P t e n bytes) (base : Nat) (enc : α → List Value) (v : Value) (l : List α) (y : α) (cs : Array Value) (hcs : cs = (enc y).toArray) (hny : (enc y).length = n) (h1 : ∀ u ∈ enc y, u.oneCell' = true)
    (hown : OwnN w0 base e n enc v l) (hs : a.eval s = v) (hx : a.eval x = .slice (some ⟨w0.heap.size, 0, none⟩) 1 1)
    (h63 : l.length + 1 ≤ 1099511627776) (hby : bytes ≤ 120) (hbase : base ≤ w0.heap.size)
    (hK : ∀ v' w', OwnN w' base e n enc v' (l ++ [y]) → w0.grownBy w' v.ownBlock → (v'.ownBlock = v.ownBlock ∨ ∃ g, w0.heap.size ≤ g ∧ v'.ownBlock = some g) → K (a.put o.dst v') w') :
    if Region.wanted o (yielded ops a.tmps) = true then Oper.wp P o a (w0.alloc (.cells cs e)) K Q else E := by
  have hw : Region.wanted o (yielded ops a.tmps) = true := by simp [Region.wanted, hgd]
  rw [if_pos hw]
  obtain ⟨v', w', hrun, h2, h3, h5⟩ := run_pushN (P := P) w0 t o.type e n bytes he base enc v l y cs hcs hny h1 hown h63 hby hbase
  unfold Oper.wp execOp
  simp only [ho, resolve, invoke, builtin, Sem.run_bind, Sem.run_pure, Result.andThen_ok, List.map_toArray, List.map_cons, List.map_nil, hs, hx, hrun]
  exact hK v' w' h2 h3 h5

def Bars (w : World) (v : Value) (l : List BarD) : Prop :=
  ∃ ao cap, v = .slice ao l.length cap ∧ (0 < l.length → ∃ b off, ao = some ⟨b, off, none⟩ ∧ b < w.heap.size ∧ ∀ k x, l[k]? = some x →
    w.cell? ⟨b, off + k * 5, none⟩ = some (.string x.mark) ∧ w.cell? ⟨b, off + k * 5 + 1, none⟩ = some (.int .i64 x.size) ∧ w.cell? ⟨b, off + k * 5 + 2, none⟩ = some (.int .i64 x.count) ∧ w.cell? ⟨b, off + k * 5 + 3, none⟩ = some (.int .i64 x.code) ∧
    ∃ uo uc, w.cell? ⟨b, off + k * 5 + 4, none⟩ = some (.slice uo x.dims.length uc) ∧ Ints w (.slice uo x.dims.length uc) x.dims)
theorem Bars.below {w w1 : World} {v : Value} {l : List BarD} (h : Bars w v l) (hb : Below w.heap.size w w1) : Bars w1 v l := by
  obtain ⟨ao, cap, rfl, h⟩ := h
  refine ⟨ao, cap, rfl, fun hl => ?_⟩
  obtain ⟨b, off, rfl, hlt, hc⟩ := h hl
  refine ⟨b, off, rfl, Nat.lt_of_lt_of_le hlt hb.size, fun k x hx => ?_⟩
  obtain ⟨h1, h2, h3, h4, uo, uc, h5, h6⟩ := hc k x hx
  exact ⟨(hb.cell hlt).trans h1, (hb.cell hlt).trans h2, (hb.cell hlt).trans h3, (hb.cell hlt).trans h4, uo, uc, (hb.cell hlt).trans h5, Sl.below h6 hb⟩
theorem Bars.at_ {w : World} {v : Value} {l : List BarD} (h : Bars w v l) : ∃ ao cap, v = .slice ao l.length cap := by obtain ⟨ao, cap, rfl, _⟩ := h; exact ⟨ao, cap, rfl⟩
theorem bars_get {w : World} {ao : Option Addr} {len cap k : Nat} {l : List BarD} {x : BarD} (h : Bars w (.slice ao len cap) l) (hk : l[k]? = some x) :
    ∃ b off, ao = some ⟨b, off, none⟩ ∧ b < w.heap.size ∧ w.cell? ⟨b, off + k * 5, none⟩ = some (.string x.mark) ∧ w.cell? ⟨b, off + k * 5 + 1, none⟩ = some (.int .i64 x.size) ∧ w.cell? ⟨b, off + k * 5 + 2, none⟩ = some (.int .i64 x.count) ∧ w.cell? ⟨b, off + k * 5 + 3, none⟩ = some (.int .i64 x.code) ∧
      ∃ uo uc, w.cell? ⟨b, off + k * 5 + 4, none⟩ = some (.slice uo x.dims.length uc) ∧ Ints w (.slice uo x.dims.length uc) x.dims := by
  obtain ⟨ao', cap', hv, h2⟩ := h
  cases hv
  obtain ⟨b, off, rfl, hlt, hc⟩ := h2 (by have := (List.getElem?_eq_some_iff.1 hk).1; omega)
  exact ⟨b, off, rfl, hlt, hc k x hk⟩

theorem bytes_inj {a b : ByteArray} (h : a.toList = b.toList) : a = b := by
  rw [ByteArray.toList_eq, ByteArray.toList_eq] at h
  obtain ⟨⟨x⟩⟩ := a
  obtain ⟨⟨y⟩⟩ := b
  have h' : x = y := h
  rw [h']
theorem bytes_beq (a b : ByteArray) : (a.toList == b.toList) = decide (a = b) := by
  by_cases h : a = b
  · subst h; simp
  · rw [decide_eq_false h]
    simpa using fun e => h (bytes_inj e)
end

section
open Go.RowKit
set_option linter.unusedVariables false

/-- Coordinates up to n. -/
def PtIn (n : Int) (p : Pt) : Prop := -n ≤ p.x ∧ p.x ≤ n ∧ -n ≤ p.y ∧ p.y ≤ n ∧ -n ≤ p.z ∧ p.z ≤ n
end

section
open Go.RowKit
set_option linter.unusedVariables false
set_option linter.unusedSimpArgs false

end

section
open Go.RowKit
set_option linter.unusedVariables false

theorem heap_setCells (g : Nat) (t : TypeId) : ∀ (vs : List Value) (o : Nat) (w : World) (pre old : List Value), pre.length = o → old.length = vs.length → w.heap[g]? = some (.cells (pre ++ old).toArray t (0, 0)) → (w.setCells g o vs).heap[g]? = some (.cells (pre ++ vs).toArray t (0, 0))
  | [], o, w, pre, old, hp, ho, h => by
    have : old = [] := List.eq_nil_of_length_eq_zero (by simpa using ho)
    subst this
    exact h
  | v :: vs, o, w, pre, old, hp, ho, h => by
    cases old with
    | nil => simp at ho
    | cons u old =>
      have h2 := heap_setCell_same w g o _ t v h
      have e : ((pre ++ u :: old).toArray.setIfInBounds o v) = ((pre ++ [v]) ++ old).toArray := by
        rw [List.setIfInBounds_toArray, List.set_append_right _ _ (by omega), hp, Nat.sub_self]
        simp
      rw [e] at h2
      have h3 := heap_setCells g t vs (o + 1) (w.setCell ⟨g, o, none⟩ v) (pre ++ [v]) old (by simp; omega) (by simpa using ho) h2
      have e2 : pre ++ [v] ++ vs = pre ++ v :: vs := by simp
      rw [e2] at h3
      exact h3

theorem grown_setCells (g : Nat) : ∀ (vs : List Value) (o : Nat) (w : World), w.grownBy (w.setCells g o vs) (some g) ∧ (w.setCells g o vs).heap.size = w.heap.size
  | [], o, w => ⟨only_refl w _, rfl⟩
  | v :: vs, o, w => by
    obtain ⟨h1, h2⟩ := grown_setCells g vs (o + 1) (w.setCell ⟨g, o, none⟩ v)
    exact ⟨only_trans (only_set w g o v) h1, h2.trans (by simp)⟩

section
variable {P : Program} {op : Oper} {a : Act} {w : World} {K : Act → World → Prop} {Q : Exit → Act → World → Prop}
theorem wp_store_row (ty : TypeId) (x y : Operand) (ho : op.op = .store ty x y)
    (g : Nat) (t : TypeId) (old cs : Array Value) (hg : w.heap[g]? = some (.cells old t (0, 0))) (hsz : old.size = cs.size) (hx : a.eval x = .pointer (some ⟨g, 0, none⟩)) (hy : a.eval y = .agg cs)
    (hi : (P.info? ty).map (·.size) = some cs.size) (h1 : cs.all (·.oneCell') = true)
    (h : ∀ w', w'.heap[g]? = some (.cells cs t (0, 0)) → w.grownBy w' (some g) → w'.heap.size = w.heap.size → K (a.put op.dst undef) w') : op.wp P a w K Q := by
  refine wp_store_mid ty x y ho g 0 cs hx hy (fun j hj => ⟨?_, ?_⟩) hi h1 (h _ ?_ (grown_setCells g _ 0 w).1 (grown_setCells g _ 0 w).2)
  · rw [cell_of_row w g _ old t (0, 0) hg]
    simp; omega
  · exact frozen_of_row w g _ old t hg
  · obtain ⟨old⟩ := old
    obtain ⟨cs⟩ := cs
    have := heap_setCells g t cs 0 w [] old rfl (by simpa using hsz) hg
    exact this
end

end

section
open Go.RowKit
set_option linter.unusedVariables false
set_option linter.unusedSimpArgs false
attribute [local go_sem ↓] Go.wp_at_zero Go.wp_at_succ

/-- A block holds a direction. -/
def Holds3 (w : World) (g : Nat) (p : Pt) : Prop := w.cell? ⟨g, 0, none⟩ = some (.int .i64 p.x) ∧ w.cell? ⟨g, 1, none⟩ = some (.int .i64 p.y) ∧ w.cell? ⟨g, 2, none⟩ = some (.int .i64 p.z) ∧ g < w.heap.size
theorem hset {W : World} {g h G i : Nat} {p q : Pt} {u : Value} (hgh : g ≠ G ∧ h ≠ G) (H : Holds3 W g p ∧ Holds3 W h q) : Holds3 (W.setCell ⟨G, i, none⟩ u) g p ∧ Holds3 (W.setCell ⟨G, i, none⟩ u) h q := by
  obtain ⟨⟨a1, a2, a3, a4⟩, b1, b2, b3, b4⟩ := H
  have k : ∀ (o : Nat), (W.setCell ⟨G, i, none⟩ u).cell? ⟨g, o, none⟩ = W.cell? ⟨g, o, none⟩ := fun o => World.cell?_setCell_other _ _ _ _ (fun e => hgh.1 (by injection e with e1 _; exact e1.symm))
  have l : ∀ (o : Nat), (W.setCell ⟨G, i, none⟩ u).cell? ⟨h, o, none⟩ = W.cell? ⟨h, o, none⟩ := fun o => World.cell?_setCell_other _ _ _ _ (fun e => hgh.2 (by injection e with e1 _; exact e1.symm))
  exact ⟨⟨(k _).trans a1, (k _).trans a2, (k _).trans a3, by simpa using a4⟩, (l _).trans b1, (l _).trans b2, (l _).trans b3, by simpa using b4⟩
end

section
open Go.RowKit
set_option linter.unusedVariables false
set_option linter.unusedSimpArgs false

/-- What the loop has written after k rounds. -/
def imgCells (a b c : Pt) (p : Pt) (k : Nat) : Array Value :=
  #[.int .i64 (if 0 < k then a.x * p.x + b.x * p.y + c.x * p.z else 0), .int .i64 (if 1 < k then a.y * p.x + b.y * p.y + c.y * p.z else 0), .int .i64 (if 2 < k then a.z * p.x + b.z * p.y + c.z * p.z else 0)]

end

section
open Go.RowKit
set_option linter.unusedVariables false
set_option linter.unusedSimpArgs false
attribute [local go_sem ↓] Go.wp_at_zero Go.wp_at_succ

def BlkIs (w : World) (g : Nat) (t : TypeId) (cs : Array Value) : Prop := w.heap[g]? = some (.cells cs t (0, 0))
section
variable {w w' : World} {g : Nat} {t : TypeId} {cs : Array Value}
theorem BlkIs.lt (h : BlkIs w g t cs) : g < w.heap.size := (Array.getElem?_eq_some_iff.1 h).1
theorem BlkIs.below (h : BlkIs w g t cs) (hb : Below w.heap.size w w') : BlkIs w' g t cs := (hb.block _ h.lt).trans h
theorem BlkIs.cell (h : BlkIs w g t cs) (i : Nat) : w.cell? ⟨g, i, none⟩ = cs[i]? := cell_of_row _ _ _ _ _ _ h
theorem BlkIs.free (h : BlkIs w g t cs) (i : Nat) : w.frozen? ⟨g, i, none⟩ = false := frozen_of_row _ _ _ _ _ h
theorem BlkIs.alloc (h : BlkIs w g t cs) (o : Obj) : BlkIs (w.alloc o) g t cs := (Below.heap_alloc w o g h.lt).trans h
theorem BlkIs.new (w : World) (cs : Array Value) (t : TypeId) : BlkIs (w.alloc (.cells cs t)) w.heap.size t cs := heap_alloc_new w _
theorem BlkIs.new1 (w : World) (o : Obj) (cs : Array Value) (t : TypeId) : BlkIs ((w.alloc o).alloc (.cells cs t)) (w.heap.size + 1) t cs := heap_alloc2_new w _ _
theorem BlkIs.far (h : BlkIs w g t cs) {p : Addr} (hp : g ≠ p.block) (u : Value) : BlkIs (w.setCell p u) g t cs := (heap_setCell_other _ _ _ _ hp).trans h
theorem BlkIs.set (h : BlkIs w g t cs) (i : Nat) (u : Value) : BlkIs (w.setCell ⟨g, i, none⟩ u) g t (cs.setIfInBounds i u) := heap_setCell_same _ _ _ _ _ _ h
end
end

section
open Go.RowKit
set_option linter.unusedVariables false
set_option linter.unusedSimpArgs false
attribute [local go_sem ↓] Go.wp_at_zero Go.wp_at_succ

theorem PtIn.mono {m n : Int} {p : Pt} (h : PtIn m p) (hmn : m ≤ n) : PtIn n p := by unfold PtIn at *; omega
end

section
open Go.RowKit
set_option linter.unusedVariables false
set_option linter.unusedSimpArgs false

end
end
end Go.Proofs.YtejcgjdfajppgaaGreatDoor
