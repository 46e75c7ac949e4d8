/-
  Plain data of laid bars (points, boxes, bars, runs), and words for slices of structs: read as lists, and of the call's own.
-/
import Derived.Test.YtpidjgljeooblaaLia
import Derived.Laws.StructEq
namespace Go.Proofs.Ytpidjgljeooblaa
open Go.RowKit
set_option linter.unusedVariables false

structure Pt where
  x : Int
  y : Int
  z : Int
deriving DecidableEq
structure Bx where
  lo : Pt
  hi : Pt
deriving DecidableEq
structure BarD where
  mark : ByteArray
  size : Int
  count : Int
  code : Int
  dims : List Int
structure RunD where
  mark : ByteArray
  tx : Int
  ty : Int
  at_ : Pt
  step : Pt
  count : Int

def ptCells (p : Pt) : List Value := [.int .i64 p.x, .int .i64 p.y, .int .i64 p.z]
def bxCells (b : Bx) : List Value := [.int .i64 b.lo.x, .int .i64 b.lo.y, .int .i64 b.lo.z, .int .i64 b.hi.x, .int .i64 b.hi.y, .int .i64 b.hi.z]
def runCells (r : RunD) : List Value := [.string r.mark, .int .i64 r.tx, .int .i64 r.ty, .int .i64 r.at_.x, .int .i64 r.at_.y, .int .i64 r.at_.z, .int .i64 r.step.x, .int .i64 r.step.y, .int .i64 r.step.z, .int .i64 r.count]
def finCells (f : Int × ByteArray) : List Value := [.int .i64 f.1, .string f.2]

/-! ### a slice of structs that reads as a list: so many cells each -/
def Fl {α : Type} (n : Nat) (enc : α → List Value) (w : World) (v : Value) (l : List α) : Prop :=
  ∃ ao cap, v = .slice ao l.length cap ∧ (0 < l.length → ∃ b off, ao = some ⟨b, off, none⟩ ∧ b < w.heap.size ∧ ∀ k x, l[k]? = some x → ∀ j u, (enc x)[j]? = some u → w.cell? ⟨b, off + k * n + j, none⟩ = some u)

section
variable {α : Type} {n : Nat} {enc : α → List Value} {w w1 : World} {v : Value} {l : List α}
theorem Fl.keep (h : Fl n enc w v l) (hs : w.heap.size ≤ w1.heap.size) (hk : ∀ b o, b < w.heap.size → (∃ off n c, v = .slice (some ⟨b, off, none⟩) n c) → w1.cell? ⟨b, o, none⟩ = w.cell? ⟨b, o, none⟩) : Fl n enc w1 v l := by
  obtain ⟨ao, cap, rfl, h⟩ := h
  refine ⟨ao, cap, rfl, fun hl => ?_⟩
  obtain ⟨b, off, rfl, hlt, hc⟩ := h hl
  exact ⟨b, off, rfl, Nat.lt_of_lt_of_le hlt hs, fun k x hx j u hu => (hk b _ hlt ⟨_, _, _, rfl⟩).trans (hc k x hx j u hu)⟩
theorem Fl.below (h : Fl n enc w v l) (hb : Below w.heap.size w w1) : Fl n enc w1 v l := h.keep hb.size fun b o hlt _ => hb.cell (p := ⟨b, o, none⟩) hlt
theorem Fl.nil (n : Nat) (enc : α → List Value) (w : World) (ao : Option Addr) (c : Nat) : Fl n enc w (.slice ao 0 c) [] := ⟨ao, c, rfl, fun h => absurd h (by simp)⟩
theorem Fl.at_ (h : Fl n enc w v l) : ∃ ao cap, v = .slice ao l.length cap := by obtain ⟨ao, cap, rfl, _⟩ := h; exact ⟨ao, cap, rfl⟩
theorem Fl.get {ao : Option Addr} {len cap k : Nat} {x : α} (h : Fl n enc w (.slice ao len cap) l) (hx : l[k]? = some x) :
    ∃ b off, ao = some ⟨b, off, none⟩ ∧ b < w.heap.size ∧ ∀ j u, (enc x)[j]? = some u → w.cell? ⟨b, off + k * n + j, none⟩ = some u := by
  obtain ⟨ao', cap', hv, h2⟩ := h
  cases hv
  obtain ⟨b, off, rfl, hlt, hc⟩ := h2 (by have := (List.getElem?_eq_some_iff.1 hx).1; omega)
  exact ⟨b, off, rfl, hlt, hc k x hx⟩
/-- The first cells of a slice, with another length. -/
theorem Fl.take_ {ao : Option Addr} {len cap : Nat} (h : Fl n enc w (.slice ao len cap) l) (m c : Nat) (hm : m ≤ len) : Fl n enc w (.slice ao m c) (l.take m) := by
  obtain ⟨ao', cap', hv, h2⟩ := h
  cases hv
  have e : (l.take m).length = m := by simp; omega
  refine ⟨ao, c, by rw [e], fun hl => ?_⟩
  obtain ⟨b, off, rfl, hlt, hc⟩ := h2 (by rw [e] at hl; omega)
  refine ⟨b, off, rfl, hlt, fun k x hx => hc k x ?_⟩
  rw [List.getElem?_take] at hx
  split at hx
  · exact hx
  · cases hx
/-- Cells behind the first k. -/
theorem Fl.drop_ {b off len cap : Nat} (h : Fl n enc w (.slice (some ⟨b, off, none⟩) len cap) l) (k c : Nat) (hk : k ≤ len) : Fl n enc w (.slice (some ⟨b, off + k * n, none⟩) (len - k) c) (l.drop k) := by
  obtain ⟨ao', cap', hv, h2⟩ := h
  cases hv
  refine ⟨some ⟨b, off + k * n, none⟩, c, by rw [List.length_drop], fun hl => ?_⟩
  obtain ⟨b', off', e, hlt, hc⟩ := h2 (by simp at hl; omega)
  cases e
  refine ⟨b, _, rfl, hlt, fun i x hx j u hu => ?_⟩
  rw [List.getElem?_drop] at hx
  have := hc _ x hx j u hu
  rw [Nat.add_mul] at this
  rw [show off + k * n + i * n + j = off + (k * n + i * n) + j by omega]
  exact this
end

/-! ### a slice of structs of the call's own -/
def OwnN {α : Type} (w : World) (base : Nat) (e : TypeId) (n : Nat) (enc : α → List Value) (v : Value) (l : List α) : Prop := w.ownsRow base e n v l.length (l.flatMap enc)

theorem flat_get {α : Type} {n : Nat} {enc : α → List Value} (hn : ∀ x, (enc x).length = n) (l : List α) : ∀ (k : Nat) (x : α) (j : Nat) (u : Value), l[k]? = some x → (enc x)[j]? = some u → (l.flatMap enc)[k * n + j]? = some u := by
  induction l with
  | nil => intro k x j u h; cases h
  | cons a l ih =>
    intro k x j u h hu
    rw [List.flatMap_cons]
    cases k with
    | zero =>
      cases h
      rw [List.getElem?_append_left (by have := (List.getElem?_eq_some_iff.1 hu).1; omega)]
      simpa using hu
    | succ k =>
      rw [List.getElem?_append_right (by rw [hn]; have : n ≤ (k + 1) * n := by rw [Nat.succ_mul]; omega
                                         omega), hn]
      rw [show (k + 1) * n + j - n = k * n + j by rw [Nat.succ_mul]; omega]
      exact ih k x j u (by simpa using h) hu
theorem flat_len {α : Type} {n : Nat} {enc : α → List Value} (hn : ∀ x, (enc x).length = n) (l : List α) : (l.flatMap enc).length = l.length * n := by
  induction l with
  | nil => simp
  | cons a l ih => rw [List.flatMap_cons, List.length_append, hn, ih, List.length_cons, Nat.succ_mul]; omega

section
variable {α : Type} {n : Nat} {enc : α → List Value} {w w1 : World} {base : Nat} {e : TypeId} {v : Value} {l : List α}
theorem OwnN.nil (w : World) (base : Nat) (e : TypeId) (n : Nat) (enc : α → List Value) : OwnN w base e n enc (.slice none 0 0) [] := World.ownsRow_nil _ _ _ _
theorem OwnN.shape (h : OwnN w base e n enc v l) : ∃ ao cap, v = .slice ao l.length cap := by
  rcases h.2 with ⟨rfl, h0⟩ | ⟨g, cap, cur, rfl, hb, hg, _⟩
  · exact ⟨none, 0, by rw [h0]⟩
  · exact ⟨_, cap, rfl⟩
theorem OwnN.lt (h : OwnN w base e n enc v l) : ∀ g, v.ownBlock = some g → base ≤ g ∧ g < w.heap.size := World.ownsRow.lt h
theorem OwnN.fl (hn : ∀ x, (enc x).length = n) (h : OwnN w base e n enc v l) : Fl n enc w v l := by
  have h0 := h
  rcases h.2 with ⟨rfl, hl⟩ | ⟨g, cap, cur, rfl, hb, hg, _⟩
  · exact ⟨none, 0, by rw [hl], fun h => by omega⟩
  · refine ⟨_, cap, rfl, fun _ => ⟨g, 0, rfl, (Array.getElem?_eq_some_iff.1 hg).1, fun k x hx j u hu => ?_⟩⟩
    have c1 := World.ownsRow.cells h0 (g := g) rfl (k * n + j) u (flat_get hn l k x j u hx hu)
    rw [Nat.zero_add]
    simpa [Addr.add_lit] using c1
theorem OwnN.kept (h : OwnN w base e n enc v l) (hk : ∀ g, v.ownBlock = some g → w1.heap[g]? = w.heap[g]?) : OwnN w1 base e n enc v l := by
  refine ⟨h.1, ?_⟩
  rcases h.2 with hn | ⟨g, cap, cur, rfl, hb, hgg, rest⟩
  · exact .inl hn
  · exact .inr ⟨g, cap, cur, rfl, hb, (hk g rfl).trans hgg, rest⟩
theorem OwnN.below (h : OwnN w base e n enc v l) (hb : Below w.heap.size w w1) : OwnN w1 base e n enc v l := h.kept fun g hv => hb.block g (h.lt g hv).2
theorem OwnN.only (h : OwnN w base e n enc v l) {r : Option Nat} (hg : w.grownBy w1 r) (hne : ∀ g, v.ownBlock = some g → some g ≠ r) : OwnN w1 base e n enc v l :=
  h.kept fun g hv => hg.block g (h.lt g hv).2 (hne g hv)
theorem OwnN.alloc (h : OwnN w base e n enc v l) (o : Obj) : OwnN (w.alloc o) base e n enc v l := World.ownsRow.alloc h o
theorem OwnN.mono (h : OwnN w base e n enc v l) {base' : Nat} (hb : base' ≤ base) : OwnN w base' e n enc v l := by
  refine ⟨h.1, ?_⟩
  rcases h.2 with hn | ⟨g, cap, cur, rfl, hg, rest⟩
  · exact .inl hn
  · exact .inr ⟨g, cap, cur, rfl, Nat.le_trans hb hg, rest⟩
end

theorem own_lit {α : Type} (w : World) (e : TypeId) (n : Nat) (enc : α → List Value) (l : List α) (cs : Array Value) (m base : Nat) (hb : base ≤ w.heap.size) (hcs : cs = (l.flatMap enc).toArray) (hm : m = l.length) (hn : ∀ x, (enc x).length = n) (hl : l.length ≤ 1099511627776) :
    OwnN (w.alloc (.cells cs e)) base e n enc (.slice (some ⟨w.heap.size, 0, none⟩) m m) l := by
  subst hcs hm
  have h := World.ownsRow_lit (base := base) (e := e) (size := n) w (l.flatMap enc).toArray l.length hb (by unfold maxLen; omega) (by rw [List.size_toArray, flat_len hn])
  exact h

/-- An element type of so many cells, and the slice type over it. -/
def ElemN (P : Program) (t e : TypeId) (n bytes : Nat) : Prop :=
  P.underlying t = some (.slice e) ∧ ∃ i z, P.info? e = some i ∧ i.zero = some z ∧ i.size = n ∧ i.bytes = bytes ∧ z.cells.size = n ∧ 0 < n

theorem elemN_of {P : Program} {t e : TypeId} {z : Value} {n bytes : Nat} (ht : P.underlying t = some (.slice e)) (h : (P.info? e).map (fun i => (i.zero, i.size, i.bytes)) = some (some z, n, bytes)) (hz : z.cells.size = n) (hn : 0 < n) : ElemN P t e n bytes := by
  obtain ⟨i, h1, h2, h3, h4⟩ := info_parts h
  exact ⟨ht, i, z, h1, h2, h3, h4, hz, hn⟩

/-- What 'v = append(v, y)' does: the new element lies in a block of its own just made. -/
theorem run_pushN {α : Type} {P : Program} (w0 : World) (t ty : TypeId)
    (e n bytes : Nat) (he : ElemN P t e n bytes) (base : Nat) (enc : α → List Value) (v : Value) (l : List α) (y : α) (cs : Array Value) (hcs : cs = (enc y).toArray) (hny : (enc y).length = n) (h1 : ∀ u ∈ enc y, u.oneCell' = true)
    (hown : OwnN w0 base e n enc v l)
    (h63 : l.length + 1 ≤ 1099511627776) (hby : bytes ≤ 120) (hbase : base ≤ w0.heap.size) :
    ∃ v' w', (Builtin.append_ #[t, t] ty #[v, .slice (some ⟨w0.heap.size, 0, none⟩) 1 1]).run P (w0.alloc (.cells cs e)) = .ok v' w' ∧
      OwnN w' base e n enc v' (l ++ [y]) ∧ w0.grownBy w' v.ownBlock ∧ (v'.ownBlock = v.ownBlock ∨ ∃ g, w0.heap.size ≤ g ∧ v'.ownBlock = some g) := by
  obtain ⟨ht, i, z, hi, hz, hsz, hb, hzs, hpos⟩ := he
  subst hcs
  have hown1 : (w0.alloc (.cells (enc y).toArray e)).ownsRow base e n v l.length (l.flatMap enc) := World.ownsRow.alloc hown _
  obtain ⟨v', w', hrun, h2, h3, _, h5⟩ := run_append_own_at (P := P) (w0.alloc (.cells (enc y).toArray e)) base t ty e i z n bytes ht hi hz hsz hb hzs hpos v l.length (l.flatMap enc) hown1
    ⟨w0.heap.size, 0, none⟩ 1 1 (enc y) (by rw [hny]; omega) (by
      intro j u hj
      rw [Addr.add_lit, World.cell?_alloc_at _ _ _ _ rfl]
      simpa using hj) h1 (by unfold maxLen; omega) (by
      have : (l.length + 1) * bytes ≤ 1099511627776 * 120 := Nat.mul_le_mul h63 hby
      omega) (by simp; omega)
  refine ⟨v', w', hrun, ?_, only_next (World.grownBy_alloc w0 _ v.ownBlock) h3 (.inl rfl), ?_⟩
  · unfold OwnN
    rw [List.length_append, List.flatMap_append]
    simpa using h2
  · rcases h5 with h5 | h5
    · exact .inl h5
    · exact .inr ⟨_, by simp, h5⟩

theorem wpList_pushN {α : Type} {P : Program} (w0 : World) {ops : Array Oper} {rest : List Oper} {o : Oper} {a : Act} {Q : Exit → Act → World → Prop} (hgd : o.guard = none) (s x : Operand) (t : TypeId)
    (ho : o.op = .call { callee := .builtin .append, args := #[s, x], argTypes := #[t, t] })
    (e n bytes : Nat) (he : ElemN P t e n bytes) (base : Nat) (enc : α → List Value) (v : Value) (l : List α) (y : α) (cs : Array Value) (hcs : cs = (enc y).toArray) (hny : (enc y).length = n) (h1 : ∀ u ∈ enc y, u.oneCell' = true)
    (hown : OwnN w0 base e n enc v l) (hs : a.eval s = v) (hx : a.eval x = .slice (some ⟨w0.heap.size, 0, none⟩) 1 1)
    (h63 : l.length + 1 ≤ 1099511627776) (hby : bytes ≤ 120) (hbase : base ≤ w0.heap.size)
    (hK : ∀ v' w', OwnN w' base e n enc v' (l ++ [y]) → w0.grownBy w' v.ownBlock → (v'.ownBlock = v.ownBlock ∨ ∃ g, w0.heap.size ≤ g ∧ v'.ownBlock = some g) → wpList P ops Q rest (a.put o.dst v') w') :
    wpList P ops Q (o :: rest) a (w0.alloc (.cells cs e)) := by
  obtain ⟨v', w', hrun, h2, h3, h5⟩ := run_pushN (P := P) w0 t o.type e n bytes he base enc v l y cs hcs hny h1 hown h63 hby hbase
  refine wpList_plain hgd fun K hK' => ?_
  unfold Oper.wp execOp
  simp only [ho, resolve, invoke, builtin, Sem.run_bind, Sem.run_pure, Result.andThen_ok, List.map_toArray, List.map_cons, List.map_nil, hs, hx, hrun]
  exact hK' _ _ (hK v' w' h2 h3 h5)

theorem step_pushN {α : Type} {P : Program} (w0 : World) {ops : Array Oper} {o : Oper} {a : Act} {K : Act → World → Prop} {Q : Exit → Act → World → Prop} {E : Prop} (hgd : o.guard = none) (s x : Operand) (t : TypeId)
    (ho : o.op = .call { callee := .builtin .append, args := #[s, x], argTypes := #[t, t] })
    (e n bytes : Nat) (he : ElemN P t e n bytes) (base : Nat) (enc : α → List Value) (v : Value) (l : List α) (y : α) (cs : Array Value) (hcs : cs = (enc y).toArray) (hny : (enc y).length = n) (h1 : ∀ u ∈ enc y, u.oneCell' = true)
    (hown : OwnN w0 base e n enc v l) (hs : a.eval s = v) (hx : a.eval x = .slice (some ⟨w0.heap.size, 0, none⟩) 1 1)
    (h63 : l.length + 1 ≤ 1099511627776) (hby : bytes ≤ 120) (hbase : base ≤ w0.heap.size)
    (hK : ∀ v' w', OwnN w' base e n enc v' (l ++ [y]) → w0.grownBy w' v.ownBlock → (v'.ownBlock = v.ownBlock ∨ ∃ g, w0.heap.size ≤ g ∧ v'.ownBlock = some g) → K (a.put o.dst v') w') :
    if Region.wanted o (yielded ops a.tmps) = true then Oper.wp P o a (w0.alloc (.cells cs e)) K Q else E := by
  have hw : Region.wanted o (yielded ops a.tmps) = true := by simp [Region.wanted, hgd]
  rw [if_pos hw]
  obtain ⟨v', w', hrun, h2, h3, h5⟩ := run_pushN (P := P) w0 t o.type e n bytes he base enc v l y cs hcs hny h1 hown h63 hby hbase
  unfold Oper.wp execOp
  simp only [ho, resolve, invoke, builtin, Sem.run_bind, Sem.run_pure, Result.andThen_ok, List.map_toArray, List.map_cons, List.map_nil, hs, hx, hrun]
  exact hK v' w' h2 h3 h5

/-! ### points, boxes, runs, findings -/
theorem pt_len (p : Pt) : (ptCells p).length = 3 := rfl
theorem bx_len (b : Bx) : (bxCells b).length = 6 := rfl
theorem run_len (r : RunD) : (runCells r).length = 10 := rfl
theorem fin_len (f : Int × ByteArray) : (finCells f).length = 2 := rfl
theorem pt_one (p : Pt) : ∀ u ∈ ptCells p, u.oneCell' = true := by intro u hu; simp [ptCells] at hu; rcases hu with rfl | rfl | rfl <;> rfl
theorem bx_one (b : Bx) : ∀ u ∈ bxCells b, u.oneCell' = true := by intro u hu; simp [bxCells] at hu; rcases hu with rfl | rfl | rfl | rfl | rfl | rfl <;> rfl
theorem run_one (r : RunD) : ∀ u ∈ runCells r, u.oneCell' = true := by intro u hu; simp [runCells] at hu; rcases hu with rfl | rfl | rfl | rfl | rfl | rfl | rfl | rfl | rfl | rfl <;> rfl
theorem fin_one (f : Int × ByteArray) : ∀ u ∈ finCells f, u.oneCell' = true := by intro u hu; simp [finCells] at hu; rcases hu with rfl | rfl <;> rfl

theorem elemPt : ElemN Try.prog 82 31 3 24 := elemN_of (z := .agg #[.int .i64 0, .int .i64 0, .int .i64 0]) Try.underlying82 (by kernel_rfl) rfl (by omega)
theorem elemBx : ElemN Try.prog 26 33 6 48 := elemN_of (z := .agg #[.int .i64 0, .int .i64 0, .int .i64 0, .int .i64 0, .int .i64 0, .int .i64 0]) Try.underlying26 (by kernel_rfl) rfl (by omega)

abbrev Pts (w : World) (v : Value) (l : List Pt) : Prop := Fl 3 ptCells w v l
abbrev Bxs (w : World) (v : Value) (l : List Bx) : Prop := Fl 6 bxCells w v l
abbrev Runs (w : World) (v : Value) (l : List RunD) : Prop := Fl 10 runCells w v l

theorem pts_get {w : World} {ao : Option Addr} {len cap k : Nat} {l : List Pt} {p : Pt} (h : Pts w (.slice ao len cap) l) (hk : l[k]? = some p) :
    ∃ b off, ao = some ⟨b, off, none⟩ ∧ b < w.heap.size ∧ w.cell? ⟨b, off + k * 3, none⟩ = some (.int .i64 p.x) ∧ w.cell? ⟨b, off + k * 3 + 1, none⟩ = some (.int .i64 p.y) ∧ w.cell? ⟨b, off + k * 3 + 2, none⟩ = some (.int .i64 p.z) := by
  obtain ⟨b, off, rfl, hlt, hc⟩ := h.get hk
  exact ⟨b, off, rfl, hlt, hc 0 _ rfl, hc 1 _ rfl, hc 2 _ rfl⟩
theorem bxs_get {w : World} {ao : Option Addr} {len cap k : Nat} {l : List Bx} {p : Bx} (h : Bxs w (.slice ao len cap) l) (hk : l[k]? = some p) :
    ∃ b off, ao = some ⟨b, off, none⟩ ∧ b < w.heap.size ∧ w.cell? ⟨b, off + k * 6, none⟩ = some (.int .i64 p.lo.x) ∧ w.cell? ⟨b, off + k * 6 + 1, none⟩ = some (.int .i64 p.lo.y) ∧ w.cell? ⟨b, off + k * 6 + 2, none⟩ = some (.int .i64 p.lo.z) ∧
      w.cell? ⟨b, off + k * 6 + 3, none⟩ = some (.int .i64 p.hi.x) ∧ w.cell? ⟨b, off + k * 6 + 4, none⟩ = some (.int .i64 p.hi.y) ∧ w.cell? ⟨b, off + k * 6 + 5, none⟩ = some (.int .i64 p.hi.z) := by
  obtain ⟨b, off, rfl, hlt, hc⟩ := h.get hk
  exact ⟨b, off, rfl, hlt, hc 0 _ rfl, hc 1 _ rfl, hc 2 _ rfl, hc 3 _ rfl, hc 4 _ rfl, hc 5 _ rfl⟩
theorem runs_get {w : World} {ao : Option Addr} {len cap k : Nat} {l : List RunD} {r : RunD} (h : Runs w (.slice ao len cap) l) (hk : l[k]? = some r) :
    ∃ b off, ao = some ⟨b, off, none⟩ ∧ b < w.heap.size ∧ w.cell? ⟨b, off + k * 10, none⟩ = some (.string r.mark) ∧ w.cell? ⟨b, off + k * 10 + 1, none⟩ = some (.int .i64 r.tx) ∧ w.cell? ⟨b, off + k * 10 + 2, none⟩ = some (.int .i64 r.ty) ∧
      w.cell? ⟨b, off + k * 10 + 3, none⟩ = some (.int .i64 r.at_.x) ∧ w.cell? ⟨b, off + k * 10 + 4, none⟩ = some (.int .i64 r.at_.y) ∧ w.cell? ⟨b, off + k * 10 + 5, none⟩ = some (.int .i64 r.at_.z) ∧
      w.cell? ⟨b, off + k * 10 + 6, none⟩ = some (.int .i64 r.step.x) ∧ w.cell? ⟨b, off + k * 10 + 7, none⟩ = some (.int .i64 r.step.y) ∧ w.cell? ⟨b, off + k * 10 + 8, none⟩ = some (.int .i64 r.step.z) ∧ w.cell? ⟨b, off + k * 10 + 9, none⟩ = some (.int .i64 r.count) := by
  obtain ⟨b, off, rfl, hlt, hc⟩ := h.get hk
  exact ⟨b, off, rfl, hlt, hc 0 _ rfl, hc 1 _ rfl, hc 2 _ rfl, hc 3 _ rfl, hc 4 _ rfl, hc 5 _ rfl, hc 6 _ rfl, hc 7 _ rfl, hc 8 _ rfl, hc 9 _ rfl⟩

/-! ### bars: the last cell is a slice of dimensions -/
def Bars (w : World) (v : Value) (l : List BarD) : Prop :=
  ∃ ao cap, v = .slice ao l.length cap ∧ (0 < l.length → ∃ b off, ao = some ⟨b, off, none⟩ ∧ b < w.heap.size ∧ ∀ k x, l[k]? = some x →
    w.cell? ⟨b, off + k * 5, none⟩ = some (.string x.mark) ∧ w.cell? ⟨b, off + k * 5 + 1, none⟩ = some (.int .i64 x.size) ∧ w.cell? ⟨b, off + k * 5 + 2, none⟩ = some (.int .i64 x.count) ∧ w.cell? ⟨b, off + k * 5 + 3, none⟩ = some (.int .i64 x.code) ∧
    ∃ uo uc, w.cell? ⟨b, off + k * 5 + 4, none⟩ = some (.slice uo x.dims.length uc) ∧ Ints w (.slice uo x.dims.length uc) x.dims)
theorem Bars.below {w w1 : World} {v : Value} {l : List BarD} (h : Bars w v l) (hb : Below w.heap.size w w1) : Bars w1 v l := by
  obtain ⟨ao, cap, rfl, h⟩ := h
  refine ⟨ao, cap, rfl, fun hl => ?_⟩
  obtain ⟨b, off, rfl, hlt, hc⟩ := h hl
  refine ⟨b, off, rfl, Nat.lt_of_lt_of_le hlt hb.size, fun k x hx => ?_⟩
  obtain ⟨h1, h2, h3, h4, uo, uc, h5, h6⟩ := hc k x hx
  exact ⟨(hb.cell hlt).trans h1, (hb.cell hlt).trans h2, (hb.cell hlt).trans h3, (hb.cell hlt).trans h4, uo, uc, (hb.cell hlt).trans h5, Sl.below h6 hb⟩
theorem Bars.at_ {w : World} {v : Value} {l : List BarD} (h : Bars w v l) : ∃ ao cap, v = .slice ao l.length cap := by obtain ⟨ao, cap, rfl, _⟩ := h; exact ⟨ao, cap, rfl⟩
theorem bars_get {w : World} {ao : Option Addr} {len cap k : Nat} {l : List BarD} {x : BarD} (h : Bars w (.slice ao len cap) l) (hk : l[k]? = some x) :
    ∃ b off, ao = some ⟨b, off, none⟩ ∧ b < w.heap.size ∧ w.cell? ⟨b, off + k * 5, none⟩ = some (.string x.mark) ∧ w.cell? ⟨b, off + k * 5 + 1, none⟩ = some (.int .i64 x.size) ∧ w.cell? ⟨b, off + k * 5 + 2, none⟩ = some (.int .i64 x.count) ∧ w.cell? ⟨b, off + k * 5 + 3, none⟩ = some (.int .i64 x.code) ∧
      ∃ uo uc, w.cell? ⟨b, off + k * 5 + 4, none⟩ = some (.slice uo x.dims.length uc) ∧ Ints w (.slice uo x.dims.length uc) x.dims := by
  obtain ⟨ao', cap', hv, h2⟩ := h
  cases hv
  obtain ⟨b, off, rfl, hlt, hc⟩ := h2 (by have := (List.getElem?_eq_some_iff.1 hk).1; omega)
  exact ⟨b, off, rfl, hlt, hc k x hk⟩

theorem bytes_inj {a b : ByteArray} (h : a.toList = b.toList) : a = b := by
  rw [ByteArray.toList_eq, ByteArray.toList_eq] at h
  obtain ⟨⟨x⟩⟩ := a
  obtain ⟨⟨y⟩⟩ := b
  have h' : x = y := h
  rw [h']
theorem bytes_beq (a b : ByteArray) : (a.toList == b.toList) = decide (a = b) := by
  by_cases h : a = b
  · subst h; simp
  · rw [decide_eq_false h]
    simpa using fun e => h (bytes_inj e)

end Go.Proofs.Ytpidjgljeooblaa
