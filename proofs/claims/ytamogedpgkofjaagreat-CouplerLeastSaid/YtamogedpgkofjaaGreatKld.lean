/-
  Base texts, shaken by wip/shake.py: Lda.
-/
import Derived.Laws.StructEq
import Derived.WalkLawsBesides
import Derived.Deep.MidRow
import Derived.Deep.RegionHeld3
import Derived.Deep.DrawnRows
import Derived.Deep.DeepCutAuto
import Derived.StillTailTactics
import Derived.Test.YtamogedpgkofjaaGreatKmm
namespace Go.Proofs.YtamogedpgkofjaaGreat
section
section
open Go.RowKit
set_option linter.unusedVariables false

structure Pt where
  x : Int
  y : Int
  z : Int
deriving DecidableEq
structure Bx where
  lo : Pt
  hi : Pt
deriving DecidableEq
structure BarD where
  mark : ByteArray
  size : Int
  count : Int
  code : Int
  dims : List Int
structure RunD where
  mark : ByteArray
  tx : Int
  ty : Int
  at_ : Pt
  step : Pt
  count : Int

def ptCells (p : Pt) : List Value := [.int .i64 p.x, .int .i64 p.y, .int .i64 p.z]
def bxCells (b : Bx) : List Value := [.int .i64 b.lo.x, .int .i64 b.lo.y, .int .i64 b.lo.z, .int .i64 b.hi.x, .int .i64 b.hi.y, .int .i64 b.hi.z]
def runCells (r : RunD) : List Value := [.string r.mark, .int .i64 r.tx, .int .i64 r.ty, .int .i64 r.at_.x, .int .i64 r.at_.y, .int .i64 r.at_.z, .int .i64 r.step.x, .int .i64 r.step.y, .int .i64 r.step.z, .int .i64 r.count]
def Fl {α : Type} (n : Nat) (enc : α → List Value) (w : World) (v : Value) (l : List α) : Prop :=
  ∃ ao cap, v = .slice ao l.length cap ∧ (0 < l.length → ∃ b off, ao = some ⟨b, off, none⟩ ∧ b < w.heap.size ∧ ∀ k x, l[k]? = some x → ∀ j u, (enc x)[j]? = some u → w.cell? ⟨b, off + k * n + j, none⟩ = some u)

section
variable {α : Type} {n : Nat} {enc : α → List Value} {w w1 : World} {v : Value} {l : List α}
theorem Fl.keep (h : Fl n enc w v l) (hs : w.heap.size ≤ w1.heap.size) (hk : ∀ b o, b < w.heap.size → (∃ off n c, v = .slice (some ⟨b, off, none⟩) n c) → w1.cell? ⟨b, o, none⟩ = w.cell? ⟨b, o, none⟩) : Fl n enc w1 v l := by
  obtain ⟨ao, cap, rfl, h⟩ := h
  refine ⟨ao, cap, rfl, fun hl => ?_⟩
  obtain ⟨b, off, rfl, hlt, hc⟩ := h hl
  exact ⟨b, off, rfl, Nat.lt_of_lt_of_le hlt hs, fun k x hx j u hu => (hk b _ hlt ⟨_, _, _, rfl⟩).trans (hc k x hx j u hu)⟩
theorem Fl.below (h : Fl n enc w v l) (hb : Below w.heap.size w w1) : Fl n enc w1 v l := h.keep hb.size fun b o hlt _ => hb.cell (p := ⟨b, o, none⟩) hlt
theorem Fl.nil (n : Nat) (enc : α → List Value) (w : World) (ao : Option Addr) (c : Nat) : Fl n enc w (.slice ao 0 c) [] := ⟨ao, c, rfl, fun h => absurd h (by simp)⟩
theorem Fl.at_ (h : Fl n enc w v l) : ∃ ao cap, v = .slice ao l.length cap := by obtain ⟨ao, cap, rfl, _⟩ := h; exact ⟨ao, cap, rfl⟩
theorem Fl.get {ao : Option Addr} {len cap k : Nat} {x : α} (h : Fl n enc w (.slice ao len cap) l) (hx : l[k]? = some x) :
    ∃ b off, ao = some ⟨b, off, none⟩ ∧ b < w.heap.size ∧ ∀ j u, (enc x)[j]? = some u → w.cell? ⟨b, off + k * n + j, none⟩ = some u := by
  obtain ⟨ao', cap', hv, h2⟩ := h
  cases hv
  obtain ⟨b, off, rfl, hlt, hc⟩ := h2 (by have := (List.getElem?_eq_some_iff.1 hx).1; omega)
  exact ⟨b, off, rfl, hlt, hc k x hx⟩
/-- The first cells of a slice, with another length. -/
theorem Fl.take_ {ao : Option Addr} {len cap : Nat} (h : Fl n enc w (.slice ao len cap) l) (m c : Nat) (hm : m ≤ len) : Fl n enc w (.slice ao m c) (l.take m) := by
  obtain ⟨ao', cap', hv, h2⟩ := h
  cases hv
  have e : (l.take m).length = m := by simp; omega
  refine ⟨ao, c, by rw [e], fun hl => ?_⟩
  obtain ⟨b, off, rfl, hlt, hc⟩ := h2 (by rw [e] at hl; omega)
  refine ⟨b, off, rfl, hlt, fun k x hx => hc k x ?_⟩
  rw [List.getElem?_take] at hx
  split at hx
  · exact hx
  · cases hx
/-- Cells behind the first k. -/
theorem Fl.drop_ {b off len cap : Nat} (h : Fl n enc w (.slice (some ⟨b, off, none⟩) len cap) l) (k c : Nat) (hk : k ≤ len) : Fl n enc w (.slice (some ⟨b, off + k * n, none⟩) (len - k) c) (l.drop k) := by
  obtain ⟨ao', cap', hv, h2⟩ := h
  cases hv
  refine ⟨some ⟨b, off + k * n, none⟩, c, by rw [List.length_drop], fun hl => ?_⟩
  obtain ⟨b', off', e, hlt, hc⟩ := h2 (by simp at hl; omega)
  cases e
  refine ⟨b, _, rfl, hlt, fun i x hx j u hu => ?_⟩
  rw [List.getElem?_drop] at hx
  have := hc _ x hx j u hu
  rw [Nat.add_mul] at this
  rw [show off + k * n + i * n + j = off + (k * n + i * n) + j by omega]
  exact this
end

def OwnN {α : Type} (w : World) (base : Nat) (e : TypeId) (n : Nat) (enc : α → List Value) (v : Value) (l : List α) : Prop := w.ownsRow base e n v l.length (l.flatMap enc)

theorem flat_get {α : Type} {n : Nat} {enc : α → List Value} (hn : ∀ x, (enc x).length = n) (l : List α) : ∀ (k : Nat) (x : α) (j : Nat) (u : Value), l[k]? = some x → (enc x)[j]? = some u → (l.flatMap enc)[k * n + j]? = some u := by
  induction l with
  | nil => intro k x j u h; cases h
  | cons a l ih =>
    intro k x j u h hu
    rw [List.flatMap_cons]
    cases k with
    | zero =>
      cases h
      rw [List.getElem?_append_left (by have := (List.getElem?_eq_some_iff.1 hu).1; omega)]
      simpa using hu
    | succ k =>
      rw [List.getElem?_append_right (by rw [hn]; have : n ≤ (k + 1) * n := by rw [Nat.succ_mul]; omega
                                         omega), hn]
      rw [show (k + 1) * n + j - n = k * n + j by rw [Nat.succ_mul]; omega]
      exact ih k x j u (by simpa using h) hu
theorem flat_len {α : Type} {n : Nat} {enc : α → List Value} (hn : ∀ x, (enc x).length = n) (l : List α) : (l.flatMap enc).length = l.length * n := by
  induction l with
  | nil => simp
  | cons a l ih => rw [List.flatMap_cons, List.length_append, hn, ih, List.length_cons, Nat.succ_mul]; omega

section
variable {α : Type} {n : Nat} {enc : α → List Value} {w w1 : World} {base : Nat} {e : TypeId} {v : Value} {l : List α}
theorem OwnN.nil (w : World) (base : Nat) (e : TypeId) (n : Nat) (enc : α → List Value) : OwnN w base e n enc (.slice none 0 0) [] := World.ownsRow_nil _ _ _ _
theorem OwnN.shape (h : OwnN w base e n enc v l) : ∃ ao cap, v = .slice ao l.length cap := by
  rcases h.2 with ⟨rfl, h0⟩ | ⟨g, cap, cur, rfl, hb, hg, _⟩
  · exact ⟨none, 0, by rw [h0]⟩
  · exact ⟨_, cap, rfl⟩
theorem OwnN.lt (h : OwnN w base e n enc v l) : ∀ g, v.ownBlock = some g → base ≤ g ∧ g < w.heap.size := World.ownsRow.lt h
theorem OwnN.fl (hn : ∀ x, (enc x).length = n) (h : OwnN w base e n enc v l) : Fl n enc w v l := by
  have h0 := h
  rcases h.2 with ⟨rfl, hl⟩ | ⟨g, cap, cur, rfl, hb, hg, _⟩
  · exact ⟨none, 0, by rw [hl], fun h => by omega⟩
  · refine ⟨_, cap, rfl, fun _ => ⟨g, 0, rfl, (Array.getElem?_eq_some_iff.1 hg).1, fun k x hx j u hu => ?_⟩⟩
    have c1 := World.ownsRow.cells h0 (g := g) rfl (k * n + j) u (flat_get hn l k x j u hx hu)
    rw [Nat.zero_add]
    simpa [Addr.add_lit] using c1
theorem OwnN.kept (h : OwnN w base e n enc v l) (hk : ∀ g, v.ownBlock = some g → w1.heap[g]? = w.heap[g]?) : OwnN w1 base e n enc v l := by
  refine ⟨h.1, ?_⟩
  rcases h.2 with hn | ⟨g, cap, cur, rfl, hb, hgg, rest⟩
  · exact .inl hn
  · exact .inr ⟨g, cap, cur, rfl, hb, (hk g rfl).trans hgg, rest⟩
theorem OwnN.below (h : OwnN w base e n enc v l) (hb : Below w.heap.size w w1) : OwnN w1 base e n enc v l := h.kept fun g hv => hb.block g (h.lt g hv).2
theorem OwnN.only (h : OwnN w base e n enc v l) {r : Option Nat} (hg : w.grownBy w1 r) (hne : ∀ g, v.ownBlock = some g → some g ≠ r) : OwnN w1 base e n enc v l :=
  h.kept fun g hv => hg.block g (h.lt g hv).2 (hne g hv)
theorem OwnN.alloc (h : OwnN w base e n enc v l) (o : Obj) : OwnN (w.alloc o) base e n enc v l := World.ownsRow.alloc h o
theorem OwnN.mono (h : OwnN w base e n enc v l) {base' : Nat} (hb : base' ≤ base) : OwnN w base' e n enc v l := by
  refine ⟨h.1, ?_⟩
  rcases h.2 with hn | ⟨g, cap, cur, rfl, hg, rest⟩
  · exact .inl hn
  · exact .inr ⟨g, cap, cur, rfl, Nat.le_trans hb hg, rest⟩
end

theorem own_lit {α : Type} (w : World) (e : TypeId) (n : Nat) (enc : α → List Value) (l : List α) (cs : Array Value) (m base : Nat) (hb : base ≤ w.heap.size) (hcs : cs = (l.flatMap enc).toArray) (hm : m = l.length) (hn : ∀ x, (enc x).length = n) (hl : l.length ≤ 1099511627776) :
    OwnN (w.alloc (.cells cs e)) base e n enc (.slice (some ⟨w.heap.size, 0, none⟩) m m) l := by
  subst hcs hm
  have h := World.ownsRow_lit (base := base) (e := e) (size := n) w (l.flatMap enc).toArray l.length hb (by unfold maxLen; omega) (by rw [List.size_toArray, flat_len hn])
  exact h

/-- An element type of so many cells, and the slice type over it. -/
def ElemN (P : Program) (t e : TypeId) (n bytes : Nat) : Prop :=
  P.underlying t = some (.slice e) ∧ ∃ i z, P.info? e = some i ∧ i.zero = some z ∧ i.size = n ∧ i.bytes = bytes ∧ z.cells.size = n ∧ 0 < n

theorem elemN_of {P : Program} {t e : TypeId} {z : Value} {n bytes : Nat} (ht : P.underlying t = some (.slice e)) (h : (P.info? e).map (fun i => (i.zero, i.size, i.bytes)) = some (some z, n, bytes)) (hz : z.cells.size = n) (hn : 0 < n) : ElemN P t e n bytes := by
  obtain ⟨i, h1, h2, h3, h4⟩ := info_parts h
  exact ⟨ht, i, z, h1, h2, h3, h4, hz, hn⟩

/-- What 'v = append(v, y)' does: the new element lies in a block of its own just made. -/
theorem run_pushN {α : Type} {P : Program} (w0 : World) (t ty : TypeId)
    (e n bytes : Nat) (he : ElemN P t e n bytes) (base : Nat) (enc : α → List Value) (v : Value) (l : List α) (y : α) (cs : Array Value) (hcs : cs = (enc y).toArray) (hny : (enc y).length = n) (h1 : ∀ u ∈ enc y, u.oneCell' = true)
    (hown : OwnN w0 base e n enc v l)
    (h63 : l.length + 1 ≤ 1099511627776) (hby : bytes ≤ 120) (hbase : base ≤ w0.heap.size) :
    ∃ v' w', (Builtin.append_ #[t, t] ty #[v, .slice (some ⟨w0.heap.size, 0, none⟩) 1 1]).run P (w0.alloc (.cells cs e)) = .ok v' w' ∧
      OwnN w' base e n enc v' (l ++ [y]) ∧ w0.grownBy w' v.ownBlock ∧ (v'.ownBlock = v.ownBlock ∨ ∃ g, w0.heap.size ≤ g ∧ v'.ownBlock = some g) := by
  obtain ⟨ht, i, z, hi, hz, hsz, hb, hzs, hpos⟩ := he
  subst hcs
  have hown1 : (w0.alloc (.cells (enc y).toArray e)).ownsRow base e n v l.length (l.flatMap enc) := World.ownsRow.alloc hown _
  obtain ⟨v', w', hrun, h2, h3, _, h5⟩ := run_append_own_at (P := P) (w0.alloc (.cells (enc y).toArray e)) base t ty e i z n bytes ht hi hz hsz hb hzs hpos v l.length (l.flatMap enc) hown1
    ⟨w0.heap.size, 0, none⟩ 1 1 (enc y) (by rw [hny]; omega) (by
      intro j u hj
      rw [Addr.add_lit, World.cell?_alloc_at _ _ _ _ rfl]
      simpa using hj) h1 (by unfold maxLen; omega) (by
      have : (l.length + 1) * bytes ≤ 1099511627776 * 120 := Nat.mul_le_mul h63 hby
      omega) (by simp; omega)
  refine ⟨v', w', hrun, ?_, only_next (World.grownBy_alloc w0 _ v.ownBlock) h3 (.inl rfl), ?_⟩
  · unfold OwnN
    rw [List.length_append, List.flatMap_append]
    simpa using h2
  · rcases h5 with h5 | h5
    · exact .inl h5
    · exact .inr ⟨_, by simp, h5⟩

theorem wpList_pushN {α : Type} {P : Program} (w0 : World) {ops : Array Oper} {rest : List Oper} {o : Oper} {a : Act} {Q : Exit → Act → World → Prop} (hgd : o.guard = none) (s x : Operand) (t : TypeId)
    (ho : o.op = .call { callee := .builtin .append, args := #[s, x], argTypes := #[t, t] })
    (e n bytes : Nat) (he : ElemN P t e n bytes) (base : Nat) (enc : α → List Value) (v : Value) (l : List α) (y : α) (cs : Array Value) (hcs : cs = (enc y).toArray) (hny : (enc y).length = n) (h1 : ∀ u ∈ enc y, u.oneCell' = true)
    (hown : OwnN w0 base e n enc v l) (hs : a.eval s = v) (hx : a.eval x = .slice (some ⟨w0.heap.size, 0, none⟩) 1 1)
    (h63 : l.length + 1 ≤ 1099511627776) (hby : bytes ≤ 120) (hbase : base ≤ w0.heap.size)
    (hK : ∀ v' w', OwnN w' base e n enc v' (l ++ [y]) → w0.grownBy w' v.ownBlock → (v'.ownBlock = v.ownBlock ∨ ∃ g, w0.heap.size ≤ g ∧ v'.ownBlock = some g) → wpList P ops Q rest (a.put o.dst v') w') :
    wpList P ops Q (o :: rest) a (w0.alloc (.cells cs e)) := by
  obtain ⟨v', w', hrun, h2, h3, h5⟩ := run_pushN (P := P) w0 t o.type e n bytes he base enc v l y cs hcs hny h1 hown h63 hby hbase
  refine wpList_plain hgd fun K hK' => ?_
  unfold Oper.wp execOp
  simp only [ho, resolve, invoke, builtin, Sem.run_bind, Sem.run_pure, Result.andThen_ok, List.map_toArray, List.map_cons, List.map_nil, hs, hx, hrun]
  exact hK' _ _ (hK v' w' h2 h3 h5)

theorem pt_len (p : Pt) : (ptCells p).length = 3 := rfl
theorem bx_len (b : Bx) : (bxCells b).length = 6 := rfl
theorem pt_one (p : Pt) : ∀ u ∈ ptCells p, u.oneCell' = true := by intro u hu; simp [ptCells] at hu; rcases hu with rfl | rfl | rfl <;> rfl
theorem bx_one (b : Bx) : ∀ u ∈ bxCells b, u.oneCell' = true := by intro u hu; simp [bxCells] at hu; rcases hu with rfl | rfl | rfl | rfl | rfl | rfl <;> rfl
theorem elemPt : ElemN Tryz.prog 130 88 3 24 := elemN_of (z := .agg #[.int .i64 0, .int .i64 0, .int .i64 0]) Tryz.underlying130 (by kernel_rfl) rfl (by omega)
theorem elemBx : ElemN Tryz.prog 71 134 6 48 := elemN_of (z := .agg #[.int .i64 0, .int .i64 0, .int .i64 0, .int .i64 0, .int .i64 0, .int .i64 0]) Tryz.underlying71 (by kernel_rfl) rfl (by omega)

abbrev Pts (w : World) (v : Value) (l : List Pt) : Prop := Fl 3 ptCells w v l
abbrev Bxs (w : World) (v : Value) (l : List Bx) : Prop := Fl 6 bxCells w v l
abbrev Runs (w : World) (v : Value) (l : List RunD) : Prop := Fl 10 runCells w v l

theorem pts_get {w : World} {ao : Option Addr} {len cap k : Nat} {l : List Pt} {p : Pt} (h : Pts w (.slice ao len cap) l) (hk : l[k]? = some p) :
    ∃ b off, ao = some ⟨b, off, none⟩ ∧ b < w.heap.size ∧ w.cell? ⟨b, off + k * 3, none⟩ = some (.int .i64 p.x) ∧ w.cell? ⟨b, off + k * 3 + 1, none⟩ = some (.int .i64 p.y) ∧ w.cell? ⟨b, off + k * 3 + 2, none⟩ = some (.int .i64 p.z) := by
  obtain ⟨b, off, rfl, hlt, hc⟩ := h.get hk
  exact ⟨b, off, rfl, hlt, hc 0 _ rfl, hc 1 _ rfl, hc 2 _ rfl⟩
theorem bxs_get {w : World} {ao : Option Addr} {len cap k : Nat} {l : List Bx} {p : Bx} (h : Bxs w (.slice ao len cap) l) (hk : l[k]? = some p) :
    ∃ b off, ao = some ⟨b, off, none⟩ ∧ b < w.heap.size ∧ w.cell? ⟨b, off + k * 6, none⟩ = some (.int .i64 p.lo.x) ∧ w.cell? ⟨b, off + k * 6 + 1, none⟩ = some (.int .i64 p.lo.y) ∧ w.cell? ⟨b, off + k * 6 + 2, none⟩ = some (.int .i64 p.lo.z) ∧
      w.cell? ⟨b, off + k * 6 + 3, none⟩ = some (.int .i64 p.hi.x) ∧ w.cell? ⟨b, off + k * 6 + 4, none⟩ = some (.int .i64 p.hi.y) ∧ w.cell? ⟨b, off + k * 6 + 5, none⟩ = some (.int .i64 p.hi.z) := by
  obtain ⟨b, off, rfl, hlt, hc⟩ := h.get hk
  exact ⟨b, off, rfl, hlt, hc 0 _ rfl, hc 1 _ rfl, hc 2 _ rfl, hc 3 _ rfl, hc 4 _ rfl, hc 5 _ rfl⟩
theorem runs_get {w : World} {ao : Option Addr} {len cap k : Nat} {l : List RunD} {r : RunD} (h : Runs w (.slice ao len cap) l) (hk : l[k]? = some r) :
    ∃ b off, ao = some ⟨b, off, none⟩ ∧ b < w.heap.size ∧ w.cell? ⟨b, off + k * 10, none⟩ = some (.string r.mark) ∧ w.cell? ⟨b, off + k * 10 + 1, none⟩ = some (.int .i64 r.tx) ∧ w.cell? ⟨b, off + k * 10 + 2, none⟩ = some (.int .i64 r.ty) ∧
      w.cell? ⟨b, off + k * 10 + 3, none⟩ = some (.int .i64 r.at_.x) ∧ w.cell? ⟨b, off + k * 10 + 4, none⟩ = some (.int .i64 r.at_.y) ∧ w.cell? ⟨b, off + k * 10 + 5, none⟩ = some (.int .i64 r.at_.z) ∧
      w.cell? ⟨b, off + k * 10 + 6, none⟩ = some (.int .i64 r.step.x) ∧ w.cell? ⟨b, off + k * 10 + 7, none⟩ = some (.int .i64 r.step.y) ∧ w.cell? ⟨b, off + k * 10 + 8, none⟩ = some (.int .i64 r.step.z) ∧ w.cell? ⟨b, off + k * 10 + 9, none⟩ = some (.int .i64 r.count) := by
  obtain ⟨b, off, rfl, hlt, hc⟩ := h.get hk
  exact ⟨b, off, rfl, hlt, hc 0 _ rfl, hc 1 _ rfl, hc 2 _ rfl, hc 3 _ rfl, hc 4 _ rfl, hc 5 _ rfl, hc 6 _ rfl, hc 7 _ rfl, hc 8 _ rfl, hc 9 _ rfl⟩

def Bars (w : World) (v : Value) (l : List BarD) : Prop :=
  ∃ ao cap, v = .slice ao l.length cap ∧ (0 < l.length → ∃ b off, ao = some ⟨b, off, none⟩ ∧ b < w.heap.size ∧ ∀ k x, l[k]? = some x →
    w.cell? ⟨b, off + k * 5, none⟩ = some (.string x.mark) ∧ w.cell? ⟨b, off + k * 5 + 1, none⟩ = some (.int .i64 x.size) ∧ w.cell? ⟨b, off + k * 5 + 2, none⟩ = some (.int .i64 x.count) ∧ w.cell? ⟨b, off + k * 5 + 3, none⟩ = some (.int .i64 x.code) ∧
    ∃ uo uc, w.cell? ⟨b, off + k * 5 + 4, none⟩ = some (.slice uo x.dims.length uc) ∧ Ints w (.slice uo x.dims.length uc) x.dims)
theorem Bars.below {w w1 : World} {v : Value} {l : List BarD} (h : Bars w v l) (hb : Below w.heap.size w w1) : Bars w1 v l := by
  obtain ⟨ao, cap, rfl, h⟩ := h
  refine ⟨ao, cap, rfl, fun hl => ?_⟩
  obtain ⟨b, off, rfl, hlt, hc⟩ := h hl
  refine ⟨b, off, rfl, Nat.lt_of_lt_of_le hlt hb.size, fun k x hx => ?_⟩
  obtain ⟨h1, h2, h3, h4, uo, uc, h5, h6⟩ := hc k x hx
  exact ⟨(hb.cell hlt).trans h1, (hb.cell hlt).trans h2, (hb.cell hlt).trans h3, (hb.cell hlt).trans h4, uo, uc, (hb.cell hlt).trans h5, Sl.below h6 hb⟩
theorem Bars.at_ {w : World} {v : Value} {l : List BarD} (h : Bars w v l) : ∃ ao cap, v = .slice ao l.length cap := by obtain ⟨ao, cap, rfl, _⟩ := h; exact ⟨ao, cap, rfl⟩
theorem bars_get {w : World} {ao : Option Addr} {len cap k : Nat} {l : List BarD} {x : BarD} (h : Bars w (.slice ao len cap) l) (hk : l[k]? = some x) :
    ∃ b off, ao = some ⟨b, off, none⟩ ∧ b < w.heap.size ∧ w.cell? ⟨b, off + k * 5, none⟩ = some (.string x.mark) ∧ w.cell? ⟨b, off + k * 5 + 1, none⟩ = some (.int .i64 x.size) ∧ w.cell? ⟨b, off + k * 5 + 2, none⟩ = some (.int .i64 x.count) ∧ w.cell? ⟨b, off + k * 5 + 3, none⟩ = some (.int .i64 x.code) ∧
      ∃ uo uc, w.cell? ⟨b, off + k * 5 + 4, none⟩ = some (.slice uo x.dims.length uc) ∧ Ints w (.slice uo x.dims.length uc) x.dims := by
  obtain ⟨ao', cap', hv, h2⟩ := h
  cases hv
  obtain ⟨b, off, rfl, hlt, hc⟩ := h2 (by have := (List.getElem?_eq_some_iff.1 hk).1; omega)
  exact ⟨b, off, rfl, hlt, hc k x hk⟩

theorem bytes_inj {a b : ByteArray} (h : a.toList = b.toList) : a = b := by
  rw [ByteArray.toList_eq, ByteArray.toList_eq] at h
  obtain ⟨⟨x⟩⟩ := a
  obtain ⟨⟨y⟩⟩ := b
  have h' : x = y := h
  rw [h']
theorem bytes_beq (a b : ByteArray) : (a.toList == b.toList) = decide (a = b) := by
  by_cases h : a = b
  · subst h; simp
  · rw [decide_eq_false h]
    simpa using fun e => h (bytes_inj e)
end

section
open Go.RowKit
set_option linter.unusedVariables false

/-- Coordinates up to n. -/
def PtIn (n : Int) (p : Pt) : Prop := -n ≤ p.x ∧ p.x ≤ n ∧ -n ≤ p.y ∧ p.y ≤ n ∧ -n ≤ p.z ∧ p.z ≤ n
def ptIn (n : Int) (p : Pt) : Bool := decide (-n ≤ p.x ∧ p.x ≤ n ∧ -n ≤ p.y ∧ p.y ≤ n ∧ -n ≤ p.z ∧ p.z ≤ n)
theorem ptIn_iff {n : Int} {p : Pt} : ptIn n p = true ↔ PtIn n p := by unfold ptIn PtIn; rw [decide_eq_true_eq]
def padd (p q : Pt) : Pt := ⟨p.x + q.x, p.y + q.y, p.z + q.z⟩
def pmul (k : Int) (p : Pt) : Pt := ⟨k * p.x, k * p.y, k * p.z⟩
abbrev ptv (p : Pt) : Value := .agg #[.int .i64 p.x, .int .i64 p.y, .int .i64 p.z]
abbrev bxv (b : Bx) : Value := .agg #[.int .i64 b.lo.x, .int .i64 b.lo.y, .int .i64 b.lo.z, .int .i64 b.hi.x, .int .i64 b.hi.y, .int .i64 b.hi.z]

set_option maxHeartbeats 400000 in
theorem lplus_any (p s : Pt) (k : Int) (w : World) (hp : PtIn 1099511627776 p) (hs : PtIn 1099511627776 (pmul k s)) :
    Calls Tryz.prog 106 #[ptv p, ptv s, .int .i64 k] w fun e w' => e = .returned (ptv (padd p (pmul k s))) ∧ Below w.heap.size w w' := by
  obtain ⟨a1, a2, a3, a4, a5, a6⟩ := hp
  obtain ⟨b1, b2, b3, b4, b5, b6⟩ := hs
  obtain ⟨x, y, z⟩ := p
  obtain ⟨sx, sy, sz⟩ := s
  simp only [pmul, padd] at *
  go_enter Tryz.func106, Tryz.ntmps106
  go_wp2
  exact bodyPost_ret (v := ptv _) (by simp [results, Tryz.results106, go_sem]) rfl ⟨rfl, by go_grown⟩

set_option maxHeartbeats 400000 in
theorem isPlace_any (p : Pt) (m : Int) (w : World) (h0 : 0 ≤ m) (h1 : m ≤ 1099511627776) :
    Calls Tryz.prog 104 #[ptv p, .int .i64 m] w fun e w' => e = .returned (.bool (ptIn m p)) ∧ Below w.heap.size w w' := by
  obtain ⟨x, y, z⟩ := p
  go_enter Tryz.func104, Tryz.ntmps104
  go_wp2
  all_goals
    go_ret
    refine ⟨ret_bool ?_, by go_grown⟩
    unfold ptIn
    rw [Bool.eq_iff_iff]; simp only [decide_eq_true_eq, Bool.false_eq_true, false_iff]
    first | omega | (split <;> omega)
set_option maxHeartbeats 400000 in
theorem rplus_any (p s : Pt) (w : World) (hp : PtIn 1099511627776 p) (hs : PtIn 1099511627776 s) :
    Calls Tryz.prog 173 #[ptv p, ptv s] w fun e w' => e = .returned (ptv (padd p s)) ∧ Below w.heap.size w w' := by
  obtain ⟨a1, a2, a3, a4, a5, a6⟩ := hp
  obtain ⟨b1, b2, b3, b4, b5, b6⟩ := hs
  obtain ⟨x, y, z⟩ := p
  obtain ⟨sx, sy, sz⟩ := s
  simp only [padd] at *
  go_enter Tryz.func173, Tryz.ntmps173
  go_wp2
  exact bodyPost_ret (v := ptv _) (by simp [results, Tryz.results173, go_sem]) rfl ⟨rfl, by go_grown⟩
def inB (n : Int) : Bool := decide (-1048576 ≤ n ∧ n ≤ 1048576)
theorem within_any (n : Int) (w : World) : Calls Tryz.prog 171 #[.int .i64 n] w fun e w' => e = .returned (.bool (inB n)) ∧ w = w' := by
  by_cases h1 : n < -1048576
  · have E := Lib.hid (show inB n = false from dec_no (by omega))
    go_enter Tryz.func171, Tryz.ntmps171
    go_wp2
    go_ret
    exact ⟨ret_bool E.out.symm, rfl⟩
  · have E := Lib.hid (show inB n = decide (n ≤ 1048576) from decide_eq_decide.2 (by omega))
    go_enter Tryz.func171, Tryz.ntmps171
    go_wp2
    go_ret
    exact ⟨ret_bool E.out.symm, rfl⟩

theorem near_eq (p : Pt) : ptIn 1048576 p = (inB p.x && inB p.y && inB p.z) := by
  unfold ptIn inB
  rw [Bool.eq_iff_iff]; simp only [Bool.and_eq_true, decide_eq_true_eq]; omega

theorem near_any (p : Pt) (w : World) : Calls Tryz.prog 135 #[ptv p] w fun e w' => e = .returned (.bool (ptIn 1048576 p)) ∧ Below w.heap.size w w' := by
  have H := near_eq p
  obtain ⟨x, y, z⟩ := p
  simp only at H
  obtain ⟨a, ha⟩ : ∃ a, inB x = a := ⟨_, rfl⟩
  obtain ⟨b, hb⟩ : ∃ a, inB y = a := ⟨_, rfl⟩
  obtain ⟨c, hc⟩ : ∃ a, inB z = a := ⟨_, rfl⟩
  have A := within_any x
  have B := within_any y
  have C := within_any z
  rw [ha] at A H
  rw [hb] at B H
  rw [hc] at C H
  have HA := Lib.hid A
  have HB := Lib.hid B
  have HC := Lib.hid C
  have E := Lib.hid H
  clear A B C H ha hb hc
  cases a
  · skip
    go_enter Tryz.func135, Tryz.ntmps135
    go_wp2_with fail
    refine (HA.out _).mono ?_
    rintro e w9 ⟨rfl, rfl⟩
    go_wp2
    go_ret
    exact ⟨ret_bool E.out.symm, by go_grown⟩
  · cases b
    · skip
      go_enter Tryz.func135, Tryz.ntmps135
      go_wp2_with fail
      refine (HA.out _).mono ?_
      rintro e w9 ⟨rfl, rfl⟩
      go_wp2_with fail
      refine (HB.out _).mono ?_
      rintro e w9 ⟨rfl, rfl⟩
      go_wp2
      go_ret
      exact ⟨ret_bool E.out.symm, by go_grown⟩
    · skip
      go_enter Tryz.func135, Tryz.ntmps135
      go_wp2_with fail
      refine (HA.out _).mono ?_
      rintro e w9 ⟨rfl, rfl⟩
      go_wp2_with fail
      refine (HB.out _).mono ?_
      rintro e w9 ⟨rfl, rfl⟩
      go_wp2_with fail
      refine (HC.out _).mono ?_
      rintro e w9 ⟨rfl, rfl⟩
      go_wp2
      go_ret
      exact ⟨ret_bool E.out.symm, by go_grown⟩
end

section
open Go.RowKit
set_option linter.unusedVariables false
set_option linter.unusedSimpArgs false

def axB (n : Int) : Bool := decide (n ≠ 0 ∧ -3 ≤ n ∧ n ≤ 3)
def turnB (x y : Int) : Bool := decide (((x ≠ 0 ∧ -3 ≤ x ∧ x ≤ 3) ∧ (y ≠ 0 ∧ -3 ≤ y ∧ y ≤ 3)) ∧ x ≠ y ∧ x ≠ -y)

theorem axis_any (n : Int) (w : World) : Calls Tryz.prog 128 #[.int .i64 n] w fun e w' => e = .returned (.bool (axB n)) ∧ w = w' := by
  go_enter Tryz.func128, Tryz.ntmps128
  go_wp2
  all_goals
    go_ret
    refine ⟨ret_bool ?_, rfl⟩
    unfold axB
    rw [Bool.eq_iff_iff]; simp only [decide_eq_true_eq, Bool.false_eq_true, false_iff, Bool.and_eq_true, bne_iff_ne]
    omega
theorem raxis_any (n : Int) (w : World) : Calls Tryz.prog 170 #[.int .i64 n] w fun e w' => e = .returned (.bool (axB n)) ∧ w = w' := by
  go_enter Tryz.func170, Tryz.ntmps170
  go_wp2
  all_goals
    go_ret
    refine ⟨ret_bool ?_, rfl⟩
    unfold axB
    rw [Bool.eq_iff_iff]; simp only [decide_eq_true_eq, Bool.false_eq_true, false_iff, Bool.and_eq_true, bne_iff_ne]
    omega

theorem axB_yes {n : Int} (h : n ≠ 0 ∧ -3 ≤ n ∧ n ≤ 3) : axB n = true := dec_yes h
theorem axB_no {n : Int} (h : ¬ (n ≠ 0 ∧ -3 ≤ n ∧ n ≤ 3)) : axB n = false := dec_no h
theorem turn_any (x y : Int) (w : World) : Calls Tryz.prog 103 #[.agg #[.int .i64 x, .int .i64 y]] w fun e w' => e = .returned (.bool (turnB x y)) ∧ Below w.heap.size w w' := by
  by_cases hx : x ≠ 0 ∧ -3 ≤ x ∧ x ≤ 3
  · by_cases hy : y ≠ 0 ∧ -3 ≤ y ∧ y ≤ 3
    · have A := axB_yes hx
      have B := axB_yes hy
      have E := Lib.hid (show turnB x y = decide (x ≠ y ∧ x ≠ -y) from decide_eq_decide.2 ⟨fun h => h.2, fun h => ⟨⟨hx, hy⟩, h⟩⟩)
      obtain ⟨_, x1, x2⟩ := hx
      obtain ⟨_, y1, y2⟩ := hy
      go_enter Tryz.func103, Tryz.ntmps103
      go_wp2_with (first
        | (go_at_call 128; refine (axis_any _ _).mono ?_; rintro e w9 ⟨rfl, rfl⟩))
      all_goals
        go_ret
        refine ⟨ret_bool ?_, by go_grown⟩
        rw [E.out, Bool.eq_iff_iff]; simp only [decide_eq_true_eq, Bool.false_eq_true, false_iff, Bool.and_eq_true, bne_iff_ne]
        try omega
    · have A := axB_yes hx
      have B := axB_no hy
      have E := Lib.hid (show turnB x y = false from dec_no fun h => hy h.1.2)
      clear hx hy
      go_enter Tryz.func103, Tryz.ntmps103
      go_wp2_with (first
        | (go_at_call 128; refine (axis_any _ _).mono ?_; rintro e w9 ⟨rfl, rfl⟩))
      all_goals
        go_ret
        exact ⟨ret_bool E.out.symm, by go_grown⟩
  · have A := axB_no hx
    have E := Lib.hid (show turnB x y = false from dec_no fun h => hx h.1.1)
    clear hx
    go_enter Tryz.func103, Tryz.ntmps103
    go_wp2_with (first
      | (go_at_call 128; refine (axis_any _ _).mono ?_; rintro e w9 ⟨rfl, rfl⟩))
    all_goals
      go_ret
      exact ⟨ret_bool E.out.symm, by go_grown⟩
theorem rturn_any (x y : Int) (w : World) : Calls Tryz.prog 134 #[.agg #[.int .i64 x, .int .i64 y]] w fun e w' => e = .returned (.bool (turnB x y)) ∧ Below w.heap.size w w' := by
  by_cases hx : x ≠ 0 ∧ -3 ≤ x ∧ x ≤ 3
  · by_cases hy : y ≠ 0 ∧ -3 ≤ y ∧ y ≤ 3
    · have A := axB_yes hx
      have B := axB_yes hy
      have E := Lib.hid (show turnB x y = decide (x ≠ y ∧ x ≠ -y) from decide_eq_decide.2 ⟨fun h => h.2, fun h => ⟨⟨hx, hy⟩, h⟩⟩)
      obtain ⟨_, x1, x2⟩ := hx
      obtain ⟨_, y1, y2⟩ := hy
      go_enter Tryz.func134, Tryz.ntmps134
      go_wp2_with (first
        | (go_at_call 170; refine (raxis_any _ _).mono ?_; rintro e w9 ⟨rfl, rfl⟩))
      all_goals
        go_ret
        refine ⟨ret_bool ?_, by go_grown⟩
        rw [E.out, Bool.eq_iff_iff]; simp only [decide_eq_true_eq, Bool.false_eq_true, false_iff, Bool.and_eq_true, bne_iff_ne]
        try omega
    · have A := axB_yes hx
      have B := axB_no hy
      have E := Lib.hid (show turnB x y = false from dec_no fun h => hy h.1.2)
      clear hx hy
      go_enter Tryz.func134, Tryz.ntmps134
      go_wp2_with (first
        | (go_at_call 170; refine (raxis_any _ _).mono ?_; rintro e w9 ⟨rfl, rfl⟩))
      all_goals
        go_ret
        exact ⟨ret_bool E.out.symm, by go_grown⟩
  · have A := axB_no hx
    have E := Lib.hid (show turnB x y = false from dec_no fun h => hx h.1.1)
    clear hx
    go_enter Tryz.func134, Tryz.ntmps134
    go_wp2_with (first
      | (go_at_call 170; refine (raxis_any _ _).mono ?_; rintro e w9 ⟨rfl, rfl⟩))
    all_goals
      go_ret
      exact ⟨ret_bool E.out.symm, by go_grown⟩

set_option maxHeartbeats 400000 in
theorem times_any (p : Pt) (k : Int) (w : World) (h : PtIn 1099511627776 (pmul k p)) :
    Calls Tryz.prog 174 #[ptv p, .int .i64 k] w fun e w' => e = .returned (ptv (pmul k p)) ∧ Below w.heap.size w w' := by
  obtain ⟨a1, a2, a3, a4, a5, a6⟩ := h
  obtain ⟨x, y, z⟩ := p
  simp only [pmul] at *
  rw [Int.mul_comm k x] at *
  rw [Int.mul_comm k y] at *
  rw [Int.mul_comm k z] at *
  go_enter Tryz.func174, Tryz.ntmps174
  go_wp2
  exact bodyPost_ret (v := ptv _) (by simp [results, Tryz.results174, go_sem]) rfl ⟨rfl, by go_grown⟩

set_option maxHeartbeats 400000 in
theorem ptimes_any (p : Pt) (k : Int) (w : World) (h : PtIn 1099511627776 (pmul k p)) :
    Calls Tryz.prog 196 #[.int .i64 k, ptv p] w fun e w' => e = .returned (ptv (pmul k p)) ∧ Below w.heap.size w w' := by
  obtain ⟨a1, a2, a3, a4, a5, a6⟩ := h
  obtain ⟨x, y, z⟩ := p
  simp only [pmul] at *
  go_enter Tryz.func196, Tryz.ntmps196
  go_wp2
  exact bodyPost_ret (v := ptv _) (by simp [results, Tryz.results196, go_sem]) rfl ⟨rfl, by go_grown⟩

set_option maxHeartbeats 400000 in
theorem twice_any (p : Pt) (w : World) : Calls Tryz.prog 136 #[ptv p] w fun e w' => e = .returned (.bool (ptIn 2097152 p)) ∧ Below w.heap.size w w' := by
  obtain ⟨x, y, z⟩ := p
  go_enter Tryz.func136, Tryz.ntmps136
  go_wp2
  all_goals
    go_ret
    refine ⟨ret_bool ?_, by go_grown⟩
    unfold ptIn
    rw [Bool.eq_iff_iff]; simp only [decide_eq_true_eq, Bool.false_eq_true, false_iff]
    omega
end

section
open Go.RowKit
set_option linter.unusedVariables false

theorem heap_setCells (g : Nat) (t : TypeId) : ∀ (vs : List Value) (o : Nat) (w : World) (pre old : List Value), pre.length = o → old.length = vs.length → w.heap[g]? = some (.cells (pre ++ old).toArray t (0, 0)) → (w.setCells g o vs).heap[g]? = some (.cells (pre ++ vs).toArray t (0, 0))
  | [], o, w, pre, old, hp, ho, h => by
    have : old = [] := List.eq_nil_of_length_eq_zero (by simpa using ho)
    subst this
    exact h
  | v :: vs, o, w, pre, old, hp, ho, h => by
    cases old with
    | nil => simp at ho
    | cons u old =>
      have h2 := heap_setCell_same w g o _ t v h
      have e : ((pre ++ u :: old).toArray.setIfInBounds o v) = ((pre ++ [v]) ++ old).toArray := by
        rw [List.setIfInBounds_toArray, List.set_append_right _ _ (by omega), hp, Nat.sub_self]
        simp
      rw [e] at h2
      have h3 := heap_setCells g t vs (o + 1) (w.setCell ⟨g, o, none⟩ v) (pre ++ [v]) old (by simp; omega) (by simpa using ho) h2
      have e2 : pre ++ [v] ++ vs = pre ++ v :: vs := by simp
      rw [e2] at h3
      exact h3

theorem grown_setCells (g : Nat) : ∀ (vs : List Value) (o : Nat) (w : World), w.grownBy (w.setCells g o vs) (some g) ∧ (w.setCells g o vs).heap.size = w.heap.size
  | [], o, w => ⟨only_refl w _, rfl⟩
  | v :: vs, o, w => by
    obtain ⟨h1, h2⟩ := grown_setCells g vs (o + 1) (w.setCell ⟨g, o, none⟩ v)
    exact ⟨only_trans (only_set w g o v) h1, h2.trans (by simp)⟩

section
variable {P : Program} {op : Oper} {a : Act} {w : World} {K : Act → World → Prop} {Q : Exit → Act → World → Prop}
theorem wp_store_row (ty : TypeId) (x y : Operand) (ho : op.op = .store ty x y)
    (g : Nat) (t : TypeId) (old cs : Array Value) (hg : w.heap[g]? = some (.cells old t (0, 0))) (hsz : old.size = cs.size) (hx : a.eval x = .pointer (some ⟨g, 0, none⟩)) (hy : a.eval y = .agg cs)
    (hi : (P.info? ty).map (·.size) = some cs.size) (h1 : cs.all (·.oneCell') = true)
    (h : ∀ w', w'.heap[g]? = some (.cells cs t (0, 0)) → w.grownBy w' (some g) → w'.heap.size = w.heap.size → K (a.put op.dst undef) w') : op.wp P a w K Q := by
  refine wp_store_mid ty x y ho g 0 cs hx hy (fun j hj => ⟨?_, ?_⟩) hi h1 (h _ ?_ (grown_setCells g _ 0 w).1 (grown_setCells g _ 0 w).2)
  · rw [cell_of_row w g _ old t (0, 0) hg]
    simp; omega
  · exact frozen_of_row w g _ old t hg
  · obtain ⟨old⟩ := old
    obtain ⟨cs⟩ := cs
    have := heap_setCells g t cs 0 w [] old rfl (by simpa using hsz) hg
    exact this
end

theorem bcell {W w1 : World} (hb : Below W.heap.size W w1) : (∀ b o, b < W.heap.size → w1.cell? ⟨b, o, none⟩ = W.cell? ⟨b, o, none⟩) ∧ (∀ b o, b < W.heap.size → w1.frozen? ⟨b, o, none⟩ = W.frozen? ⟨b, o, none⟩) :=
  ⟨fun b o h => hb.cell (p := ⟨b, o, none⟩) h, fun b o h => hb.frozen (p := ⟨b, o, none⟩) h⟩
theorem below_drawn {w W : World} (h : Below w.heap.size w.drew W) : Below w.heap.size w W := ⟨h.os, h.tape, h.output, h.size, h.block⟩
theorem heap_two (w : World) (A B : Obj) : ((w.alloc A).alloc B).heap[w.heap.size + 1]? = some B := by
  have h := heap_alloc_new (w.alloc A) B
  rw [World.size_alloc] at h
  exact h
theorem grown_cell {w w' : World} {g : Nat} (h : w.grownBy w' (some g)) {b o : Nat} (hb : b < w.heap.size) (hne : b ≠ g) : w'.cell? ⟨b, o, none⟩ = w.cell? ⟨b, o, none⟩ :=
  World.cell?_of_block (a := ⟨b, o, none⟩) (h.block b hb (fun e => hne (by injection e)))
end

section
open Go.RowKit
set_option linter.unusedVariables false
set_option linter.unusedSimpArgs false
attribute [local go_sem ↓] Go.wp_at_zero Go.wp_at_succ

/-- The direction of an axis. -/
def uv (n : Int) : Pt := if n = 1 then ⟨1, 0, 0⟩ else if n = 2 then ⟨0, 1, 0⟩ else if n = 3 then ⟨0, 0, 1⟩ else if n = -1 then ⟨-1, 0, 0⟩ else if n = -2 then ⟨0, -1, 0⟩ else ⟨0, 0, -1⟩
def crossP (a b : Pt) : Pt := ⟨a.y * b.z - a.z * b.y, a.z * b.x - a.x * b.z, a.x * b.y - a.y * b.x⟩
theorem axis_cases {n : Int} (h : axB n = true) : n = 1 ∨ n = 2 ∨ n = 3 ∨ n = -1 ∨ n = -2 ∨ n = -3 := by
  unfold axB at h; rw [decide_eq_true_eq] at h; omega

theorem unit_at (n : Int) (w : World) (h : axB n = true) : Calls Tryz.prog 202 #[.int .i64 n] w fun e w' => e = .returned (ptv (uv n)) ∧ (w.alloc (.cells #[.int .i64 (uv n).x, .int .i64 (uv n).y, .int .i64 (uv n).z] 159)).alloc (.cells #[.int .i64 (uv n).x, .int .i64 (uv n).y, .int .i64 (uv n).z] 159) = w' := by
  rcases axis_cases h with rfl | rfl | rfl | rfl | rfl | rfl
  all_goals
    clear h
    go_enter Tryz.func202, Tryz.ntmps202
    go_wp2
    exact bodyPost_ret (v := ptv (uv _)) (by simp [results, Tryz.results202, go_sem]; first | rfl | decide) rfl ⟨rfl, rfl⟩

set_option maxHeartbeats 400000 in
theorem cross_any (a b : Pt) (w : World) (ha : PtIn 1 a) (hb : PtIn 1 b) : Calls Tryz.prog 203 #[ptv a, ptv b] w fun e w' => e = .returned (ptv (crossP a b)) ∧ Below w.heap.size w w' := by
  have key : ∀ x y : Int, -1 ≤ x → x ≤ 1 → -1 ≤ y → y ≤ 1 → -1 ≤ x * y ∧ x * y ≤ 1 := by
    intro x y h1 h2 h3 h4
    obtain rfl | rfl | rfl : x = -1 ∨ x = 0 ∨ x = 1 := by omega
    all_goals omega
  obtain ⟨a1, a2, a3, a4, a5, a6⟩ := ha
  obtain ⟨b1, b2, b3, b4, b5, b6⟩ := hb
  obtain ⟨ax, ay, az⟩ := a
  obtain ⟨bx, by_, bz⟩ := b
  simp only at *
  obtain ⟨c1, c2⟩ := key ay bz a3 a4 b5 b6
  obtain ⟨c3, c4⟩ := key az by_ a5 a6 b3 b4
  obtain ⟨c5, c6⟩ := key az bx a5 a6 b1 b2
  obtain ⟨c7, c8⟩ := key ax bz a1 a2 b5 b6
  obtain ⟨d1, d2⟩ := key ax by_ a1 a2 b3 b4
  obtain ⟨d3, d4⟩ := key ay bx a3 a4 b1 b2
  clear key
  go_enter Tryz.func203, Tryz.ntmps203
  go_wp2
  exact bodyPost_ret (v := ptv (crossP _ _)) (by simp [results, Tryz.results203, go_sem, crossP]) rfl ⟨rfl, by go_grown⟩

theorem uv_bd {n : Int} (h : axB n = true) : PtIn 1 (uv n) := by
  rcases axis_cases h with rfl | rfl | rfl | rfl | rfl | rfl <;> (unfold PtIn; decide)
/-- A block holds a direction. -/
def Holds3 (w : World) (g : Nat) (p : Pt) : Prop := w.cell? ⟨g, 0, none⟩ = some (.int .i64 p.x) ∧ w.cell? ⟨g, 1, none⟩ = some (.int .i64 p.y) ∧ w.cell? ⟨g, 2, none⟩ = some (.int .i64 p.z) ∧ g < w.heap.size
def ColMid (w : World) (x y : Int) (g h : Nat) (w' : World) : Prop := Holds3 w' g (uv x) ∧ Holds3 w' h (uv y) ∧ Below w.heap.size w w' ∧ w.heap.size + 1 < w'.heap.size ∧ g ≠ w.heap.size + 1 ∧ h ≠ w.heap.size + 1 ∧ w'.heap[w.heap.size + 1]? = some (.cells #[.int .i64 0, .int .i64 0, .int .i64 0, .int .i64 0, .int .i64 0, .int .i64 0, .int .i64 0, .int .i64 0, .int .i64 0] 231 (0, 0))

theorem sz9 : (Tryz.prog.info? 231).map (·.size) = some 9 := by kernel_rfl
theorem six_of {w : World} {g h : Nat} {p q : Pt} (H : Holds3 w g p ∧ Holds3 w h q) :
    w.cell? ⟨g, 0, none⟩ = some (.int .i64 p.x) ∧ w.cell? ⟨g, 1, none⟩ = some (.int .i64 p.y) ∧ w.cell? ⟨g, 2, none⟩ = some (.int .i64 p.z) ∧ w.cell? ⟨h, 0, none⟩ = some (.int .i64 q.x) ∧ w.cell? ⟨h, 1, none⟩ = some (.int .i64 q.y) ∧ w.cell? ⟨h, 2, none⟩ = some (.int .i64 q.z) :=
  ⟨H.1.1, H.1.2.1, H.1.2.2.1, H.2.1, H.2.2.1, H.2.2.2.1⟩
theorem col_after {w W W9 : World} {g h : Nat} {p q : Pt} {o : Obj} (H : Holds3 W g p ∧ Holds3 W h q) (hB : Below w.heap.size w W) (hs : w.heap.size + 1 < W.heap.size) (hz : W.heap[w.heap.size + 1]? = some o) (hb : Below W.heap.size W W9) :
    (Holds3 W9 g p ∧ Holds3 W9 h q) ∧ Below w.heap.size w W9 ∧ W9.heap[w.heap.size + 1]? = some o := by
  obtain ⟨⟨a1, a2, a3, a4⟩, b1, b2, b3, b4⟩ := H
  exact ⟨⟨⟨(hb.cell (p := ⟨g, 0, none⟩) a4).trans a1, (hb.cell (p := ⟨g, 1, none⟩) a4).trans a2, (hb.cell (p := ⟨g, 2, none⟩) a4).trans a3, Nat.lt_of_lt_of_le a4 hb.size⟩,
    (hb.cell (p := ⟨h, 0, none⟩) b4).trans b1, (hb.cell (p := ⟨h, 1, none⟩) b4).trans b2, (hb.cell (p := ⟨h, 2, none⟩) b4).trans b3, Nat.lt_of_lt_of_le b4 hb.size⟩, bstep hB hb, (hb.block _ hs).trans hz⟩
theorem hdrew {W : World} {g h : Nat} {p q : Pt} (H : Holds3 W g p ∧ Holds3 W h q) : Holds3 W.drew g p ∧ Holds3 W.drew h q := H
theorem hset {W : World} {g h G i : Nat} {p q : Pt} {u : Value} (hgh : g ≠ G ∧ h ≠ G) (H : Holds3 W g p ∧ Holds3 W h q) : Holds3 (W.setCell ⟨G, i, none⟩ u) g p ∧ Holds3 (W.setCell ⟨G, i, none⟩ u) h q := by
  obtain ⟨⟨a1, a2, a3, a4⟩, b1, b2, b3, b4⟩ := H
  have k : ∀ (o : Nat), (W.setCell ⟨G, i, none⟩ u).cell? ⟨g, o, none⟩ = W.cell? ⟨g, o, none⟩ := fun o => World.cell?_setCell_other _ _ _ _ (fun e => hgh.1 (by injection e with e1 _; exact e1.symm))
  have l : ∀ (o : Nat), (W.setCell ⟨G, i, none⟩ u).cell? ⟨h, o, none⟩ = W.cell? ⟨h, o, none⟩ := fun o => World.cell?_setCell_other _ _ _ _ (fun e => hgh.2 (by injection e with e1 _; exact e1.symm))
  exact ⟨⟨(k _).trans a1, (k _).trans a2, (k _).trans a3, by simpa using a4⟩, (l _).trans b1, (l _).trans b2, (l _).trans b3, by simpa using b4⟩
set_option maxRecDepth 100000 in
set_option maxHeartbeats 4000000 in
theorem columns_any (x y : Int) (w : World) (hx : axB x = true) (hy : axB y = true) : Calls Tryz.prog 200 #[.agg #[.int .i64 x, .int .i64 y]] w fun e w' =>
    e = .returned (.agg #[.int .i64 (uv x).x, .int .i64 (uv x).y, .int .i64 (uv x).z, .int .i64 (uv y).x, .int .i64 (uv y).y, .int .i64 (uv y).z, .int .i64 (crossP (uv x) (uv y)).x, .int .i64 (crossP (uv x) (uv y)).y, .int .i64 (crossP (uv x) (uv y)).z]) ∧ Below w.heap.size w w' := by
  have HX := Lib.hid (fun W => unit_at x W hx)
  have HY := Lib.hid (fun W => unit_at y W hy)
  go_enter Tryz.func200, Tryz.ntmps200
  go_upto_region 1 with fail
  go_cut [3, 4] (fun s3 s4 wx => ∃ g h, s3 = .pointer (some ⟨g, 0, none⟩) ∧ s4 = .pointer (some ⟨h, 0, none⟩) ∧ Hid (ColMid w x y g h wx))
  case first =>
    go_region_held3 (fun w' => w'.cell? ⟨w.heap.size, 0, none⟩ = some (.int .i64 x) ∧ w'.cell? ⟨w.heap.size, 1, none⟩ = some (.int .i64 y)) ((first | (refine ⟨?_, ?_⟩ <;> (go_simp; done)) | fail))
      (first | (go_at_call 202; (first | (with_reducible refine (HX.out _).mono ?_) | (with_reducible refine (HY.out _).mono ?_)); rintro e w9 ⟨rfl, rfl⟩))
    all_goals
      go_wp2_with fail
      go_meet
      case rel =>
        refine ⟨_, _, rfl, rfl, ⟨?_, ?_, ?_, ?_, ?_, ?_, ?_⟩⟩
        · exact ⟨by go_simp, by go_simp, by go_simp, by simp⟩
        · exact ⟨by go_simp, by go_simp, by go_simp, by simp⟩
        · go_grown
        · simp
        · omega
        · omega
        · show (World.alloc _ _).heap[_]? = _
          iterate 6 rw [Below.heap_alloc _ _ _ (by simp)]
          exact heap_two _ _ _
  case rest =>
    obtain ⟨g, h, rfl, rfl, H⟩ := hcut
    obtain ⟨W1, rfl⟩ : ∃ W1, W1 = wc := ⟨_, rfl⟩
    obtain ⟨hX, hY, hB, hs, hg1, hh1, hb⟩ := H.out
    have HB := Lib.hid hB
    have HCR := Lib.hid (fun W => cross_any (uv x) (uv y) W (uv_bd hx) (uv_bd hy))
    have HD := Lib.hid (And.intro hX hY)
    have HS := Lib.hid hs
    have HZ := Lib.hid hb
    have HGH := Lib.hid (And.intro hg1 hh1)
    clear hB hx hy H hb hg1 hh1 hX hY hs
    go_upto_region 2 with fail
    go_region_held3 (fun w' => w'.cell? ⟨g, 0, none⟩ = some (.int .i64 (uv x).x) ∧ w'.cell? ⟨g, 1, none⟩ = some (.int .i64 (uv x).y) ∧ w'.cell? ⟨g, 2, none⟩ = some (.int .i64 (uv x).z) ∧ w'.cell? ⟨h, 0, none⟩ = some (.int .i64 (uv y).x) ∧ w'.cell? ⟨h, 1, none⟩ = some (.int .i64 (uv y).y) ∧ w'.cell? ⟨h, 2, none⟩ = some (.int .i64 (uv y).z))
      ((first
        | (with_reducible exact six_of (hdrew HD.out))
        | (with_reducible exact six_of HK9.out.1)
        | (with_reducible exact six_of (hset HGH.out (hset HGH.out (hset HGH.out (hset HGH.out (hset HGH.out (hset HGH.out (hset HGH.out (hset HGH.out (hset HGH.out (HK9.out.1)))))))))))
        | fail))
      ((first
        | (go_at_call 203; (with_reducible refine (HCR.out _).mono ?_); rintro e w9 ⟨rfl, hb9⟩; have HK9 := Lib.hid (col_after HD.out HB.out HS.out HZ.out (below_drawn hb9)); have q9 := (fun i => cell_of_row w9 (w.heap.size + 1) i _ _ _ HK9.out.2.2); have f9 := (fun i => frozen_of_row w9 (w.heap.size + 1) i _ _ HK9.out.2.2); clear hb9)
        | fail))
    clear q9 f9
    have h8 := heap_setCells (w.heap.size + 1) 231 [.int .i64 (uv x).x, .int .i64 (uv x).y, .int .i64 (uv x).z, .int .i64 (uv y).x, .int .i64 (uv y).y, .int .i64 (uv y).z, .int .i64 (crossP (uv x) (uv y)).x, .int .i64 (crossP (uv x) (uv y)).y, .int .i64 (crossP (uv x) (uv y)).z] 0 w9 [] [.int .i64 0, .int .i64 0, .int .i64 0, .int .i64 0, .int .i64 0, .int .i64 0, .int .i64 0, .int .i64 0, .int .i64 0] rfl rfl HK9.out.2.2
    have b8 := HK9.out.2.1.grown (grown_setCells (w.heap.size + 1) [.int .i64 (uv x).x, .int .i64 (uv x).y, .int .i64 (uv x).z, .int .i64 (uv y).x, .int .i64 (uv y).y, .int .i64 (uv y).z, .int .i64 (crossP (uv x) (uv y)).x, .int .i64 (crossP (uv x) (uv y)).y, .int .i64 (crossP (uv x) (uv y)).z] 0 w9).1 HK9.out.2.1.size (by intro j hj; cases hj; omega)
    have H8 := Lib.hid (And.intro h8 b8)
    clear h8 b8
    go_wp2
    exact bodyPost_ret (results_cell_row rfl _ _ (w.heap.size + 1) 231 _ (0, 0) _ (by rfl) H8.out.1 Tryz.underlying231 rfl sz9) rfl ⟨rfl, H8.out.2⟩
end

section
open Go.RowKit
set_option linter.unusedVariables false
set_option linter.unusedSimpArgs false

/-- The image of a point: the columns times its coordinates. -/
def img (x y : Int) (p : Pt) : Pt :=
  ⟨(uv x).x * p.x + (uv y).x * p.y + (crossP (uv x) (uv y)).x * p.z, (uv x).y * p.x + (uv y).y * p.y + (crossP (uv x) (uv y)).y * p.z, (uv x).z * p.x + (uv y).z * p.y + (crossP (uv x) (uv y)).z * p.z⟩

theorem prod_bd {c x N : Int} (h : -2 ≤ c ∧ c ≤ 2) (hx : -N ≤ x) (hx2 : x ≤ N) : -(2 * N) ≤ c * x ∧ c * x ≤ 2 * N := by
  obtain ⟨h1, h2⟩ := h
  obtain rfl | rfl | rfl | rfl | rfl : c = -2 ∨ c = -1 ∨ c = 0 ∨ c = 1 ∨ c = 2 := by omega
  all_goals omega
theorem cross_bd {a b : Pt} (ha : PtIn 1 a) (hb : PtIn 1 b) : PtIn 2 (crossP a b) := by
  have key : ∀ x y : Int, -1 ≤ x → x ≤ 1 → -1 ≤ y → y ≤ 1 → -1 ≤ x * y ∧ x * y ≤ 1 := by
    intro x y h1 h2 h3 h4
    obtain rfl | rfl | rfl : x = -1 ∨ x = 0 ∨ x = 1 := by omega
    all_goals omega
  obtain ⟨a1, a2, a3, a4, a5, a6⟩ := ha
  obtain ⟨b1, b2, b3, b4, b5, b6⟩ := hb
  have c1 := key a.y b.z a3 a4 b5 b6
  have c2 := key a.z b.y a5 a6 b3 b4
  have c3 := key a.z b.x a5 a6 b1 b2
  have c4 := key a.x b.z a1 a2 b5 b6
  have d1 := key a.x b.y a1 a2 b3 b4
  have d2 := key a.y b.x a3 a4 b1 b2
  unfold crossP PtIn
  simp only
  omega

/-- What the loop has written after k rounds. -/
def imgCells (a b c : Pt) (p : Pt) (k : Nat) : Array Value :=
  #[.int .i64 (if 0 < k then a.x * p.x + b.x * p.y + c.x * p.z else 0), .int .i64 (if 1 < k then a.y * p.x + b.y * p.y + c.y * p.z else 0), .int .i64 (if 2 < k then a.z * p.x + b.z * p.y + c.z * p.z else 0)]

theorem img0 (a b c p : Pt) : imgCells a b c p 0 = #[.int .i64 0, .int .i64 0, .int .i64 0] := by simp [imgCells]
theorem img1 (a b c p : Pt) : imgCells a b c p 1 = #[.int .i64 (a.x * p.x + b.x * p.y + c.x * p.z), .int .i64 0, .int .i64 0] := by simp [imgCells]
theorem img2 (a b c p : Pt) : imgCells a b c p 2 = #[.int .i64 (a.x * p.x + b.x * p.y + c.x * p.z), .int .i64 (a.y * p.x + b.y * p.y + c.y * p.z), .int .i64 0] := by simp [imgCells]
theorem img3 (a b c p : Pt) : imgCells a b c p 3 = #[.int .i64 (a.x * p.x + b.x * p.y + c.x * p.z), .int .i64 (a.y * p.x + b.y * p.y + c.y * p.z), .int .i64 (a.z * p.x + b.z * p.y + c.z * p.z)] := by simp [imgCells]
/-- The world of the loop: the point's box, the columns' block, the block that is written. -/
structure ImgW (w : World) (G C V : Nat) (a b c p : Pt) (k : Nat) (wr : World) : Prop where
  below : Below w.heap.size w wr
  hG : w.heap.size ≤ G ∧ G ≠ V
  hC : C ≠ V
  hV : w.heap.size ≤ V
  pt : wr.heap[G]? = some (.cells #[.int .i64 p.x, .int .i64 p.y, .int .i64 p.z] 88 (0, 0))
  col : wr.heap[C]? = some (.cells #[.int .i64 a.x, .int .i64 a.y, .int .i64 a.z, .int .i64 b.x, .int .i64 b.y, .int .i64 b.z, .int .i64 c.x, .int .i64 c.y, .int .i64 c.z] 231 (0, 0))
  out : wr.heap[V]? = some (.cells (imgCells a b c p k) 159 (0, 0))
  hR : w.heap.size ≤ G + 1 ∧ G + 1 ≠ V
  res : wr.heap[G + 1]? = some (.cells #[.int .i64 0, .int .i64 0, .int .i64 0] 88 (0, 0))
theorem ImgW.store {w : World} {G C V : Nat} {a b c p : Pt} {k : Nat} {wr : World} (h : ImgW w G C V a b c p k wr) (u : Value) (hu : (imgCells a b c p k).setIfInBounds k u = imgCells a b c p (k + 1)) : ImgW w G C V a b c p (k + 1) (wr.drew.setCell ⟨V, k, none⟩ u) := by
  refine ⟨h.below.drew.grown (only_set wr.drew V k u) h.below.size (by intro j hj; cases hj; exact h.hV), h.hG, h.hC, h.hV, ?_, ?_, ?_, h.hR, ?_⟩
  · rw [heap_setCell_other _ _ _ _ h.hG.2]; exact h.pt
  · rw [heap_setCell_other _ _ _ _ h.hC]; exact h.col
  · have := heap_setCell_same wr.drew V k _ _ u h.out
    rw [hu] at this; exact this
  · rw [heap_setCell_other _ _ _ _ h.hR.2]; exact h.res
theorem ImgW.facts {w : World} {G C V : Nat} {a b c p : Pt} {k : Nat} {wr : World} (h : ImgW w G C V a b c p k wr) :
    (wr.cell? ⟨G, 0, none⟩ = some (.int .i64 p.x) ∧ wr.cell? ⟨G, 1, none⟩ = some (.int .i64 p.y) ∧ wr.cell? ⟨G, 2, none⟩ = some (.int .i64 p.z)) ∧
    (∀ i : Nat, wr.cell? ⟨C, i, none⟩ = (#[.int .i64 a.x, .int .i64 a.y, .int .i64 a.z, .int .i64 b.x, .int .i64 b.y, .int .i64 b.z, .int .i64 c.x, .int .i64 c.y, .int .i64 c.z] : Array Value)[i]?) ∧ (∀ i : Nat, wr.cell? ⟨V, i, none⟩ = (imgCells a b c p k)[i]?) ∧ (∀ i : Nat, wr.frozen? ⟨V, i, none⟩ = false) ∧ (∀ i : Nat, wr.cell? ⟨G + 1, i, none⟩ = (#[.int .i64 0, .int .i64 0, .int .i64 0] : Array Value)[i]?) ∧ (∀ i : Nat, wr.frozen? ⟨G + 1, i, none⟩ = false) :=
  ⟨⟨cell_of_row _ _ _ _ _ _ h.pt, cell_of_row _ _ _ _ _ _ h.pt, cell_of_row _ _ _ _ _ _ h.pt⟩, fun i => cell_of_row _ _ _ _ _ _ h.col, fun i => cell_of_row _ _ _ _ _ _ h.out, fun i => frozen_of_row _ _ _ _ _ h.out, fun i => cell_of_row _ _ _ _ _ _ h.res, fun i => frozen_of_row _ _ _ _ _ h.res⟩

set_option maxRecDepth 100000 in
set_option maxHeartbeats 4000000 in
theorem image_any (x y : Int) (p : Pt) (w : World) (hx : axB x = true) (hy : axB y = true) (hp : PtIn 1048576 p) :
    Calls Tryz.prog 190 #[.agg #[.int .i64 x, .int .i64 y], ptv p] w fun e w' => e = .returned (ptv (img x y p)) ∧ Below w.heap.size w w' := by
  have HC := Lib.hid (fun W => columns_any x y W hx hy)
  have hA := uv_bd hx
  have hB := uv_bd hy
  have hC := cross_bd hA hB
  have HR := Lib.hid (show img x y p = ⟨(uv x).x * p.x + (uv y).x * p.y + (crossP (uv x) (uv y)).x * p.z, (uv x).y * p.x + (uv y).y * p.y + (crossP (uv x) (uv y)).y * p.z, (uv x).z * p.x + (uv y).z * p.y + (crossP (uv x) (uv y)).z * p.z⟩ from rfl)
  generalize img x y p = r at *
  generalize uv x = a at *
  generalize uv y = b at *
  generalize crossP a b = c at *
  obtain ⟨a1, a2, a3, a4, a5, a6⟩ := hA
  obtain ⟨b1, b2, b3, b4, b5, b6⟩ := hB
  obtain ⟨c1, c2, c3, c4, c5, c6⟩ := hC
  obtain ⟨p1, p2, p3, p4, p5, p6⟩ := hp
  obtain ⟨d1, d2⟩ := prod_bd (c := a.x) ⟨by omega, by omega⟩ p1 p2
  obtain ⟨d3, d4⟩ := prod_bd (c := a.y) ⟨by omega, by omega⟩ p1 p2
  obtain ⟨d5, d6⟩ := prod_bd (c := a.z) ⟨by omega, by omega⟩ p1 p2
  obtain ⟨e1, e2⟩ := prod_bd (c := b.x) ⟨by omega, by omega⟩ p3 p4
  obtain ⟨e3, e4⟩ := prod_bd (c := b.y) ⟨by omega, by omega⟩ p3 p4
  obtain ⟨e5, e6⟩ := prod_bd (c := b.z) ⟨by omega, by omega⟩ p3 p4
  obtain ⟨f1, f2⟩ := prod_bd (c := c.x) ⟨by omega, by omega⟩ p5 p6
  obtain ⟨f3, f4⟩ := prod_bd (c := c.y) ⟨by omega, by omega⟩ p5 p6
  obtain ⟨f5, f6⟩ := prod_bd (c := c.z) ⟨by omega, by omega⟩ p5 p6
  clear a1 a2 a3 a4 a5 a6 b1 b2 b3 b4 b5 b6 c1 c2 c3 c4 c5 c6 p1 p2 p3 p4 p5 p6 hx hy
  go_enter Tryz.func190, Tryz.ntmps190
  go_wp2_with fail
  refine (HC.out _).mono ?_
  rintro e w9 ⟨rfl, hb9⟩
  have hz : w.heap.size + 1 + 1 < w9.heap.size := by have := hb9.size; simp at this; omega
  have q2 : w9.heap[w.heap.size + 1 + 1]? = some (.cells #[.int .i64 0, .int .i64 0, .int .i64 0] 88 (0, 0)) := (hb9.block _ (by simp)).trans (by have h := heap_alloc2_new (w.alloc (.cells #[.int .i64 x, .int .i64 y] 86)) (.cells #[.int .i64 p.x, .int .i64 p.y, .int .i64 p.z] 88) (.cells #[.int .i64 0, .int .i64 0, .int .i64 0] 88); rw [World.size_alloc] at h; exact h)
  have q1 : w9.heap[w.heap.size + 1]? = some (.cells #[.int .i64 p.x, .int .i64 p.y, .int .i64 p.z] 88 (0, 0)) := (hb9.block _ (by simp)).trans (by rw [Below.heap_alloc _ _ _ (by simp)]; exact heap_two _ _ _)
  have HI0 : Hid (ImgW w (w.heap.size + 1) w9.heap.size (w9.heap.size + 1) a b c p 0 ((w9.alloc (.cells #[.int .i64 a.x, .int .i64 a.y, .int .i64 a.z, .int .i64 b.x, .int .i64 b.y, .int .i64 b.z, .int .i64 c.x, .int .i64 c.y, .int .i64 c.z] 231)).alloc (.cells #[.int .i64 0, .int .i64 0, .int .i64 0] 159))) :=
    ⟨((bstep (by go_grown) hb9).alloc (by omega) _).alloc (by simp; omega) _, ⟨by omega, by omega⟩, by omega, by omega, by rw [Below.heap_alloc _ _ _ (by simp; omega), Below.heap_alloc _ _ _ (by omega)]; exact q1, heap_alloc2_old _ _ _, by rw [img0]; exact heap_alloc2_new _ _ _, ⟨by omega, by omega⟩, by rw [Below.heap_alloc _ _ _ (by simp; omega), Below.heap_alloc _ _ _ (by omega)]; exact q2⟩
  clear hb9 q1 q2
  have HZ := Lib.hid hz
  clear hz
  go_wp2_with fail
  go_loopw [10] (fun i wr => ∃ k : Nat, k ≤ 3 ∧ i = .int .i64 k ∧ ImgW w (w.heap.size + 1) w9.heap.size (w9.heap.size + 1) a b c p k wr) (fun i _ => 3 - (intOf i).toNat)
  case atStart => exact ⟨0, by omega, rfl, HI0.out⟩
  case round =>
    obtain ⟨k, hk, rfl, HI⟩ := hrel
    obtain rfl | rfl | rfl | rfl : k = 0 ∨ k = 1 ∨ k = 2 ∨ k = 3 := by omega
    · obtain ⟨⟨g1, g2, g3⟩, fC, fV, fF, _, _⟩ := HI.facts
      have c1 := fC 0
      have c2 := fC (3 + 0)
      have c3 := fC (6 + 0)
      have v1 := fV 0
      have v2 := fF 0
      rw [img0] at v1
      simp only [Nat.reduceAdd, List.getElem?_toArray, List.getElem?_cons_zero, List.getElem?_cons_succ] at c1 c2 c3 v1
      clear fC fV fF
      obtain ⟨wq, rfl⟩ : ∃ wq : World, wq = wr := ⟨_, rfl⟩
      have HI := Lib.hid HI
      go_upto_region 6 with fail
      go_still_tail 25, (by kernel_rfl)
      change wpList _ _ _ _ _ wq.drew
      obtain ⟨W10, hW10⟩ : ∃ W10, wq.drew = W10 := ⟨_, rfl⟩
      replace v1 : W10.cell? ⟨w9.heap.size + 1, 0, none⟩ = some (.int .i64 0) := by rw [← hW10]; exact v1
      replace v2 : W10.frozen? ⟨w9.heap.size + 1, 0, none⟩ = false := by rw [← hW10]; exact v2
      have HS : Hid (∀ u, (imgCells a b c p 0).setIfInBounds 0 u = imgCells a b c p (1) → ImgW w (w.heap.size + 1) w9.heap.size (w9.heap.size + 1) a b c p (1) (W10.setCell ⟨w9.heap.size + 1, 0, none⟩ u)) := fun u hu => by rw [← hW10]; exact HI.out.store u hu
      rw [hW10]
      clear hW10 c1 c2 c3 g1 g2 g3
      go_wp2
      go_roundw
      case rel => exact ⟨1, by omega, by go_num, HS.out _ (by rw [img0, img1]; rfl)⟩
      case measure => simp [intOf]
    · obtain ⟨⟨g1, g2, g3⟩, fC, fV, fF, _, _⟩ := HI.facts
      have c1 := fC 1
      have c2 := fC (3 + 1)
      have c3 := fC (6 + 1)
      have v1 := fV 1
      have v2 := fF 1
      rw [img1] at v1
      simp only [Nat.reduceAdd, List.getElem?_toArray, List.getElem?_cons_zero, List.getElem?_cons_succ] at c1 c2 c3 v1
      clear fC fV fF
      obtain ⟨wq, rfl⟩ : ∃ wq : World, wq = wr := ⟨_, rfl⟩
      have HI := Lib.hid HI
      go_upto_region 6 with fail
      go_still_tail 25, (by kernel_rfl)
      change wpList _ _ _ _ _ wq.drew
      obtain ⟨W10, hW10⟩ : ∃ W10, wq.drew = W10 := ⟨_, rfl⟩
      replace v1 : W10.cell? ⟨w9.heap.size + 1, 1, none⟩ = some (.int .i64 0) := by rw [← hW10]; exact v1
      replace v2 : W10.frozen? ⟨w9.heap.size + 1, 1, none⟩ = false := by rw [← hW10]; exact v2
      have HS : Hid (∀ u, (imgCells a b c p 1).setIfInBounds 1 u = imgCells a b c p (2) → ImgW w (w.heap.size + 1) w9.heap.size (w9.heap.size + 1) a b c p (2) (W10.setCell ⟨w9.heap.size + 1, 1, none⟩ u)) := fun u hu => by rw [← hW10]; exact HI.out.store u hu
      rw [hW10]
      clear hW10 c1 c2 c3 g1 g2 g3
      go_wp2
      go_roundw
      case rel => exact ⟨2, by omega, by go_num, HS.out _ (by rw [img1, img2]; rfl)⟩
      case measure => simp [intOf]
    · obtain ⟨⟨g1, g2, g3⟩, fC, fV, fF, _, _⟩ := HI.facts
      have c1 := fC 2
      have c2 := fC (3 + 2)
      have c3 := fC (6 + 2)
      have v1 := fV 2
      have v2 := fF 2
      rw [img2] at v1
      simp only [Nat.reduceAdd, List.getElem?_toArray, List.getElem?_cons_zero, List.getElem?_cons_succ] at c1 c2 c3 v1
      clear fC fV fF
      obtain ⟨wq, rfl⟩ : ∃ wq : World, wq = wr := ⟨_, rfl⟩
      have HI := Lib.hid HI
      go_upto_region 6 with fail
      go_still_tail 25, (by kernel_rfl)
      change wpList _ _ _ _ _ wq.drew
      obtain ⟨W10, hW10⟩ : ∃ W10, wq.drew = W10 := ⟨_, rfl⟩
      replace v1 : W10.cell? ⟨w9.heap.size + 1, 2, none⟩ = some (.int .i64 0) := by rw [← hW10]; exact v1
      replace v2 : W10.frozen? ⟨w9.heap.size + 1, 2, none⟩ = false := by rw [← hW10]; exact v2
      have HS : Hid (∀ u, (imgCells a b c p 2).setIfInBounds 2 u = imgCells a b c p (3) → ImgW w (w.heap.size + 1) w9.heap.size (w9.heap.size + 1) a b c p (3) (W10.setCell ⟨w9.heap.size + 1, 2, none⟩ u)) := fun u hu => by rw [← hW10]; exact HI.out.store u hu
      rw [hW10]
      clear hW10 c1 c2 c3 g1 g2 g3
      go_wp2
      go_roundw
      case rel => exact ⟨3, by omega, by go_num, HS.out _ (by rw [img2, img3]; rfl)⟩
      case measure => simp [intOf]
    · obtain ⟨_, fC, fV, fF, fR, fS⟩ := HI.facts
      have r0 := fR 0
      have r1 := fR 1
      have r2 := fR 2
      have v0 := fV 0
      have v1 := fV 1
      have v2 := fV 2
      rw [img3] at v0 v1 v2
      simp only [List.getElem?_toArray, List.getElem?_cons_zero, List.getElem?_cons_succ] at v0 v1 v2 r0 r1 r2
      clear fC fV fF fR
      have HI := Lib.hid HI
      go_wp2
      refine bodyPost_ret (v := ptv r) (by rw [HR.out]; simp [results, Tryz.results190, go_sem, r0, r1, r2, fS]) rfl ⟨rfl, ?_⟩
      exact (((HI.out.below).setCell (by simp; omega) _).setCell (by simp; omega) _).setCell (by simp; omega) _
end

section
open Go.RowKit
set_option linter.unusedVariables false
set_option linter.unusedSimpArgs false
attribute [local go_sem ↓] Go.wp_at_zero Go.wp_at_succ

theorem runit_pos (n : Int) (w : World) (h : n = 1 ∨ n = 2 ∨ n = 3) : Calls Tryz.prog 195 #[.int .i64 n] w fun e w' => e = .returned (ptv (uv n)) ∧ Below w.heap.size w w' := by
  rcases h with rfl | rfl | rfl
  all_goals
    go_enter Tryz.func195, Tryz.ntmps195
    go_wp2
    exact bodyPost_ret (v := ptv (uv _)) (by simp [results, Tryz.results195, go_sem]; first | rfl | decide) rfl ⟨rfl, by go_grown⟩

theorem runit_any (n : Int) (w : World) (h : axB n = true) : Calls Tryz.prog 195 #[.int .i64 n] w fun e w' => e = .returned (ptv (uv n)) ∧ Below w.heap.size w w' := by
  by_cases h0 : 0 < n
  · exact runit_pos n w (by have := axis_cases h; omega)
  · have h3 : n = -1 ∨ n = -2 ∨ n = -3 := by have := axis_cases h; omega
    clear h h0
    rcases h3 with rfl | rfl | rfl
    · have H : Hid (∀ W, Calls Tryz.prog 195 #[.int .i64 1] W fun e w' => e = .returned (.agg #[.int .i64 1, .int .i64 0, .int .i64 0]) ∧ Below W.heap.size W w') := fun W => runit_pos 1 W (.inl rfl)
      go_enter Tryz.func195, Tryz.ntmps195
      go_wp2_with fail
      refine (H.out _).mono ?_
      rintro e w9 ⟨rfl, hb9⟩
      obtain ⟨hc, hf⟩ := bcell hb9
      have hz : w.heap.size < w9.heap.size := by have := hb9.size; simp at this; omega
      have HB := Lib.hid (bstep (by go_grown) hb9 : Below w.heap.size w w9)
      clear hb9
      go_wp2
      exact bodyPost_ret (v := ptv (uv (-1))) (by simp [results, Tryz.results195, go_sem, hc, hz]; first | rfl | decide) rfl ⟨rfl, (((HB.out.setCell (by simp) _).setCell (by simp) _).setCell (by simp) _).alloc (by simp; omega) _⟩
    · have H : Hid (∀ W, Calls Tryz.prog 195 #[.int .i64 2] W fun e w' => e = .returned (.agg #[.int .i64 0, .int .i64 1, .int .i64 0]) ∧ Below W.heap.size W w') := fun W => runit_pos 2 W (.inr (.inl rfl))
      go_enter Tryz.func195, Tryz.ntmps195
      go_wp2_with fail
      refine (H.out _).mono ?_
      rintro e w9 ⟨rfl, hb9⟩
      obtain ⟨hc, hf⟩ := bcell hb9
      have hz : w.heap.size < w9.heap.size := by have := hb9.size; simp at this; omega
      have HB := Lib.hid (bstep (by go_grown) hb9 : Below w.heap.size w w9)
      clear hb9
      go_wp2
      exact bodyPost_ret (v := ptv (uv (-2))) (by simp [results, Tryz.results195, go_sem, hc, hz]; first | rfl | decide) rfl ⟨rfl, (((HB.out.setCell (by simp) _).setCell (by simp) _).setCell (by simp) _).alloc (by simp; omega) _⟩
    · have H : Hid (∀ W, Calls Tryz.prog 195 #[.int .i64 3] W fun e w' => e = .returned (.agg #[.int .i64 0, .int .i64 0, .int .i64 1]) ∧ Below W.heap.size W w') := fun W => runit_pos 3 W (.inr (.inr rfl))
      go_enter Tryz.func195, Tryz.ntmps195
      go_wp2_with fail
      refine (H.out _).mono ?_
      rintro e w9 ⟨rfl, hb9⟩
      obtain ⟨hc, hf⟩ := bcell hb9
      have hz : w.heap.size < w9.heap.size := by have := hb9.size; simp at this; omega
      have HB := Lib.hid (bstep (by go_grown) hb9 : Below w.heap.size w w9)
      clear hb9
      go_wp2
      exact bodyPost_ret (v := ptv (uv (-3))) (by simp [results, Tryz.results195, go_sem, hc, hz]; first | rfl | decide) rfl ⟨rfl, (((HB.out.setCell (by simp) _).setCell (by simp) _).setCell (by simp) _).alloc (by simp; omega) _⟩

theorem rcross_any (a b : Pt) (w : World) (ha : PtIn 1 a) (hb : PtIn 1 b) : Calls Tryz.prog 197 #[ptv a, ptv b] w fun e w' => e = .returned (ptv (crossP a b)) ∧ Below w.heap.size w w' := by
  have key : ∀ x y : Int, -1 ≤ x → x ≤ 1 → -1 ≤ y → y ≤ 1 → -1 ≤ x * y ∧ x * y ≤ 1 := by
    intro x y h1 h2 h3 h4
    obtain rfl | rfl | rfl : x = -1 ∨ x = 0 ∨ x = 1 := by omega
    all_goals omega
  obtain ⟨a1, a2, a3, a4, a5, a6⟩ := ha
  obtain ⟨b1, b2, b3, b4, b5, b6⟩ := hb
  obtain ⟨ax, ay, az⟩ := a
  obtain ⟨bx, by_, bz⟩ := b
  simp only at *
  obtain ⟨c1, c2⟩ := key ay bz a3 a4 b5 b6
  obtain ⟨c3, c4⟩ := key az by_ a5 a6 b3 b4
  obtain ⟨c5, c6⟩ := key az bx a5 a6 b1 b2
  obtain ⟨c7, c8⟩ := key ax bz a1 a2 b5 b6
  obtain ⟨d1, d2⟩ := key ax by_ a1 a2 b3 b4
  obtain ⟨d3, d4⟩ := key ay bx a3 a4 b1 b2
  clear key
  go_enter Tryz.func197, Tryz.ntmps197
  go_wp2
  exact bodyPost_ret (v := ptv (crossP _ _)) (by simp [results, Tryz.results197, go_sem, crossP]) rfl ⟨rfl, by go_grown⟩

def BlkIs (w : World) (g : Nat) (t : TypeId) (cs : Array Value) : Prop := w.heap[g]? = some (.cells cs t (0, 0))
section
variable {w w' : World} {g : Nat} {t : TypeId} {cs : Array Value}
theorem BlkIs.lt (h : BlkIs w g t cs) : g < w.heap.size := (Array.getElem?_eq_some_iff.1 h).1
theorem BlkIs.below (h : BlkIs w g t cs) (hb : Below w.heap.size w w') : BlkIs w' g t cs := (hb.block _ h.lt).trans h
theorem BlkIs.cell (h : BlkIs w g t cs) (i : Nat) : w.cell? ⟨g, i, none⟩ = cs[i]? := cell_of_row _ _ _ _ _ _ h
theorem BlkIs.free (h : BlkIs w g t cs) (i : Nat) : w.frozen? ⟨g, i, none⟩ = false := frozen_of_row _ _ _ _ _ h
theorem BlkIs.alloc (h : BlkIs w g t cs) (o : Obj) : BlkIs (w.alloc o) g t cs := (Below.heap_alloc w o g h.lt).trans h
theorem BlkIs.new (w : World) (cs : Array Value) (t : TypeId) : BlkIs (w.alloc (.cells cs t)) w.heap.size t cs := heap_alloc_new w _
theorem BlkIs.new1 (w : World) (o : Obj) (cs : Array Value) (t : TypeId) : BlkIs ((w.alloc o).alloc (.cells cs t)) (w.heap.size + 1) t cs := heap_alloc2_new w _ _
theorem BlkIs.far (h : BlkIs w g t cs) {p : Addr} (hp : g ≠ p.block) (u : Value) : BlkIs (w.setCell p u) g t cs := (heap_setCell_other _ _ _ _ hp).trans h
theorem BlkIs.set (h : BlkIs w g t cs) (i : Nat) (u : Value) : BlkIs (w.setCell ⟨g, i, none⟩ u) g t (cs.setIfInBounds i u) := heap_setCell_same _ _ _ _ _ _ h
end
end

section
open Go.RowKit
set_option linter.unusedVariables false
set_option linter.unusedSimpArgs false
attribute [local go_sem ↓] Go.wp_at_zero Go.wp_at_succ

/-- Four blocks: a point, two directions, the result. -/
structure RimW (w : World) (G A B : Nat) (p a b : Pt) (W : World) : Prop where
  below : Below w.heap.size w W
  pt : BlkIs W G 88 #[.int .i64 p.x, .int .i64 p.y, .int .i64 p.z]
  res : BlkIs W (G + 1) 88 #[.int .i64 0, .int .i64 0, .int .i64 0]
  av : BlkIs W A 88 #[.int .i64 a.x, .int .i64 a.y, .int .i64 a.z]
  bv : BlkIs W B 88 #[.int .i64 b.x, .int .i64 b.y, .int .i64 b.z]
theorem RimW.after {w W W' : World} {G A B : Nat} {p a b : Pt} (h : RimW w G A B p a b W) (hb : Below W.heap.size W W') : RimW w G A B p a b W' :=
  ⟨bstep h.below hb, h.pt.below hb, h.res.below hb, h.av.below hb, h.bv.below hb⟩
theorem RimW.drew {w W : World} {G A B : Nat} {p a b : Pt} (h : RimW w G A B p a b W) : RimW w G A B p a b W.drew := ⟨h.below.drew, h.pt, h.res, h.av, h.bv⟩
abbrev RimS (G A B : Nat) (p a b : Pt) (W : World) : Prop :=
  W.cell? ⟨G, 0, none⟩ = some (.int .i64 p.x) ∧ W.cell? ⟨G, 1, none⟩ = some (.int .i64 p.y) ∧ W.cell? ⟨G, 2, none⟩ = some (.int .i64 p.z) ∧
  W.cell? ⟨A, 0, none⟩ = some (.int .i64 a.x) ∧ W.cell? ⟨A, 1, none⟩ = some (.int .i64 a.y) ∧ W.cell? ⟨A, 2, none⟩ = some (.int .i64 a.z) ∧
  W.cell? ⟨B, 0, none⟩ = some (.int .i64 b.x) ∧ W.cell? ⟨B, 1, none⟩ = some (.int .i64 b.y) ∧ W.cell? ⟨B, 2, none⟩ = some (.int .i64 b.z)
theorem RimW.s {w W : World} {G A B : Nat} {p a b : Pt} (h : RimW w G A B p a b W) : RimS G A B p a b W :=
  ⟨h.pt.cell 0, h.pt.cell 1, h.pt.cell 2, h.av.cell 0, h.av.cell 1, h.av.cell 2, h.bv.cell 0, h.bv.cell 1, h.bv.cell 2⟩
theorem rim_set {W : World} {G A B R i : Nat} {p a b : Pt} {u : Value} (hne : G ≠ R ∧ A ≠ R ∧ B ≠ R) (h : RimS G A B p a b W) : RimS G A B p a b (W.setCell ⟨R, i, none⟩ u) := by
  have k : ∀ (g o : Nat), g ≠ R → (W.setCell ⟨R, i, none⟩ u).cell? ⟨g, o, none⟩ = W.cell? ⟨g, o, none⟩ := fun g o hg => World.cell?_setCell_other _ _ _ _ (fun e => hg (by injection e with e1 _; exact e1.symm))
  obtain ⟨h1, h2, h3, h4, h5, h6, h7, h8, h9⟩ := h
  exact ⟨(k _ _ hne.1).trans h1, (k _ _ hne.1).trans h2, (k _ _ hne.1).trans h3, (k _ _ hne.2.1).trans h4, (k _ _ hne.2.1).trans h5, (k _ _ hne.2.1).trans h6, (k _ _ hne.2.2).trans h7, (k _ _ hne.2.2).trans h8, (k _ _ hne.2.2).trans h9⟩

theorem rim_eq (x y : Int) (p : Pt) : padd (pmul p.x (uv x)) (padd (pmul p.y (uv y)) (pmul p.z (crossP (uv x) (uv y)))) = img x y p := by
  unfold padd pmul img
  simp only [Int.mul_comm p.x, Int.mul_comm p.y, Int.mul_comm p.z, Int.add_assoc]
theorem pmul_bd {k N : Int} {a : Pt} (ha : PtIn 2 a) (h1 : -N ≤ k) (h2 : k ≤ N) : PtIn (2 * N) (pmul k a) := by
  obtain ⟨a1, a2, a3, a4, a5, a6⟩ := ha
  have c1 := prod_bd (c := a.x) ⟨a1, a2⟩ h1 h2
  have c2 := prod_bd (c := a.y) ⟨a3, a4⟩ h1 h2
  have c3 := prod_bd (c := a.z) ⟨a5, a6⟩ h1 h2
  unfold PtIn pmul
  simp only [Int.mul_comm k]
  exact ⟨c1.1, c1.2, c2.1, c2.2, c3.1, c3.2⟩
theorem PtIn.mono {m n : Int} {p : Pt} (h : PtIn m p) (hmn : m ≤ n) : PtIn n p := by unfold PtIn at *; omega
theorem padd_bd {m n : Int} {p q : Pt} (h : PtIn m p) (k : PtIn n q) : PtIn (m + n) (padd p q) := by unfold PtIn padd at *; simp only; omega

set_option maxRecDepth 100000 in
set_option maxHeartbeats 4000000 in
theorem rimage_any (x y : Int) (p : Pt) (w : World) (hx : axB x = true) (hy : axB y = true) (hp : PtIn 1048576 p) :
    Calls Tryz.prog 175 #[.agg #[.int .i64 x, .int .i64 y], ptv p] w fun e w' => e = .returned (ptv (img x y p)) ∧ Below w.heap.size w w' := by
  have hA := uv_bd hx
  have hB := uv_bd hy
  have hC := cross_bd hA hB
  have HX := Lib.hid (fun W => runit_any x W hx)
  have HY := Lib.hid (fun W => runit_any y W hy)
  have HCR := Lib.hid (fun W => rcross_any _ _ W hA hB)
  have b1 := pmul_bd (k := p.x) (hA.mono (by omega)) hp.1 hp.2.1
  have b2 := pmul_bd (k := p.y) (hB.mono (by omega)) hp.2.2.1 hp.2.2.2.1
  have b3 := pmul_bd (k := p.z) hC hp.2.2.2.2.1 hp.2.2.2.2.2
  have b4 := padd_bd b2 b3
  have HR := Lib.hid (rim_eq x y p)
  have HT1 := Lib.hid (fun W => ptimes_any _ p.x W (b1.mono (by omega)))
  have HT2 := Lib.hid (fun W => ptimes_any _ p.y W (b2.mono (by omega)))
  have HT3 := Lib.hid (fun W => ptimes_any _ p.z W (b3.mono (by omega)))
  have HP1 := Lib.hid (fun W => rplus_any _ _ W (b2.mono (by omega)) (b3.mono (by omega)))
  have HP2 := Lib.hid (fun W => rplus_any _ _ W (b1.mono (by omega)) (b4.mono (by omega)))
  clear hA hB hC b1 b2 b3 b4 hp hx hy
  generalize hr : img x y p = r at *
  generalize ha : uv x = a at *
  generalize hb : uv y = b at *
  generalize hc : crossP a b = c at *
  clear hr ha hb hc
  go_enter Tryz.func175, Tryz.ntmps175
  go_wp2_with fail
  refine (HX.out _).mono ?_
  rintro e w8 ⟨rfl, hb8⟩
  obtain ⟨hc8, hf8⟩ := bcell hb8
  have hz8 : w.heap.size + 1 + 1 < w8.heap.size := by have := hb8.size; simp at this; omega
  have P8 : BlkIs w8 (w.heap.size + 1) 88 #[.int .i64 p.x, .int .i64 p.y, .int .i64 p.z] := BlkIs.below ((BlkIs.new1 w _ _ _).alloc _) hb8
  have R8 : BlkIs w8 (w.heap.size + 1 + 1) 88 #[.int .i64 0, .int .i64 0, .int .i64 0] := BlkIs.below (by have h := BlkIs.new1 (w.alloc (.cells #[.int .i64 x, .int .i64 y] 86)) (.cells #[.int .i64 p.x, .int .i64 p.y, .int .i64 p.z] 88) #[.int .i64 0, .int .i64 0, .int .i64 0] 88; rw [World.size_alloc] at h; exact h) hb8
  have HB8 := Lib.hid (bstep (by go_grown) hb8 : Below w.heap.size w w8)
  have H8 := Lib.hid (And.intro P8 R8)
  have y8 : w8.cell? ⟨w.heap.size, 1, none⟩ = some (.int .i64 y) := (hc8 _ _ (by simp; omega)).trans (by go_simp)
  have hz80 : w.heap.size < w8.heap.size := by omega
  clear P8 R8 hb8 hc8 hf8
  go_wp2_with fail
  refine (HY.out _).mono ?_
  rintro e w9 ⟨rfl, hb9⟩
  have hz9 : w8.heap.size < w9.heap.size := by have := hb9.size; simp at this; omega
  have HW : Hid (RimW w (w.heap.size + 1) w8.heap.size w9.heap.size p a b (w9.alloc (.cells #[.int .i64 b.x, .int .i64 b.y, .int .i64 b.z] 88))) :=
    ⟨(bstep (HB8.out.alloc (by omega) _) hb9).alloc (by omega) _, ((H8.out.1.alloc _).below hb9).alloc _, ((H8.out.2.alloc _).below hb9).alloc _, ((BlkIs.new _ _ _).below hb9).alloc _, BlkIs.new _ _ _⟩
  clear hb9 y8
  go_upto_region 3 with fail
  have HN : Hid (w.heap.size + 1 ≠ w.heap.size + 1 + 1 ∧ w8.heap.size ≠ w.heap.size + 1 + 1 ∧ w9.heap.size ≠ w.heap.size + 1 + 1) := ⟨by omega, by omega, by omega⟩
  obtain ⟨W0, hW0⟩ : ∃ W0, w9.alloc (.cells #[.int .i64 b.x, .int .i64 b.y, .int .i64 b.z] 88) = W0 := ⟨_, rfl⟩
  rw [hW0] at HW ⊢
  clear hW0 hz8 hz80 hz9
  go_region_held3 (fun w' => w'.cell? ⟨w.heap.size + 1, 0, none⟩ = some (.int .i64 p.x) ∧ w'.cell? ⟨w.heap.size + 1, 1, none⟩ = some (.int .i64 p.y) ∧ w'.cell? ⟨w.heap.size + 1, 2, none⟩ = some (.int .i64 p.z) ∧ w'.cell? ⟨w8.heap.size, 0, none⟩ = some (.int .i64 a.x) ∧ w'.cell? ⟨w8.heap.size, 1, none⟩ = some (.int .i64 a.y) ∧ w'.cell? ⟨w8.heap.size, 2, none⟩ = some (.int .i64 a.z) ∧ w'.cell? ⟨w9.heap.size, 0, none⟩ = some (.int .i64 b.x) ∧ w'.cell? ⟨w9.heap.size, 1, none⟩ = some (.int .i64 b.y) ∧ w'.cell? ⟨w9.heap.size, 2, none⟩ = some (.int .i64 b.z))
    ((first
      | (with_reducible exact HW.out.s)
      | (with_reducible exact HW.out.drew.s)
      | (with_reducible exact rim_set HN.out (rim_set HN.out (rim_set HN.out HW.out.s)))
      | fail))
    ((first
      | (go_at_call 196; (first | (with_reducible refine (HT1.out _).mono ?_) | (with_reducible refine (HT2.out _).mono ?_) | (with_reducible refine (HT3.out _).mono ?_)); rintro e w7 ⟨rfl, hb7⟩; (first | replace HW := Lib.hid (HW.out.after hb7) | replace HW := Lib.hid (HW.out.after (below_drawn hb7))); clear hb7)
      | (go_at_call 197; (with_reducible refine (HCR.out _).mono ?_); rintro e w7 ⟨rfl, hb7⟩; (first | replace HW := Lib.hid (HW.out.after hb7) | replace HW := Lib.hid (HW.out.after (below_drawn hb7))); clear hb7)
      | (go_at_call 173; (first | (with_reducible refine (HP1.out _).mono ?_) | (with_reducible refine (HP2.out _).mono ?_)); rintro e w7 ⟨rfl, hb7⟩; (first | replace HW := Lib.hid (HW.out.after hb7) | replace HW := Lib.hid (HW.out.after (below_drawn hb7))); clear hb7; have c0 := HW.out.res.cell 0; have c1 := HW.out.res.cell 1; have c2 := HW.out.res.cell 2; have f0 := HW.out.res.free)
      | fail))
  go_wp2
  refine bodyPost_ret (v := ptv r) (by rw [← HR.out]; simp [results, Tryz.results175, go_sem, c0, c1, c2, f0]) rfl ⟨rfl, ?_⟩
  exact ((HW.out.below.setCell (by simp; omega) _).setCell (by simp; omega) _).setCell (by simp; omega) _

theorem img_bd (x y : Int) (p : Pt) (hx : axB x = true) (hy : axB y = true) (hp : PtIn 1048576 p) : PtIn 8388608 (img x y p) := by
  have hA := uv_bd hx
  have hB := uv_bd hy
  have hC := cross_bd hA hB
  rw [← rim_eq]
  have b1 := pmul_bd (k := p.x) (hA.mono (by omega)) hp.1 hp.2.1
  have b2 := pmul_bd (k := p.y) (hB.mono (by omega)) hp.2.2.1 hp.2.2.2.1
  have b3 := pmul_bd (k := p.z) hC hp.2.2.2.2.1 hp.2.2.2.2.2
  exact (padd_bd b1 (padd_bd b2 b3)).mono (by omega)

set_option maxHeartbeats 1000000 in
theorem placed_any (x y : Int) (at_ p : Pt) (w : World) (hx : axB x = true) (hy : axB y = true) (hp : PtIn 1048576 p) (ha : PtIn 1099511627776 at_) :
    Calls Tryz.prog 166 #[.agg #[.int .i64 x, .int .i64 y], ptv at_, ptv p] w fun e w' => e = .returned (ptv (padd at_ (img x y p))) ∧ Below w.heap.size w w' := by
  have HI := Lib.hid (fun W => image_any x y p W hx hy hp)
  have hi := img_bd x y p hx hy hp
  clear hp hx hy
  generalize img x y p = q at *
  obtain ⟨a1, a2, a3, a4, a5, a6⟩ := ha
  obtain ⟨b1, b2, b3, b4, b5, b6⟩ := hi
  obtain ⟨ax, ay, az⟩ := at_
  obtain ⟨qx, qy, qz⟩ := q
  simp only [padd] at *
  go_enter Tryz.func166, Tryz.ntmps166
  go_wp2_with fail
  refine (HI.out _).mono ?_
  rintro e w8 ⟨rfl, hb8⟩
  obtain ⟨hc8, hf8⟩ := bcell hb8
  have hz8 : w.heap.size + 1 + 1 + 1 < w8.heap.size := by have := hb8.size; simp at this; omega
  have hz81 : w.heap.size + 1 < w8.heap.size := by omega
  have HB8 := Lib.hid (bstep (by go_grown) hb8 : Below w.heap.size w w8)
  clear hb8
  go_wp2
  exact bodyPost_ret (v := ptv _) (by simp [results, Tryz.results166, go_sem, hc8, hf8, hz8]) rfl ⟨rfl, (((HB8.out.setCell (by simp; omega) _).setCell (by simp; omega) _).setCell (by simp; omega) _).alloc (by simp; omega) _⟩
end

section
open Go.RowKit
set_option linter.unusedVariables false
set_option linter.unusedSimpArgs false

theorem inB_no {n : Int} (h : n < -1048576 ∨ 1048576 < n) : inB n = false := dec_no (by omega)
theorem inB_yes {n : Int} (h : ¬ (n < -1048576 ∨ 1048576 < n)) : inB n = true := dec_yes (by omega)

theorem allN_no {α : Type} {l : List α} {k : Nat} {x : α} {p : α → Bool} (h : l[k]? = some x) (hx : p x = false) : l.all p = false := by
  rw [List.all_eq_false]; exact ⟨x, List.mem_of_getElem? h, by rw [hx]; simp⟩

set_option maxRecDepth 100000 in
set_option maxHeartbeats 2000000 in
theorem fnear_any (v : Value) (l : List Pt) (w : World) (hp : Pts w v l) (hl : l.length ≤ 1099511627776) :
    Calls Tryz.prog 165 #[v] w fun e w' => e = .returned (.bool (l.all (ptIn 1048576))) ∧ Below w.heap.size w w' := by
  obtain ⟨ao, cap, rfl⟩ := hp.at_
  have HP := Lib.hid hp
  clear hp
  go_enter Tryz.func165, Tryz.ntmps165
  go_wp2
  go_loopw [9] (fun i wr => ∃ k : Nat, k ≤ l.length ∧ i = .int .i64 k ∧ Below w.heap.size w wr ∧ Hid (∀ (j : Nat) y, j < k → l[j]? = some y → ptIn 1048576 y = true)) (fun i _ => l.length - (intOf i).toNat)
  case atStart => exact ⟨0, Nat.zero_le _, rfl, Below.refl _ _, fun j _ hj => by omega⟩
  case round =>
    obtain ⟨k, hk, rfl, hBr, hno⟩ := hrel
    by_cases hk2 : k < l.length
    · obtain ⟨p, hy⟩ : ∃ y, l[k]? = some y := ⟨_, List.getElem?_eq_getElem hk2⟩
      obtain ⟨b, off, rfl, hbl, c0, c1, c2⟩ := pts_get (HP.out.below hBr) hy
      have HY := Lib.hid hy
      have HE := Lib.hid (near_eq p)
      have HB := Lib.hid hBr
      have i0 : ∀ W, (Instr.index 159 (.agg #[.int .i64 p.x, .int .i64 p.y, .int .i64 p.z]) (.int .i64 0)).run Tryz.prog W = .ok (.int .i64 p.x) W := fun _ => by kernel_rfl
      have i1 : ∀ W, (Instr.index 159 (.agg #[.int .i64 p.x, .int .i64 p.y, .int .i64 p.z]) (.int .i64 1)).run Tryz.prog W = .ok (.int .i64 p.y) W := fun _ => by kernel_rfl
      have i2 : ∀ W, (Instr.index 159 (.agg #[.int .i64 p.x, .int .i64 p.y, .int .i64 p.z]) (.int .i64 2)).run Tryz.prog W = .ok (.int .i64 p.z) W := fun _ => by kernel_rfl
      clear hy hBr
      go_wp2
      obtain ⟨wo, rfl⟩ : ∃ wo : World, wo = wr := ⟨_, rfl⟩
      go_loop [20] (fun j => ∃ m : Nat, m ≤ 3 ∧ j = .int .i64 m ∧ Hid ((1 ≤ m → inB p.x = true) ∧ (2 ≤ m → inB p.y = true) ∧ (3 ≤ m → inB p.z = true))) (fun j => 3 - (intOf j).toNat)
      case atStart => exact ⟨0, by omega, rfl, ⟨fun h => by omega, fun h => by omega, fun h => by omega⟩⟩
      case round =>
        obtain ⟨m, hm, rfl, HM⟩ := hrel
        obtain rfl | rfl | rfl | rfl : m = 0 ∨ m = 1 ∨ m = 2 ∨ m = 3 := by omega
        · by_cases hb : p.x < -1048576 ∨ 1048576 < p.x
          · have HF := Lib.hid (allN_no HY.out (show ptIn 1048576 p = false by rw [HE.out, inB_no (n := p.x) hb]; simp))
            rcases hb with hb | hb
            · go_wp2
              go_ret
              exact ⟨ret_bool HF.out.symm, HB.out.alloc HB.out.size _⟩
            · have hb' : ¬ p.x < -1048576 := by omega
              go_wp2
              go_ret
              exact ⟨ret_bool HF.out.symm, HB.out.alloc HB.out.size _⟩
          · have HT := Lib.hid (inB_yes (n := p.x) hb)
            have hb1 : ¬ p.x < -1048576 := by omega
            have hb2 : ¬ 1048576 < p.x := by omega
            clear hb
            go_wp2
            go_round
            case rel => exact ⟨1, by omega, by go_num, ⟨fun _ => HT.out, fun h => by omega, fun h => by omega⟩⟩
            case measure => simp [intOf]
        · by_cases hb : p.y < -1048576 ∨ 1048576 < p.y
          · have HF := Lib.hid (allN_no HY.out (show ptIn 1048576 p = false by rw [HE.out, inB_no (n := p.y) hb]; simp))
            rcases hb with hb | hb
            · go_wp2
              go_ret
              exact ⟨ret_bool HF.out.symm, HB.out.alloc HB.out.size _⟩
            · have hb' : ¬ p.y < -1048576 := by omega
              go_wp2
              go_ret
              exact ⟨ret_bool HF.out.symm, HB.out.alloc HB.out.size _⟩
          · have HT := Lib.hid (inB_yes (n := p.y) hb)
            have hb1 : ¬ p.y < -1048576 := by omega
            have hb2 : ¬ 1048576 < p.y := by omega
            clear hb
            go_wp2
            go_round
            case rel => exact ⟨2, by omega, by go_num, ⟨fun _ => HM.out.1 (by omega), fun h => HT.out, fun h => by omega⟩⟩
            case measure => simp [intOf]
        · by_cases hb : p.z < -1048576 ∨ 1048576 < p.z
          · have HF := Lib.hid (allN_no HY.out (show ptIn 1048576 p = false by rw [HE.out, inB_no (n := p.z) hb]; simp))
            rcases hb with hb | hb
            · go_wp2
              go_ret
              exact ⟨ret_bool HF.out.symm, HB.out.alloc HB.out.size _⟩
            · have hb' : ¬ p.z < -1048576 := by omega
              go_wp2
              go_ret
              exact ⟨ret_bool HF.out.symm, HB.out.alloc HB.out.size _⟩
          · have HT := Lib.hid (inB_yes (n := p.z) hb)
            have hb1 : ¬ p.z < -1048576 := by omega
            have hb2 : ¬ 1048576 < p.z := by omega
            clear hb
            go_wp2
            go_round
            case rel => exact ⟨3, by omega, by go_num, ⟨fun _ => HM.out.1 (by omega), fun h => HM.out.2.1 (by omega), fun h => HT.out⟩⟩
            case measure => simp [intOf]
        · have HT := Lib.hid (show ptIn 1048576 p = true by rw [HE.out, HM.out.1 (by omega), HM.out.2.1 (by omega), HM.out.2.2 (by omega)]; rfl)
          go_wp2
          go_roundw
          case rel => exact ⟨k + 1, by omega, by go_num, HB.out.alloc HB.out.size _, fun j z hj hz => by
            by_cases e : j = k
            · subst e; rw [HY.out] at hz; cases hz; exact HT.out
            · exact hno.out j z (by omega) hz⟩
          case measure => simp [intOf]; omega
    · go_wp2
      go_ret
      exact ⟨ret_bool (by
        rw [eq_comm, List.all_eq_true]
        intro x hx
        obtain ⟨j, hj, rfl⟩ := List.getElem_of_mem hx
        exact hno.out j _ (by omega) (List.getElem?_eq_getElem hj)), hBr⟩

def OwnPts (w : World) (base : Nat) (v : Value) (l : List Pt) : Prop := OwnN w base 88 3 ptCells v l

theorem turn_axes {x y : Int} (h : turnB x y = true) : axB x = true ∧ axB y = true := by
  unfold turnB at h; rw [decide_eq_true_eq] at h
  exact ⟨dec_yes h.1.1, dec_yes h.1.2⟩

theorem snoc_map {α β : Type} (f : α → β) {l : List α} {k : Nat} {x : α} (h : l[k]? = some x) : (l.take (k + 1)).map f = (l.take k).map f ++ [f x] := by
  have hk := (List.getElem?_eq_some_iff.1 h).1
  rw [List.take_succ_eq_append_getElem hk, List.map_append, (List.getElem?_eq_some_iff.1 h).2]
  rfl

set_option maxRecDepth 100000 in
set_option maxHeartbeats 2000000 in
theorem fpath_any (x y : Int) (at_ : Pt) (v : Value) (l : List Pt) (w : World) (hp : Pts w v l) (hl : l.length ≤ 1000) (ht : turnB x y = true) (ha : PtIn 1048576 at_) (hn : l.all (ptIn 1048576) = true) :
    Calls Tryz.prog 130 #[.agg #[.int .i64 x, .int .i64 y], ptv at_, v] w fun e w' => ∃ o, e = .returned (.tuple #[o, .int .i64 0]) ∧ Hid (OwnPts w' w.heap.size o (l.map fun p => padd at_ (img x y p))) ∧ Below w.heap.size w w' := by
  obtain ⟨hx, hy⟩ := turn_axes ht
  obtain ⟨ao, cap, rfl⟩ := hp.at_
  have HP := Lib.hid hp
  have HT := Lib.hid (fun W => turn_any x y W)
  simp only [ht] at HT
  have HN1 : Hid (∀ (ov : Value) (W : World), Pts W ov [at_] → Calls Tryz.prog 165 #[ov] W fun e w' => e = .returned (.bool true) ∧ Below W.heap.size W w') := fun ov W h => by
    have := fnear_any ov [at_] W h (by simp)
    rw [show [at_].all (ptIn 1048576) = true by simp [ptIn_iff.2 ha]] at this
    exact this
  have HN2 : Hid (∀ (W : World), Below w.heap.size w W → Calls Tryz.prog 165 #[.slice ao l.length cap] W fun e w' => e = .returned (.bool true) ∧ Below W.heap.size W w') := fun W h => by
    have := fnear_any (.slice ao l.length cap) l W (HP.out.below h) (by omega)
    rw [hn] at this
    exact this
  have HC : Hid (∀ p ∈ l, ∀ W, Calls Tryz.prog 166 #[.agg #[.int .i64 x, .int .i64 y], ptv at_, ptv p] W fun e w' => e = .returned (ptv (padd at_ (img x y p))) ∧ Below W.heap.size W w') := fun p hpl W =>
    placed_any x y at_ p W hx hy (ptIn_iff.1 (List.all_eq_true.1 hn p hpl)) (ha.mono (by omega))
  clear hp hn ht hx hy ha
  generalize hf : (fun p => padd at_ (img x y p)) = f at *
  have HF : Hid (∀ p, padd at_ (img x y p) = f p) := fun p => by rw [← hf]
  clear hf
  go_enter Tryz.func130, Tryz.ntmps130
  go_wp2_with fail
  refine (HT.out _).mono ?_
  rintro e w1 ⟨rfl, hb1⟩
  have HB1 := Lib.hid (bstep (by go_grown) hb1 : Below w.heap.size w w1)
  have BT1 : Hid (BlkIs w1 w.heap.size 86 #[.int .i64 x, .int .i64 y]) := ((BlkIs.new w _ _).alloc _).below hb1
  have BA1 : Hid (BlkIs w1 (w.heap.size + 1) 88 #[.int .i64 at_.x, .int .i64 at_.y, .int .i64 at_.z]) := (BlkIs.new1 w _ _ _).below hb1
  have e3 := BA1.out.cell 0
  have e4 := BA1.out.cell 1
  have e5 := BA1.out.cell 2
  have hz1 : w.heap.size + 1 < w1.heap.size := BA1.out.lt
  clear hb1
  go_wp2_with fail
  refine (HN1.out _ _ (OwnN.fl pt_len (own_lit w1 88 3 ptCells [at_] _ 1 0 (Nat.zero_le _) rfl rfl pt_len (by simp)))).mono ?_
  rintro e w2 ⟨rfl, hb2⟩
  have HB2 := Lib.hid (bstep (HB1.out.alloc HB1.out.size _) hb2)
  have BT2 := Lib.hid ((BT1.out.alloc _).below hb2)
  have BA2 := Lib.hid ((BA1.out.alloc _).below hb2)
  clear hb2 e3 e4 e5 hz1
  go_wp2_with fail
  refine (HN2.out _ HB2.out).mono ?_
  rintro e w3 ⟨rfl, hb3⟩
  have HB3 := Lib.hid (bstep HB2.out hb3)
  have BT := Lib.hid (BT2.out.below hb3)
  have BA := Lib.hid (BA2.out.below hb3)
  clear hb3 HB1 HB2 HN1 HN2 HT BT1 BA1 BT2 BA2
  go_wp2
  go_loopw [8, 31] (fun o i wr => ∃ k : Nat, k ≤ l.length ∧ i = .int .i64 k ∧ Below w3.heap.size w3 wr ∧ OwnPts wr w3.heap.size o ((l.take k).map f)) (fun _ i _ => l.length - (intOf i).toNat)
  case atStart => exact ⟨0, Nat.zero_le _, rfl, Below.refl _ _, OwnN.nil _ _ _ _ _⟩
  case round =>
    obtain ⟨k, hk, rfl, hBr, hown⟩ := hrel
    by_cases hk2 : k < l.length
    · obtain ⟨p, hy⟩ : ∃ y, l[k]? = some y := ⟨_, List.getElem?_eq_getElem hk2⟩
      obtain ⟨b, off, rfl, hbl, c0, c1, c2⟩ := pts_get (HP.out.below (bstep HB3.out hBr)) hy
      have BTr := BT.out.below hBr
      have BAr := BA.out.below hBr
      have d1 := BTr.cell 0
      have d2 := BTr.cell 1
      have d3 := BAr.cell 0
      have d4 := BAr.cell 1
      have d5 := BAr.cell 2
      have hzr : w.heap.size + 1 < wr.heap.size := BAr.lt
      have hzr0 : w.heap.size < wr.heap.size := BTr.lt
      clear BTr BAr
      have HK := Lib.hid (fun W => HC.out p (List.mem_of_getElem? hy) W)
      simp only [HF.out] at HK
      have HM := Lib.hid (snoc_map f hy)
      have HB := Lib.hid hBr
      have HO := Lib.hid hown
      have hl2 : ((l.take k).map f).length + 1 ≤ 1099511627776 := by simp; omega
      have hu : wr.heap.size ≤ wr.heap.size := Nat.le_refl _
      clear hy hBr hown
      go_wp2_with fail
      refine (HK.out _).mono ?_
      rintro e w8 ⟨rfl, hb8⟩
      have HB8 := Lib.hid (bstep (HB.out.alloc HB.out.size _) hb8)
      have HO8 := Lib.hid ((HO.out.alloc _).below hb8)
      have hbase : w3.heap.size ≤ w8.heap.size := HB8.out.size
      clear hb8 d1 d2 d3 d4 d5 c0 c1 c2
      go_wp2_with (at_builtin; refine wpList_pushN w8 rfl _ _ 130 rfl 88 3 24 elemPt w3.heap.size ptCells _ _ (f p) _ rfl rfl (pt_one _) HO8.out rfl rfl hl2 (by omega) hbase ?_; intro v' w' hown' hg' hat'; have HO9 := Lib.hid hown'; have HB9 := Lib.hid (HB8.out.grown hg' HB8.out.size (fun j hj => (HO8.out.lt j hj).1)); clear hown' hg' hat')
      go_roundw
      case rel => exact ⟨k + 1, by omega, by go_num, HB9.out, by rw [HM.out]; exact HO9.out⟩
      case measure => simp [intOf]; omega
    · obtain rfl : k = l.length := by omega
      rw [List.take_length] at hown
      have HO := Lib.hid hown
      have HB := Lib.hid (bstep HB3.out hBr)
      have Z := HB3.out.size
      clear hown hBr
      go_wp2
      go_ret2
      exact ⟨_, rfl, HO.out.mono Z, HB.out⟩
end
end
end Go.Proofs.YtamogedpgkofjaaGreat
