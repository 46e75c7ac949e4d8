/-
  Graph, plain: the search of Bridges as a function; what memory holds while it runs.
-/
import Derived.Test.YtcaeemcobgopmaaGrI
namespace Go.Proofs.Ytcaeemcobgopmaa
open Go.RowKit
set_option linter.unusedVariables false

structure DS where
  cnt : Nat
  ord : List Nat
  low : List Nat
  br : List Bool

def DS.enter (s : DS) (v : Nat) : DS := { s with cnt := s.cnt + 1, ord := s.ord.set v (s.cnt + 1), low := s.low.set v (s.cnt + 1) }
def DS.old (s : DS) (v k : Nat) : DS := { s with low := s.low.set v (min (s.low.getD v 0) (s.ord.getD k 0)) }
def DS.back (s : DS) (v k i : Nat) : DS :=
  let lw := s.low.set v (min (s.low.getD v 0) (s.low.getD k 0))
  { s with low := lw, br := s.br.set i (decide (s.ord.getD v 0 < lw.getD k 0)) }

def stepV (g : Nat → Int → DS → DS) (ns : List (Nat × Nat)) (v : Nat) (b : Int) (s : DS) (i : Nat) : DS :=
  if (i : Int) = b then s
  else if 0 < s.ord.getD (oth ns i v) 0 then s.old v (oth ns i v)
  else (g (oth ns i v) (i : Int) s).back v (oth ns i v) i

def visitF (rows : List (List Nat)) (ns : List (Nat × Nat)) : Nat → Nat → Int → DS → DS
  | 0, _, _, s => s
  | f + 1, v, b, s => (rows.getD v []).foldl (stepV (visitF rows ns f) ns v b) (s.enter v)

def zeros (l : List Nat) : Nat := l.countP (· == 0)
theorem zeros_set (l : List Nat) (k x : Nat) (hx : 0 < x) (h : l[k]? = some 0) : zeros (l.set k x) + 1 = zeros l := by
  induction l generalizing k with
  | nil => cases h
  | cons a l ih =>
    cases k with
    | zero =>
      simp only [List.getElem?_cons_zero, Option.some.injEq] at h
      subst h
      have : ¬ x = 0 := by omega
      simp [zeros, this]
    | succ k =>
      simp only [List.getElem?_cons_succ] at h
      have := ih k h
      simp only [zeros, List.set_cons_succ, List.countP_cons] at this ⊢
      omega
theorem zeros_pos {l : List Nat} {k : Nat} (h : l[k]? = some 0) : 0 < zeros l := by
  unfold zeros
  rw [List.countP_pos_iff]
  exact ⟨0, List.mem_of_getElem? h, by simp⟩

structure SOk (n m : Nat) (s : DS) : Prop where
  ord : s.ord.length = n
  low : s.low.length = n
  br : s.br.length = m
  cnt : s.cnt + zeros s.ord = n

theorem SOk.enter {n m v : Nat} {s : DS} (h : SOk n m s) (hv : s.ord[v]? = some 0) : SOk n m (s.enter v) ∧ zeros (s.enter v).ord + 1 = zeros s.ord := by
  have hz := zeros_set s.ord v (s.cnt + 1) (by omega) hv
  refine ⟨⟨by simp [DS.enter, h.ord], by simp [DS.enter, h.low], h.br, ?_⟩, hz⟩
  have := h.cnt
  show s.cnt + 1 + zeros (s.ord.set v (s.cnt + 1)) = n
  omega
theorem SOk.old {n m v k : Nat} {s : DS} (h : SOk n m s) : SOk n m (s.old v k) := ⟨h.ord, by simp [DS.old, h.low], h.br, h.cnt⟩
theorem SOk.back {n m v k i : Nat} {s : DS} (h : SOk n m s) : SOk n m (s.back v k i) := ⟨h.ord, by simp [DS.back, h.low], by simp [DS.back, h.br], h.cnt⟩

/-- Nodes that were seen stay as they are. -/
def Stays (s s' : DS) : Prop := zeros s'.ord ≤ zeros s.ord ∧ ∀ (k x : Nat), s.ord[k]? = some x → 0 < x → s'.ord[k]? = some x
theorem Stays.refl (s : DS) : Stays s s := ⟨Nat.le_refl _, fun _ _ h _ => h⟩
theorem Stays.trans {s s' s'' : DS} (h : Stays s s') (h' : Stays s' s'') : Stays s s'' := ⟨Nat.le_trans h'.1 h.1, fun k x hx hp => h'.2 k x (h.2 k x hx hp) hp⟩
theorem Stays.enter {s : DS} {v : Nat} (hv : s.ord[v]? = some 0) : Stays s (s.enter v) := by
  refine ⟨by have := zeros_set s.ord v (s.cnt + 1) (by omega) hv; show zeros (s.ord.set v (s.cnt + 1)) ≤ _; omega, fun k x hx hp => ?_⟩
  by_cases e : v = k
  · subst e; rw [hv] at hx; cases hx; omega
  · show (s.ord.set v (s.cnt + 1))[k]? = some x
    rw [List.getElem?_set_ne e]; exact hx

theorem getD_some {l : List Nat} {k : Nat} (h : k < l.length) : l[k]? = some (l.getD k 0) := by
  simp [List.getD, List.getElem?_eq_getElem h]

theorem visitF_ok {rows : List (List Nat)} {ns : List (Nat × Nat)} {U : Nat → Bool} {n m : Nat} (he : Ends n ns) (hr : RowOk ns U n rows) : ∀ (f v : Nat) (b : Int) (s : DS), v < n → s.ord[v]? = some 0 → SOk n m s → SOk n m (visitF rows ns f v b s) ∧ Stays s (visitF rows ns f v b s) := by
  intro f
  induction f with
  | zero => intro v b s _ _ h; exact ⟨h, Stays.refl s⟩
  | succ f ih =>
    intro v b s hv h0 h
    rw [visitF]
    have key : ∀ (l : List Nat), (∀ i ∈ l, inc ns i v = true) → ∀ s, SOk n m s → SOk n m (l.foldl (stepV (visitF rows ns f) ns v b) s) ∧ Stays s (l.foldl (stepV (visitF rows ns f) ns v b) s) := by
      intro l
      induction l with
      | nil => intro _ s h; exact ⟨h, Stays.refl s⟩
      | cons i l ihl =>
        intro hi s hs
        rw [List.foldl_cons]
        have hin := hi i (by simp)
        have hk := oth_lt he hin
        have hst : SOk n m (stepV (visitF rows ns f) ns v b s i) ∧ Stays s (stepV (visitF rows ns f) ns v b s i) := by
          unfold stepV
          split
          · exact ⟨hs, Stays.refl s⟩
          · split
            · exact ⟨hs.old, Stays.refl s⟩
            · rename_i h1
              have hg := getD_some (l := s.ord) (k := oth ns i v) (by rw [hs.ord]; exact hk)
              rw [show s.ord.getD (oth ns i v) 0 = 0 by omega] at hg
              obtain ⟨h2, h3⟩ := ih (oth ns i v) i s hk hg hs
              exact ⟨h2.back, h3⟩
        obtain ⟨h4, h5⟩ := ihl (fun j hj => hi j (by simp [hj])) _ hst.1
        exact ⟨h4, hst.2.trans h5⟩
    have hrow : ∀ i ∈ rows.getD v [], inc ns i v = true := by
      intro i hi
      have hg : rows[v]? = some (rows.getD v []) := by simp [List.getD, List.getElem?_eq_getElem (show v < rows.length by rw [hr.1]; exact hv)]
      exact (((hr.2 v _ hg).2 i).1 hi).2
    obtain ⟨h1, h2⟩ := key _ hrow _ (h.enter h0).1
    exact ⟨h1, (Stays.enter h0).trans h2⟩

def start (n m : Nat) : DS := ⟨0, List.replicate n 0, List.replicate n 0, List.replicate m false⟩
/-- All nodes, one after the other. -/
def visitAll (rows : List (List Nat)) (ns : List (Nat × Nat)) (n : Nat) : Nat → DS → DS
  | 0, s => s
  | k + 1, s => let s := visitAll rows ns n k s; if s.ord.getD k 0 = 0 then visitF rows ns n k (-1) s else s
def bridgesOf (n : Nat) (ns : List (Nat × Nat)) : List Nat := idxs (visitAll (besTo n ns (fun _ => true) ns.length) ns n n (start n ns.length)).br true

/-! ### memory -/
def Box (w : World) (b : Nat) (t : TypeId) (v : Value) : Prop := w.heap[b]? = some (.cells #[v] t (0, 0))
theorem Box.lt {w : World} {b : Nat} {t : TypeId} {v : Value} (h : Box w b t v) : b < w.heap.size := (Array.getElem?_eq_some_iff.1 h).1
theorem Box.cell {w : World} {b : Nat} {t : TypeId} {v : Value} (h : Box w b t v) : w.cell? ⟨b, 0, none⟩ = some v := by
  unfold Box at h
  simp [World.cell?, h]
theorem Box.free {w : World} {b : Nat} {t : TypeId} {v : Value} (h : Box w b t v) : w.frozen? ⟨b, 0, none⟩ = false := by
  unfold Box at h
  simp [World.frozen?, h]
theorem Box.below {w w1 : World} {b : Nat} {t : TypeId} {v : Value} (h : Box w b t v) (hb : Below w.heap.size w w1) : Box w1 b t v := (hb.block b h.lt).trans h
theorem Box.other {w : World} {b : Nat} {t : TypeId} {v : Value} (h : Box w b t v) (G i : Nat) (u : Value) (hne : b ≠ G) : Box (w.setCell ⟨G, i, none⟩ u) b t v := (heap_setCell_other w ⟨G, i, none⟩ b u hne).trans h
theorem Box.set {w : World} {b : Nat} {t : TypeId} {v : Value} (h : Box w b t v) (u : Value) : Box (w.setCell ⟨b, 0, none⟩ u) b t u := by
  unfold Box at h ⊢
  simp [World.setCell, Array.getElem?_modify, h]

structure Ids where
  C : Nat
  O : Nat
  L : Nat
  A : Nat
  E : Nat
  V : Nat
  B : Nat
  GO : Nat
  GL : Nat
  GB : Nat
  ve : Value
  vat : Value

def Ids.caps (d : Ids) : Array Value := #[.pointer (some ⟨d.C, 0, none⟩), .pointer (some ⟨d.O, 0, none⟩), .pointer (some ⟨d.L, 0, none⟩), .pointer (some ⟨d.A, 0, none⟩), .pointer (some ⟨d.E, 0, none⟩), .pointer (some ⟨d.V, 0, none⟩), .pointer (some ⟨d.B, 0, none⟩)]

/-- What the search finds at a world: w3 is the world behind beside. -/
structure DAt (w3 : World) (n m : Nat) (d : Ids) (wr : World) (s : DS) : Prop where
  below : Below w3.heap.size w3 wr
  e : Box w3 d.E 22 d.ve
  c : Box wr d.C 3 (natf s.cnt)
  o : Box wr d.O 25 (.slice (some ⟨d.GO, 0, none⟩) n n)
  l : Box wr d.L 25 (.slice (some ⟨d.GL, 0, none⟩) n n)
  a : Box wr d.A 35 d.vat
  v : Box wr d.V 56 (.func (.func 39) #[] d.caps)
  b : Box wr d.B 55 (.slice (some ⟨d.GB, 0, none⟩) m m)
  oo : Own wr w3.heap.size 3 natf (.slice (some ⟨d.GO, 0, none⟩) n n) s.ord
  ol : Own wr w3.heap.size 3 natf (.slice (some ⟨d.GL, 0, none⟩) n n) s.low
  ob : Own wr w3.heap.size 4 boolf (.slice (some ⟨d.GB, 0, none⟩) m m) s.br
  dis : d.C ≠ d.GO ∧ d.C ≠ d.GL ∧ d.GO ≠ d.GL
  cge : w3.heap.size ≤ d.C

section
variable {w3 wr w1 : World} {n m : Nat} {d : Ids} {s : DS}
theorem DAt.of_below (h : DAt w3 n m d wr s) (hb : Below wr.heap.size wr w1) : DAt w3 n m d w1 s :=
  ⟨h.below.trans (hb.mono h.below.size), h.e, h.c.below hb, h.o.below hb, h.l.below hb, h.a.below hb, h.v.below hb, h.b.below hb, h.oo.below hb, h.ol.below hb, h.ob.below hb, h.dis, h.cge⟩
theorem DAt.setC (h : DAt w3 n m d wr s) (x : Nat) : DAt w3 n m d (wr.setCell ⟨d.C, 0, none⟩ (natf x)) { s with cnt := x } := by
  have hne : ∀ {b : Nat} {t : TypeId} {v : Value}, Box wr b t v → t ≠ 3 → b ≠ d.C := fun hb ht e => by
    subst e
    have := h.c
    unfold Box at hb this
    rw [hb] at this
    injection this with this
    injection this with _ this
    exact ht this
  have hg := only_set wr d.C 0 (natf x)
  exact ⟨h.below.setCell h.cge _, h.e, h.c.set _, h.o.other _ _ _ (hne h.o (by decide)), h.l.other _ _ _ (hne h.l (by decide)), h.a.other _ _ _ (hne h.a (by decide)), h.v.other _ _ _ (hne h.v (by decide)), h.b.other _ _ _ (hne h.b (by decide)),
    h.oo.only hg (fun g e e' => by cases e; injection e' with e'; exact h.dis.1 e'.symm), h.ol.only hg (fun g e e' => by cases e; injection e' with e'; exact h.dis.2.1 e'.symm),
    h.ob.only hg (fun g e e' => by injection e' with e'; exact h.ob.apart_blk h.c (by decide) g e e'), h.dis, h.cge⟩
theorem DAt.setO (h : DAt w3 n m d wr s) (i x : Nat) : DAt w3 n m d (wr.setCell ⟨d.GO, i, none⟩ (natf x)) { s with ord := s.ord.set i x } := by
  have hne : ∀ {b : Nat} {t : TypeId} {v : Value}, Box wr b t v → t ≠ 3 → b ≠ d.GO := fun hb ht e => h.oo.apart_blk hb (Ne.symm ht) _ rfl e.symm
  have hg := only_set wr d.GO i (natf x)
  exact ⟨h.below.setCell (p := ⟨d.GO, i, none⟩) (h.oo.lt d.GO rfl).1 _, h.e, h.c.other _ _ _ h.dis.1, h.o.other _ _ _ (hne h.o (by decide)), h.l.other _ _ _ (hne h.l (by decide)), h.a.other _ _ _ (hne h.a (by decide)), h.v.other _ _ _ (hne h.v (by decide)), h.b.other _ _ _ (hne h.b (by decide)),
    h.oo.set i x, h.ol.only hg (fun g e e' => by cases e; injection e' with e'; exact h.dis.2.2 e'.symm),
    h.ob.only hg (h.ob.apart h.oo (by decide)), h.dis, h.cge⟩
theorem DAt.setL (h : DAt w3 n m d wr s) (i x : Nat) : DAt w3 n m d (wr.setCell ⟨d.GL, i, none⟩ (natf x)) { s with low := s.low.set i x } := by
  have hne : ∀ {b : Nat} {t : TypeId} {v : Value}, Box wr b t v → t ≠ 3 → b ≠ d.GL := fun hb ht e => h.ol.apart_blk hb (Ne.symm ht) _ rfl e.symm
  have hg := only_set wr d.GL i (natf x)
  exact ⟨h.below.setCell (p := ⟨d.GL, i, none⟩) (h.ol.lt d.GL rfl).1 _, h.e, h.c.other _ _ _ h.dis.2.1, h.o.other _ _ _ (hne h.o (by decide)), h.l.other _ _ _ (hne h.l (by decide)), h.a.other _ _ _ (hne h.a (by decide)), h.v.other _ _ _ (hne h.v (by decide)), h.b.other _ _ _ (hne h.b (by decide)),
    h.oo.only hg (fun g e e' => by cases e; injection e' with e'; exact h.dis.2.2 e'), h.ol.set i x,
    h.ob.only hg (h.ob.apart h.ol (by decide)), h.dis, h.cge⟩
theorem DAt.setB (h : DAt w3 n m d wr s) (i : Nat) (x : Bool) : DAt w3 n m d (wr.setCell ⟨d.GB, i, none⟩ (boolf x)) { s with br := s.br.set i x } := by
  have hne : ∀ {b : Nat} {t : TypeId} {v : Value}, Box wr b t v → t ≠ 4 → b ≠ d.GB := fun hb ht e => h.ob.apart_blk hb (Ne.symm ht) _ rfl e.symm
  have hg := only_set wr d.GB i (boolf x)
  exact ⟨h.below.setCell (p := ⟨d.GB, i, none⟩) (h.ob.lt d.GB rfl).1 _, h.e, h.c.other _ _ _ (hne h.c (by decide)), h.o.other _ _ _ (hne h.o (by decide)), h.l.other _ _ _ (hne h.l (by decide)), h.a.other _ _ _ (hne h.a (by decide)), h.v.other _ _ _ (hne h.v (by decide)), h.b.other _ _ _ (hne h.b (by decide)),
    h.oo.only hg (h.oo.apart h.ob (by decide)), h.ol.only hg (h.ol.apart h.ob (by decide)),
    h.ob.set i x, h.dis, h.cge⟩
end
end Go.Proofs.Ytcaeemcobgopmaa
