/-
  Words for graphs in memory, and the library's Equal and Contains at nodes: slices of pairs of nodes, rows, literals.
-/
import Derived.Test.YthhhcaleoiopgaaLib
import Derived.Test.YthhhcaleoiopgaaMat
namespace Go.Proofs.Ythhhcaleoiopgaa
open Go.RowKit
set_option linter.unusedVariables false

def cst (ns : List (Nat × Nat)) : List (Int × Int) := ns.map fun e => ((e.1 : Int), (e.2 : Int))

theorem cst_len (ns : List (Nat × Nat)) : (cst ns).length = ns.length := by simp [cst]

theorem cst_get {ns : List (Nat × Nat)} {k : Nat} {e : Nat × Nat} (h : ns[k]? = some e) : (cst ns)[k]? = some ((e.1 : Int), (e.2 : Int)) := by
  unfold cst; rw [List.getElem?_map, h]; rfl

/-- A slice of pairs of nodes. -/
def NPairs (w : World) (v : Value) (ns : List (Nat × Nat)) : Prop := Pairs w v (cst ns)

theorem NPairs.below {w w1 : World} {v : Value} {l : List (Nat × Nat)} (h : NPairs w v l) (hb : Below w.heap.size w w1) : NPairs w1 v l := Pairs.below h hb

theorem NPairs.open_ {w : World} {v : Value} {ns : List (Nat × Nat)} (h : NPairs w v ns) :
    ∃ ao cap, v = .slice ao ns.length cap ∧ (0 < ns.length → ∃ b off, ao = some ⟨b, off, none⟩ ∧ b < w.heap.size ∧ ∀ k x, ns[k]? = some x → w.cell? ⟨b, off + k * 2, none⟩ = some (.int .i64 (x.1 : Int)) ∧ w.cell? ⟨b, off + k * 2 + 1, none⟩ = some (.int .i64 (x.2 : Int))) := by
  obtain ⟨ao, cap, rfl, h⟩ := h
  refine ⟨ao, cap, by rw [cst_len], fun hl => ?_⟩
  obtain ⟨b, off, rfl, hlt, hc⟩ := h (by rw [cst_len]; exact hl)
  exact ⟨b, off, rfl, hlt, fun k x hx => hc k _ (cst_get hx)⟩

/-- An edge's two cells. -/
theorem NPairs.edge {w : World} {ao : Option Addr} {len cap i : Nat} {ns : List (Nat × Nat)} {e : Nat × Nat} (h : NPairs w (.slice ao len cap) ns) (he : ns[i]? = some e) :
    ∃ b off, ao = some ⟨b, off, none⟩ ∧ b < w.heap.size ∧ w.cell? ⟨b, off + i * 2, none⟩ = some (.int .i64 (e.1 : Int)) ∧ w.cell? ⟨b, off + i * 2 + 1, none⟩ = some (.int .i64 (e.2 : Int)) := by
  obtain ⟨ao', cap', hv, h2⟩ := h.open_
  cases hv
  obtain ⟨b, off, rfl, hlt, hc⟩ := h2 (by have := (List.getElem?_eq_some_iff.1 he).1; omega)
  exact ⟨b, off, rfl, hlt, hc i e he⟩

theorem natInj : Function.Injective (fun x : Nat => (x : Int)) := fun a b h => by simp only at h; omega

theorem equalN_any (v v' : Value) (l l' : List Nat) (w : World) (h : Nats w v l) (h' : Nats w v' l') (hl : l.length ≤ 140737488355328) (hl' : l'.length ≤ 140737488355328) :
    Calls Try.prog 17 #[v, v'] w fun e w' => e = .returned (.bool (decide (l = l'))) ∧ Below w.heap.size w w' := by
  refine (equal_any v v' _ _ w h.ints h'.ints (by simpa using hl) (by simpa using hl')).mono ?_
  rintro e w' ⟨rfl, hb⟩
  refine ⟨ret_bool (decide_eq_decide.2 ⟨fun h => ?_, fun h => by rw [h]⟩), hb⟩
  exact (List.map_inj_right (fun a b h => natInj h)).1 h

theorem equalN_yes (v v' : Value) (l l' : List Nat) (w : World) (h : Nats w v l) (h' : Nats w v' l') (hl : l.length ≤ 140737488355328) (he : l = l') :
    Calls Try.prog 17 #[v, v'] w fun e w' => e = .returned (.bool true) ∧ Below w.heap.size w w' := by
  have := equalN_any v v' l l' w h h' hl (by rw [← he]; exact hl)
  rw [decide_eq_true he] at this
  exact this

theorem sl_lit {α : Type} (w : World) (f : α → Value) (l : List α) (cs : Array Value) (t : TypeId) (n : Nat) (hcs : cs = (l.map f).toArray) (hn : n = l.length) : Sl (w.alloc (.cells cs t)) f (.slice (some ⟨w.heap.size, 0, none⟩) n n) l := by
  subst hcs hn
  refine ⟨_, _, rfl, fun _ => ⟨_, _, rfl, by simp, fun k x hx => ?_⟩⟩
  rw [World.cell?_alloc_at _ _ _ _ rfl, Nat.zero_add]
  simp [hx]

/-! ### large -/

theorem rows_get {w : World} {ao : Option Addr} {n cap k : Nat} {l : List (List Nat)} {r : List Nat} (h : Rows w (.slice ao n cap) l) (hk : l[k]? = some r) :
    ∃ b off, ao = some ⟨b, off, none⟩ ∧ b < w.heap.size ∧ ∃ uo uc, w.cell? ⟨b, off + k, none⟩ = some (.slice uo r.length uc) ∧ Nats w (.slice uo r.length uc) r := by
  obtain ⟨ao', cap', hv, h2⟩ := h
  cases hv
  obtain ⟨b, off, rfl, hlt, hc⟩ := h2 (by have := (List.getElem?_eq_some_iff.1 hk).1; omega)
  obtain ⟨u, hu, hn⟩ := hc k r hk
  have hn' := hn
  obtain ⟨uo, uc, rfl, _⟩ := hn
  exact ⟨b, off, rfl, hlt, uo, uc, hu, hn'⟩

theorem nats_get {w : World} {ao : Option Addr} {n cap k : Nat} {l : List Nat} {x : Nat} (h : Nats w (.slice ao n cap) l) (hk : l[k]? = some x) :
    ∃ b off, ao = some ⟨b, off, none⟩ ∧ b < w.heap.size ∧ w.cell? ⟨b, off + k, none⟩ = some (.int .i64 (x : Int)) := by
  obtain ⟨ao', cap', hv, h2⟩ := h
  cases hv
  obtain ⟨b, off, rfl, hlt, hc⟩ := h2 (by have := (List.getElem?_eq_some_iff.1 hk).1; omega)
  exact ⟨b, off, rfl, hlt, hc k x hk⟩

theorem nil_nats (w : World) : Nats w (.slice none 0 0) [] := Sl.nil _ _ _ _

theorem containsN_any (v : Value) (l : List Nat) (x : Nat) (w : World) (h : Nats w v l) (hl : l.length ≤ 140737488355328) :
    Calls Try.prog 33 #[v, .int .i64 (x : Int)] w fun e w' => e = .returned (.bool (decide (x ∈ l))) ∧ w = w' := by
  refine (contains_any v _ (x : Int) w h.ints (by simpa using hl)).mono ?_
  rintro e w' ⟨rfl, rfl⟩
  exact ⟨ret_bool (decide_eq_decide.2 ⟨fun h => by
    obtain ⟨y, hy, e⟩ := List.mem_map.1 h
    have : y = x := by omega
    rw [← this]; exact hy, fun h => List.mem_map.2 ⟨x, h, rfl⟩⟩), rfl⟩

theorem Rows.at {w : World} {v : Value} {l : List (List Nat)} (h : Rows w v l) : ∃ ao cap, v = .slice ao l.length cap := by
  obtain ⟨ao, cap, rfl, _⟩ := h
  exact ⟨ao, cap, rfl⟩

theorem Mat.at {w : World} {base : Nat} {V : Value} {l : List (List Nat)} (h : Mat w base V l) : ∃ ao cap, V = .slice ao l.length cap := h.rows.at

theorem Own.bools {w : World} {base : Nat} {e : TypeId} {v : Value} {l : List Bool} (h : Own w base e boolf v l) : Bools w v l := h.sl

theorem Mat.mono {w : World} {base base' : Nat} {V : Value} {rows : List (List Nat)} (h : Mat w base V rows) (hb : base' ≤ base) : Mat w base' V rows := by
  obtain ⟨vals, h1, h2, h3, h4⟩ := h
  exact ⟨vals, h1, h2.mono hb, fun k v r hv hr => (h3 k v r hv hr).mono hb, h4⟩

/-- Induction over a list from its end. -/
theorem snoc_ind {α : Type} {p : List α → Prop} (h0 : p []) (h1 : ∀ l a, p l → p (l ++ [a])) (l : List α) : p l := by
  have : ∀ n (l : List α), l.length = n → p l := by
    intro n
    induction n with
    | zero => intro l hl; cases l with
      | nil => exact h0
      | cons _ _ => simp at hl
    | succ n ih =>
      intro l hl
      have hne : l ≠ [] := by intro e; subst e; simp at hl
      rw [← List.dropLast_concat_getLast hne]
      exact h1 _ _ (ih _ (by simp [hl]))
  exact this _ l rfl

end Go.Proofs.Ythhhcaleoiopgaa
