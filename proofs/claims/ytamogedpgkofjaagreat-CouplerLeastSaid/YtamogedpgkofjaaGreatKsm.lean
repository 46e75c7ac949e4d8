/-
  Base texts, shaken by wip/shake.py: Sqm Sqw.
-/
import Derived.Test.YtamogedpgkofjaaGreatKbk
import Derived.Test.YtamogedpgkofjaaGreatKcy
import Derived.Test.YtamogedpgkofjaaGreatKnl
import Derived.Test.YtamogedpgkofjaaGreatChecked
namespace Go.Proofs.YtamogedpgkofjaaGreat
section
open Go.RowKit
set_option linter.unusedVariables false
set_option linter.unusedSimpArgs false

/-- The graph of the laid bars. -/
def edN (L : List (List Bx)) (Z : List Int) (X : List Int) (n : Nat) : List (Nat × Nat) :=
  (List.range n).flatMap fun j => ((List.range n).filter fun k => decide (j ≠ k) && blkAt L Z (X.getD j 0) j k).map fun k => (j, k)
theorem edN_cst (L : List (List Bx)) (Z : List Int) (X : List Int) (n : Nat) : cst (edN L Z X n) = edgL L Z X n n := by
  unfold cst edN edgL edgR
  rw [List.map_flatMap]
  congr 1
  funext j
  rw [List.map_map]
  rfl
theorem edN_mem {L : List (List Bx)} {Z : List Int} {X : List Int} {n i k : Nat} : (i, k) ∈ edN L Z X n ↔ i < n ∧ k < n ∧ i ≠ k ∧ blkAt L Z (X.getD i 0) i k = true := by
  unfold edN
  simp only [List.mem_flatMap, List.mem_range, List.mem_map, List.mem_filter, Bool.and_eq_true, decide_eq_true_eq, Prod.mk.injEq]
  constructor
  · rintro ⟨j, hj, k', ⟨hk, hne, hb⟩, rfl, rfl⟩
    exact ⟨hj, hk, hne, hb⟩
  · rintro ⟨hi, hk, hne, hb⟩
    exact ⟨i, hi, k, ⟨hk, hne, hb⟩, rfl, rfl⟩
theorem edN_ends (L : List (List Bx)) (Z : List Int) (X : List Int) (n : Nat) : EndsD n (edN L Z X n) := by
  intro k e h
  have hm := List.mem_of_getElem? h
  obtain ⟨a, b⟩ := e
  have := edN_mem.1 hm
  exact ⟨this.1, this.2.1⟩
theorem edN_len (L : List (List Bx)) (Z : List Int) (X : List Int) (n : Nat) : (edN L Z X n).length ≤ n * n := by
  have h := edgL_len L Z X n n
  rw [← edN_cst, cst_len] at h
  exact h
/-- The first node that has an edge to one ahead of it, and this one: of the rows below m. -/
def fstE (es : List (Nat × Nat)) (q : List Nat) : Nat → Option (Nat × Nat)
  | 0 => none
  | m + 1 => match fstE es q m with
    | some r => some r
    | none => match (List.range m).find? fun k => decide ((q.getD m 0, q.getD k 0) ∈ es) with
      | some k => some (q.getD m 0, q.getD k 0)
      | none => none
theorem fstE_none {es : List (Nat × Nat)} {q : List Nat} : ∀ m, fstE es q m = none ↔ ∀ i k, k < i → i < m → (q.getD i 0, q.getD k 0) ∉ es
  | 0 => ⟨fun _ i k _ h => by omega, fun _ => rfl⟩
  | m + 1 => by
    have ih := fstE_none (es := es) (q := q) m
    constructor
    · intro h i k hk hi
      unfold fstE at h
      cases hf : fstE es q m with
      | some r => rw [hf] at h; cases h
      | none =>
        rw [hf] at h
        by_cases e : i = m
        · subst e
          simp only at h
          cases hg : (List.range i).find? (fun k => decide ((q.getD i 0, q.getD k 0) ∈ es)) with
          | some r => rw [hg] at h; cases h
          | none =>
            rw [List.find?_eq_none] at hg
            have := hg k (List.mem_range.2 hk)
            simpa using this
        · exact ih.1 hf i k hk (by omega)
    · intro h
      unfold fstE
      rw [ih.2 (fun i k hk hi => h i k hk (by omega))]
      have hg : (List.range m).find? (fun k => decide ((q.getD m 0, q.getD k 0) ∈ es)) = none := by
        rw [List.find?_eq_none]
        intro k hk
        simpa using h m k (List.mem_range.1 hk) (by omega)
      rw [hg]
theorem range_find {p : Nat → Bool} {m k : Nat} (hk : k < m) (hp : p k = true) (h : ∀ j, j < k → p j = false) : (List.range m).find? p = some k := by
  rw [List.find?_eq_some_iff_getElem]
  refine ⟨hp, k, by simpa using hk, by simp, fun j hj => ?_⟩
  simp only [List.getElem_range]
  rw [h j hj]
  rfl
/-- What is hit first is what fstE tells, for all m above. -/
theorem fstE_hit {es : List (Nat × Nat)} {q : List Nat} {i k : Nat} (h0 : ∀ a b, b < a → a < i → (q.getD a 0, q.getD b 0) ∉ es) (h1 : ∀ b, b < k → (q.getD i 0, q.getD b 0) ∉ es) (hk : k < i) (h : (q.getD i 0, q.getD k 0) ∈ es) :
    ∀ m, i < m → fstE es q m = some (q.getD i 0, q.getD k 0)
  | 0, hm => by omega
  | m + 1, hm => by
    unfold fstE
    by_cases e : i = m
    · subst e
      rw [(fstE_none i).2 h0]
      rw [range_find (p := fun k => decide ((q.getD i 0, q.getD k 0) ∈ es)) hk (by simpa using h) (fun j hj => by simpa using h1 j hj)]
    · rw [fstE_hit h0 h1 hk h m (by omega)]
/-- What First answers, for right axes and a list of all nodes. -/
def fstV (es : List (Nat × Nat)) (l : List Int) (n : Nat) : Int × Int × Int :=
  match fstE es (l.map Int.toNat) n with
  | some (a, b) => ((a : Int), (b : Int), 0)
  | none => (0, 0, 12)
end
section
section
open Go.RowKit
set_option linter.unusedVariables false
set_option linter.unusedSimpArgs false
attribute [local go_sem ↓] Go.wp_at_zero Go.wp_at_succ

/-- What the laid bars of the arguments are. -/
structure SqA (w : World) (v vr : Value) (l : List BarD) (rs : List RunD) : Prop where
  hp : Bars w v l
  hr : Runs w vr rs
  hl : l.length ≤ 140737488355328
  hlr : rs.length ≤ 140737488355328
  hf : FitB l
  h14 : laidOk l rs = true → (lgsOf l rs).length ≤ 14
theorem SqA.below {w W : World} {v vr : Value} {l : List BarD} {rs : List RunD} (h : SqA w v vr l rs) (hb : Below w.heap.size w W) : SqA W v vr l rs := ⟨h.hp.below hb, h.hr.below hb, h.hl, h.hlr, h.hf, h.h14⟩
theorem fewN {rs : List RunD} {l : List BarD} (h : laidOk l rs = true) (hq : (∀ r ∈ rs, 1 ≤ r.count ∧ r.count ≤ 2000) → rs.length ≤ 60 → sumC rs ≤ 14) : (lgsOf l rs).length ≤ 14 := by
  obtain ⟨s1, s2, s3, s4, s5⟩ := laid_sum h
  have := hq (fun r hr => by have := s3 r hr; omega) s2
  rw [lgsOf_len]
  omega
abbrev sqC (l : List BarD) (rs : List RunD) (X : List Int) : Int := allE (laidOk l rs) (lgsOf l rs).length X
abbrev sqEs (l : List BarD) (rs : List RunD) (X : List Int) : List (Nat × Nat) := edN (lgsOf l rs) (szsOf l rs) X (lgsOf l rs).length
theorem sqC_zero {l : List BarD} {rs : List RunD} {X : List Int} (h : sqC l rs X = 0) : laidOk l rs = true ∧ edgE (lgsOf l rs).length X = 0 := by
  unfold sqC allE at h
  cases hok : laidOk l rs with
  | false => rw [hok] at h; simp at h
  | true => rw [hok] at h; exact ⟨rfl, by simpa using h⟩
theorem prs_of {w : World} {v : Value} {l : List (Int × Int)} (h : Fl 2 prCells w v l) : Pairs w v l := by
  obtain ⟨ao, cap, rfl, h2⟩ := h
  refine ⟨ao, cap, rfl, fun hl => ?_⟩
  obtain ⟨b, off, rfl, hlt, hc⟩ := h2 hl
  exact ⟨b, off, rfl, hlt, fun k x hx => ⟨hc k x hx 0 _ rfl, hc k x hx 1 _ rfl⟩⟩
theorem dg_edges {w : World} {v : Value} {L : List (List Bx)} {Z : List Int} {X : List Int} {B : Nat} (h : OwnPr w B v (edgL L Z X L.length L.length)) (hn : L.length ≤ 14) : Dg w L.length v (edN L Z X L.length) := by
  have h1 : Pairs w v (edgL L Z X L.length L.length) := prs_of (OwnN.fl (fun _ => rfl) h)
  refine ⟨?_, by omega, ?_, edN_ends _ _ _ _⟩
  · unfold NPairs
    rw [edN_cst]
    exact h1
  · have h2 := edN_len L Z X L.length
    have : L.length * L.length ≤ 14 * 14 := Nat.mul_le_mul hn hn
    omega
def sqOrd (c : Int) (n : Nat) (es : List (Nat × Nat)) : Int × List Nat := if c = 0 then (match orderOf n es with | some D => (0, D) | none => (23, [])) else (c, [])
noncomputable def sqLop (c : Int) (n : Nat) (es : List (Nat × Nat)) : Int × List Nat := if c = 0 then (match loopOf n es with | some D => (0, D) | none => (12, [])) else (c, [])
def LPost (w : World) (R : Int × List Nat) (e : Ending) (w' : World) : Prop := ∃ o, e = .returned (.tuple #[o, .int .i64 R.1]) ∧ Own w' w.heap.size 3 natf o R.2 ∧ Below w.heap.size w w'
def LPostI (w : World) (R : Int × List Int) (e : Ending) (w' : World) : Prop := ∃ o, e = .returned (.tuple #[o, .int .i64 R.1]) ∧ Own w' w.heap.size 3 intf o R.2 ∧ Below w.heap.size w w'
theorem lpost_nil {w w' : World} {c : Int} {R : Int × List Nat} (h : R = (c, [])) (hb : Below w.heap.size w w') : LPost w R (.returned (.tuple #[.slice none 0 0, .int .i64 c])) w' := by
  subst h
  exact ⟨_, rfl, Own.nil _ _ _ _, hb⟩
theorem lpostI_nil {w w' : World} {c : Int} {R : Int × List Int} (h : R = (c, [])) (hb : Below w.heap.size w w') : LPostI w R (.returned (.tuple #[.slice none 0 0, .int .i64 c])) w' := by
  subst h
  exact ⟨_, rfl, Own.nil _ _ _ _, hb⟩
theorem own_mono {α : Type} {w : World} {base base' : Nat} {e : TypeId} {f : α → Value} {v : Value} {l : List α} (h : Own w base e f v l) (hb : base' ≤ base) : Own w base' e f v l := h.mono hb
theorem top_lpost {w W w' : World} {n : Nat} {es : List (Nat × Nat)} {e : Ending} (h : TopPost W n es e w') (hb : Below w.heap.size w W) : LPost w (sqOrd 0 n es) e w' := by
  obtain ⟨h1, h2⟩ := h
  unfold sqOrd
  rw [if_pos rfl]
  cases ho : orderOf n es with
  | none =>
    rw [ho] at h1
    subst h1
    exact ⟨_, rfl, Own.nil _ _ _ _, bstep hb h2⟩
  | some D =>
    rw [ho] at h1
    obtain ⟨v, rfl, hv⟩ := h1
    exact ⟨v, rfl, own_mono hv hb.size, bstep hb h2⟩
theorem loop_lpost {w W w' : World} {n : Nat} {es : List (Nat × Nat)} {e : Ending} (h : LoopPost W n es e w') (hb : Below w.heap.size w W) : LPost w (sqLop 0 n es) e w' := by
  obtain ⟨h1, h2⟩ := h
  unfold sqLop
  rw [if_pos rfl]
  cases ho : loopOf n es with
  | none =>
    rw [ho] at h1
    subst h1
    exact ⟨_, rfl, Own.nil _ _ _ _, bstep hb h2⟩
  | some D =>
    rw [ho] at h1
    obtain ⟨v, rfl, hv⟩ := h1
    exact ⟨v, rfl, own_mono hv hb.size, bstep hb h2⟩
end
end
end Go.Proofs.YtamogedpgkofjaaGreat
