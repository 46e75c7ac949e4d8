/-
  The loads of lorry.Greedy: what they are, and how they lie.
-/
import Derived.Test.YtejcgjdfajppgaaGreatDoorTgh
namespace Go.Proofs.YtejcgjdfajppgaaGreatDoor
section
open Go.RowKit
set_option linter.unusedVariables false
set_option linter.unusedSimpArgs false

def fitP (m most : Int) (n : Int) : Bool := decide (n + m ≤ most)
/-- The load for a further bundle: the first where it fits, else a new one. -/
def slotOf (m most : Int) (M : List Int) : Option Nat := M.findIdx? (fitP m most)
def grd1 (l : List BunD) (most : Int) (s : List (List Nat) × List Int) (i : Nat) : List (List Nat) × List Int :=
  match slotOf (massZ l i) most s.2 with
  | some j => (s.1.set j (s.1.getD j [] ++ [i]), s.2.set j (s.2.getD j 0 + massZ l i))
  | none => (s.1 ++ [[i]], s.2 ++ [massZ l i])
def grd (l : List BunD) (most : Int) (on : List Nat) : List (List Nat) × List Int := on.foldl (grd1 l most) ([], [])
theorem grd_snoc (l : List BunD) (most : Int) (on : List Nat) (i : Nat) : grd l most (on ++ [i]) = grd1 l most (grd l most on) i := by unfold grd; rw [List.foldl_append]; rfl
structure GI (l : List BunD) (most : Int) (on : List Nat) (k : Nat) (R : List (List Nat)) (M : List Int) : Prop where
  eq : (R, M) = grd l most (on.take k)
  len : R.length = M.length
  perm : R.flatten.Perm (on.take k)
  rng : ∀ x ∈ M, 0 ≤ x ∧ x ≤ k * 1099511627776
  few : R.length ≤ k
  full : ∀ r ∈ R, r ≠ []
theorem flatten_set {R : List (List Nat)} {j : Nat} {r : List Nat} (h : R[j]? = some r) (i : Nat) : (R.set j (r ++ [i])).flatten.Perm (R.flatten ++ [i]) := by
  induction R generalizing j with
  | nil => cases h
  | cons a R ih =>
    cases j with
    | zero =>
      cases h
      rw [List.set_cons_zero, List.flatten_cons, List.flatten_cons, List.append_assoc, List.append_assoc]
      exact List.Perm.append_left _ List.perm_append_comm
    | succ j =>
      rw [List.set_cons_succ, List.flatten_cons, List.flatten_cons, List.append_assoc]
      exact List.Perm.append_left _ (ih (by simpa using h))
theorem GI.start (l : List BunD) (most : Int) (on : List Nat) : GI l most on 0 [] [] := ⟨rfl, rfl, .refl _, (fun x h => by simp at h), Nat.le_refl _, (fun x h => by simp at h)⟩
theorem take_snoc {on : List Nat} {k i : Nat} (h : on[k]? = some i) : on.take (k + 1) = on.take k ++ [i] := by rw [List.take_add_one, h]; rfl
theorem GI.old {l : List BunD} {most : Int} {on : List Nat} {k i j : Nat} {R : List (List Nat)} {M : List Int} {r : List Nat} {m : Int} (h : GI l most on k R M) (hm : MassIn l) (hi : on[k]? = some i) (hs : slotOf (massZ l i) most M = some j) (hr : R[j]? = some r) (hM : M[j]? = some m) :
    GI l most on (k + 1) (R.set j (r ++ [i])) (M.set j (m + massZ l i)) := by
  have hz := massZ_in hm i
  refine ⟨?_, by simp [h.len], ?_, ?_, ?_, ?_⟩
  · rw [take_snoc hi, grd_snoc, ← h.eq]
    unfold grd1
    simp only [hs]
    rw [List.getD_eq_getElem?_getD, List.getD_eq_getElem?_getD, hr, hM]
    rfl
  · rw [take_snoc hi]
    exact (flatten_set hr i).trans (h.perm.append_right _)
  · intro x hx
    rcases List.mem_or_eq_of_mem_set hx with hx | rfl
    · have := h.rng x hx; omega
    · have := h.rng m (List.mem_of_getElem? hM); omega
  · rw [List.length_set]; have := h.few; omega
  · intro x hx
    rcases List.mem_or_eq_of_mem_set hx with hx | rfl
    · exact h.full x hx
    · simp
theorem GI.new {l : List BunD} {most : Int} {on : List Nat} {k i : Nat} {R : List (List Nat)} {M : List Int} (h : GI l most on k R M) (hm : MassIn l) (hi : on[k]? = some i) (hs : slotOf (massZ l i) most M = none) :
    GI l most on (k + 1) ((R ++ [[]]).set R.length ([] ++ [i])) ((M ++ [0]).set R.length (0 + massZ l i)) := by
  have hz := massZ_in hm i
  have e1 : (R ++ [[]]).set R.length ([] ++ [i]) = R ++ [[i]] := by simp
  have e2 : (M ++ [0]).set R.length (0 + massZ l i) = M ++ [massZ l i] := by rw [h.len]; simp
  rw [e1, e2]
  refine ⟨?_, by simp [h.len], ?_, ?_, ?_, ?_⟩
  · rw [take_snoc hi, grd_snoc, ← h.eq]
    unfold grd1
    simp only [hs]
  · rw [take_snoc hi, List.flatten_append]
    exact h.perm.append (by simp)
  · intro x hx
    rcases List.mem_append.1 hx with hx | hx
    · have := h.rng x hx; omega
    · rw [List.mem_singleton.1 hx]; omega
  · rw [List.length_append]; have := h.few; simp; omega
  · intro x hx
    rcases List.mem_append.1 hx with hx | hx
    · exact h.full x hx
    · rw [List.mem_singleton.1 hx]; simp

theorem MatVals.onlyR {w w1 : World} {base : Nat} {V : Value} {vals : List Value} {rows : List (List Nat)} {r : Option Nat} (h : MatVals w base V vals rows) (hg : w.grownBy w1 r) (hV : ∀ g, V.ownBlock = some g → some g ≠ r) (hr : ∀ (j : Nat) v g, vals[j]? = some v → v.ownBlock = some g → some g ≠ r) : MatVals w1 base V vals rows := by
  obtain ⟨h1, h2, h3, h4⟩ := h
  exact ⟨h1, h2.only hg hV, fun k v s hv hs => (h3 k v s hv hs).only hg (hr k v · hv), h4⟩
structure GW (w2 : World) (V m : Value) (vals : List Value) (R : List (List Nat)) (M : List Int) (wr : World) : Prop where
  mv : MatVals wr w2.heap.size V vals R
  ms : Own wr w2.heap.size 3 intv m M
  ap : ∀ (j : Nat) v g, vals[j]? = some v → v.ownBlock = some g → m.ownBlock ≠ some g
  bl : Below w2.heap.size w2 wr
section
variable {w2 wr w1 : World} {V m : Value} {vals : List Value} {R : List (List Nat)} {M : List Int}
theorem GW.start (w2 : World) : GW w2 (.slice none 0 0) (.slice none 0 0) [] [] [] w2 :=
  ⟨⟨rfl, Own.nil _ _ _ _, fun k v r h => by simp at h, fun i j vi vj g _ h => by simp at h⟩, Own.nil _ _ _ _, fun j v g h => by simp at h, Below.refl _ _⟩
theorem GW.below (h : GW w2 V m vals R M wr) (hb : Below wr.heap.size wr w1) : GW w2 V m vals R M w1 :=
  ⟨h.mv.onlyR (only_below hb none) (fun g _ e => by cases e) (fun j v g _ _ e => by cases e), h.ms.below hb, h.ap, bstep h.bl hb⟩
/-- Behind 'out = append(out, nil)'. -/
theorem GW.pushRow {V1 : Value} (h : GW w2 V m vals R M wr) (hown : Own w1 w2.heap.size 23 rowf V1 (vals ++ [.slice none 0 0])) (hg : wr.grownBy w1 V.ownBlock) : GW w2 V1 m (vals ++ [.slice none 0 0]) (R ++ [[]]) M w1 := by
  refine ⟨h.mv.pushNilVals hown hg, h.ms.only hg (h.ms.apart h.mv.2.1 (by decide)), fun j v g hv hvg => ?_, below_grown h.bl hg h.bl.size (fun g e => (h.mv.2.1.lt g e).1)⟩
  rcases Nat.lt_or_ge j vals.length with hj | hj
  · rw [List.getElem?_append_left hj] at hv
    exact h.ap j v g hv hvg
  · rw [List.getElem?_append_right hj] at hv
    have : j - vals.length = 0 := by
      have := (List.getElem?_eq_some_iff.1 hv).1
      simp at this; omega
    rw [this] at hv
    cases hv
    cases hvg
/-- Behind 'masses = append(masses, 0)'. -/
theorem GW.pushMass {m1 : Value} {M1 : List Int} (h : GW w2 V m vals R M wr) (hown : Own w1 w2.heap.size 3 intv m1 M1) (hg : wr.grownBy w1 m.ownBlock) (hat : m1.ownBlock = m.ownBlock ∨ ∃ g, wr.heap.size ≤ g ∧ m1.ownBlock = some g) : GW w2 V m1 vals R M1 w1 := by
  refine ⟨h.mv.onlyR hg (h.mv.2.1.apart h.ms (by decide)) (fun j v g hv hvg e => h.ap j v g hv hvg e.symm), hown, fun j v g hv hvg => ?_, below_grown h.bl hg h.bl.size (fun g e => (h.ms.lt g e).1)⟩
  rcases hat with hat | ⟨g', hg', hat⟩
  · rw [hat]; exact h.ap j v g hv hvg
  · rw [hat]
    intro e
    cases e
    obtain ⟨s, hs⟩ := getElem?_of_len h.mv.1 hv
    have := ((h.mv.2.2.1 j v s hv hs).lt g hvg).2
    omega
/-- Behind 'out[k] = append(out[k], i)'. -/
theorem GW.pushAt {G n cap k i : Nat} {v v1 : Value} {r : List Nat} (h : GW w2 (.slice (some ⟨G, 0, none⟩) n cap) m vals R M wr) (hv : vals[k]? = some v) (hr : R[k]? = some r)
    (hown : Own w1 w2.heap.size 3 natf v1 (r ++ [i])) (hg : wr.grownBy w1 v.ownBlock) (hat : v1.ownBlock = v.ownBlock ∨ ∃ g, wr.heap.size ≤ g ∧ v1.ownBlock = some g) :
    ∃ vals', GW w2 (.slice (some ⟨G, 0, none⟩) n cap) m vals' (R.set k (r ++ [i])) M (w1.setCell ⟨G, k, none⟩ v1) := by
  obtain ⟨vals', hm⟩ := h.mv.pushAt hv hr hown hg hat
  have hk : k < vals.length := (List.getElem?_eq_some_iff.1 hv).1
  have hvr := h.mv.2.2.1 k v r hv hr
  have o2 : Own w1 w2.heap.size 23 rowf (.slice (some ⟨G, 0, none⟩) n cap) vals := h.mv.2.1.only hg (h.mv.2.1.apart hvr (by decide))
  have o3 := o2.set k v1
  have e : vals' = vals.set k v1 := by
    have h1 : vals'.length = (vals.set k v1).length := by rw [hm.1, List.length_set, List.length_set, h.mv.1]
    refine List.ext_getElem h1 fun j hj1 hj2 => ?_
    have c1 := hm.2.1.cell (List.getElem?_eq_getElem hj1)
    have c2 := o3.cell (List.getElem?_eq_getElem hj2)
    have c3 := c1.symm.trans c2
    unfold rowf at c3
    injection c3
  refine ⟨vals', hm, ?_, ?_, ?_⟩
  · have m1 : Own w1 w2.heap.size 3 intv m M := h.ms.only hg (fun g hgm e => h.ap k v g hv e.symm hgm)
    exact m1.only (only_set w1 G k v1) (m1.apart o2 (by decide))
  · intro j u g hj hug
    rw [e] at hj
    by_cases hjk : k = j
    · subst hjk
      rw [List.getElem?_set_self hk] at hj
      cases hj
      rcases hat with hat | ⟨g', hg', hat⟩
      · rw [hat] at hug; exact h.ap k v g hv hug
      · rw [hat] at hug; cases hug
        intro e2
        have := (h.ms.lt _ e2).2
        omega
    · rw [List.getElem?_set_ne hjk] at hj
      exact h.ap j u g hj hug
  · have hG := (o2.lt G rfl).1
    exact (below_grown h.bl hg h.bl.size (fun g e => (hvr.lt g e).1)).setCell (p := ⟨G, k, none⟩) hG v1
/-- Behind 'masses[k] = x'. -/
theorem GW.setMass {G n cap k : Nat} {x : Int} (h : GW w2 V (.slice (some ⟨G, 0, none⟩) n cap) vals R M wr) : GW w2 V (.slice (some ⟨G, 0, none⟩) n cap) vals R (M.set k x) (wr.setCell ⟨G, k, none⟩ (.int .i64 x)) := by
  have hset := only_set wr G k (.int .i64 x)
  exact ⟨h.mv.onlyR hset (h.mv.2.1.apart h.ms (by decide)) (fun j v g hv hvg e => h.ap j v g hv hvg e.symm), h.ms.set k x, h.ap, below_grown h.bl hset h.bl.size (fun g e => (h.ms.lt g e).1)⟩
end
end
end Go.Proofs.YtejcgjdfajppgaaGreatDoor
