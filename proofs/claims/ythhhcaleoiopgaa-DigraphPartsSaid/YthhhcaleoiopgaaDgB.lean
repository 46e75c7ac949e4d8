/-
  Directed graphs: order, the rows of nodes that follow.
-/
import Derived.Test.YthhhcaleoiopgaaDgA
import Derived.Test.YthhhcaleoiopgaaBes
import Derived.Test.YthhhcaleoiopgaaRep
import Derived.Deep.LoopGhost
namespace Go.Proofs.Ythhhcaleoiopgaa
open Go.RowKit
set_option linter.unusedVariables false
attribute [local go_sem ↓] Go.wp_at_zero Go.wp_at_succ

theorem nextsM_snoc (es : List (Nat × Nat)) (e : Nat × Nat) (i : Nat) : nextsM (es ++ [e]) i = if e.1 = i then nextsM es i ++ [e.2] else nextsM es i := by
  unfold nextsM
  rw [List.filter_append, List.filter_cons, List.filter_nil]
  by_cases h : e.1 = i
  · rw [if_pos (by simpa using h), if_pos h]; simp
  · rw [if_neg (by simpa using h), if_neg h]; simp
theorem nextsM_len (es : List (Nat × Nat)) (i : Nat) : (nextsM es i).length ≤ es.length := by
  unfold nextsM
  rw [List.length_map]; exact List.length_filter_le _ _
def nxRows (n : Nat) (es : List (Nat × Nat)) : List (List Nat) := (List.range n).map (nextsM es)
theorem nxRows_len (n : Nat) (es : List (Nat × Nat)) : (nxRows n es).length = n := by simp [nxRows]
theorem nxRows_get {n : Nat} (es : List (Nat × Nat)) {i : Nat} (hi : i < n) : (nxRows n es)[i]? = some (nextsM es i) := by
  unfold nxRows
  rw [List.getElem?_map, List.getElem?_range hi]; rfl
theorem nxRows_nil (n : Nat) : nxRows n [] = List.replicate n [] := by
  refine List.ext_getElem (by simp [nxRows]) fun i h1 h2 => ?_
  simp [nxRows, nextsM]
theorem nxRows_snoc {n : Nat} (es : List (Nat × Nat)) (x y : Nat) (hx : x < n) : nxRows n (es ++ [(x, y)]) = addAt (nxRows n es) x y := by
  refine List.ext_getElem? fun i => ?_
  rcases Nat.lt_or_ge i n with hi | hi
  · rw [nxRows_get _ hi, addAt_getElem (nxRows_get es hi), nextsM_snoc]
  · rw [List.getElem?_eq_none (by rw [nxRows_len]; exact hi), List.getElem?_eq_none (by rw [addAt_len, nxRows_len]; exact hi)]

/-- One round of a loop over edges whose box is made anew, and the row's append. -/
theorem take_edge {es : List (Nat × Nat)} {k : Nat} {e : Nat × Nat} (h : es[k]? = some e) : es.take (k + 1) = es.take k ++ [e] := by
  have := List.getElem?_eq_some_iff.1 h
  rw [List.take_succ_eq_append_getElem this.1, this.2]

def inDeg (es : List (Nat × Nat)) (i : Nat) : Int := ((es.countP fun e => decide (e.2 = i) : Nat) : Int)
def degs (n : Nat) (es : List (Nat × Nat)) : List Int := (List.range n).map (inDeg es)
theorem degs_len (n : Nat) (es : List (Nat × Nat)) : (degs n es).length = n := by simp [degs]
theorem degs_get {n : Nat} (es : List (Nat × Nat)) {i : Nat} (hi : i < n) : (degs n es)[i]? = some (inDeg es i) := by
  unfold degs
  rw [List.getElem?_map, List.getElem?_range hi]; rfl
theorem inDeg_snoc (es : List (Nat × Nat)) (e : Nat × Nat) (i : Nat) : inDeg (es ++ [e]) i = inDeg es i + if e.2 = i then 1 else 0 := by
  unfold inDeg
  rw [List.countP_append, List.countP_cons, List.countP_nil]
  by_cases h : e.2 = i <;> simp [h]
theorem degs_snoc {n : Nat} (es : List (Nat × Nat)) (e : Nat × Nat) (he : e.2 < n) : degs n (es ++ [e]) = (degs n es).set e.2 (inDeg es e.2 + 1) := by
  refine List.ext_getElem? fun i => ?_
  by_cases hi : i < n
  · rw [degs_get _ hi, inDeg_snoc]
    by_cases h : e.2 = i
    · subst h
      rw [List.getElem?_set_self (by rw [degs_len]; exact he), if_pos rfl]
    · rw [List.getElem?_set_ne h, degs_get _ hi, if_neg h]; simp
  · rw [List.getElem?_eq_none (by rw [degs_len]; omega), List.getElem?_eq_none (by rw [List.length_set, degs_len]; omega)]
theorem inDeg_le (es : List (Nat × Nat)) (i : Nat) : 0 ≤ inDeg es i ∧ inDeg es i ≤ es.length := by
  unfold inDeg
  have := List.countP_le_length (p := fun e : Nat × Nat => decide (e.2 = i)) (l := es)
  omega

/-! ### the waiting numbers -/
def waitL (n : Nat) (es : List (Nat × Nat)) (D : List Nat) : List Int := (List.range n).map (waitI es D)
theorem waitL_len (n : Nat) (es : List (Nat × Nat)) (D : List Nat) : (waitL n es D).length = n := by simp [waitL]
theorem waitL_get {n : Nat} (es : List (Nat × Nat)) (D : List Nat) {i : Nat} (hi : i < n) : (waitL n es D)[i]? = some (waitI es D i) := by
  unfold waitL
  rw [List.getElem?_map, List.getElem?_range hi]; rfl
theorem waitL_nil (n : Nat) (es : List (Nat × Nat)) : degs n es = waitL n es [] := by
  unfold degs waitL
  refine List.map_congr_left fun i _ => ?_
  unfold inDeg waitI waitN
  simp
theorem waitL_index (n : Nat) (es : List (Nat × Nat)) (D : List Nat) : idxOf (waitL n es D) 0 = match nextFree n es D with | some i => (i : Int) | none => -1 := by
  cases h : nextFree n es D with
  | some i =>
    obtain ⟨h1, h2, h3⟩ := nextFree_some h
    refine idxOf_hit _ _ i (fun j y hj hy => ?_) (by rw [waitL_get _ _ h1, waitI_zero.2 h2])
    rw [waitL_get _ _ (by omega)] at hy
    cases hy
    intro e
    rw [waitI_zero, h3 j hj] at e
    cases e
  | none =>
    refine idxOf_miss _ _ (fun j y hy => ?_)
    have hj : j < n := by have := (List.getElem?_eq_some_iff.1 hy).1; rw [waitL_len] at this; exact this
    rw [waitL_get _ _ hj] at hy
    cases hy
    intro e
    rw [waitI_zero, nextFree_none h j hj] at e
    cases e
def midI (es : List (Nat × Nat)) (D : List Nat) (i t j : Nat) : Int := if j ∈ D ++ [i] then -1 else (waitN es D j : Int) - (((nextsM es i).take t).count j : Int)
def midL (n : Nat) (es : List (Nat × Nat)) (D : List Nat) (i t : Nat) : List Int := (List.range n).map (midI es D i t)
theorem midL_len (n : Nat) (es : List (Nat × Nat)) (D : List Nat) (i t : Nat) : (midL n es D i t).length = n := by simp [midL]
theorem midL_get {n : Nat} (es : List (Nat × Nat)) (D : List Nat) (i t : Nat) {j : Nat} (hj : j < n) : (midL n es D i t)[j]? = some (midI es D i t j) := by
  unfold midL
  rw [List.getElem?_map, List.getElem?_range hj]; rfl
theorem midL_zero {n : Nat} (es : List (Nat × Nat)) (D : List Nat) {i : Nat} (hi : i < n) : midL n es D i 0 = (waitL n es D).set i (-1) := by
  refine List.ext_getElem? fun j => ?_
  by_cases hj : j < n
  · rw [midL_get _ _ _ _ hj]
    by_cases e : i = j
    · subst e
      rw [List.getElem?_set_self (by rw [waitL_len]; exact hi)]
      simp [midI]
    · rw [List.getElem?_set_ne e, waitL_get _ _ hj]
      have e' : ¬ j = i := fun h => e h.symm
      unfold midI waitI
      simp [e']
  · rw [List.getElem?_eq_none (by rw [midL_len]; omega), List.getElem?_eq_none (by rw [List.length_set, waitL_len]; omega)]
theorem midL_all {n : Nat} (es : List (Nat × Nat)) (D : List Nat) {i : Nat} (hi : i ∉ D) : midL n es D i (nextsM es i).length = waitL n es (D ++ [i]) := by
  unfold midL waitL
  refine List.map_congr_left fun j _ => ?_
  unfold midI waitI
  rw [List.take_length]
  by_cases h : j ∈ D ++ [i]
  · rw [if_pos h, if_pos h]
  · rw [if_neg h, if_neg h]
    have := waitN_done (es := es) (j := j) hi
    omega
theorem midL_step {n : Nat} (es : List (Nat × Nat)) (D : List Nat) {i t k : Nat} (hk : (nextsM es i)[t]? = some k) (hkn : k < n) (hno : k ∉ D ++ [i]) : midL n es D i (t + 1) = (midL n es D i t).set k (midI es D i t k - 1) := by
  have ht := List.getElem?_eq_some_iff.1 hk
  refine List.ext_getElem? fun j => ?_
  by_cases hj : j < n
  · rw [midL_get _ _ _ _ hj]
    by_cases e : k = j
    · subst e
      rw [List.getElem?_set_self (by rw [midL_len]; exact hj)]
      unfold midI
      rw [if_neg hno, if_neg hno, List.take_succ_eq_append_getElem ht.1, List.count_append, ht.2]
      simp
      omega
    · rw [List.getElem?_set_ne e, midL_get _ _ _ _ hj]
      unfold midI
      rw [List.take_succ_eq_append_getElem ht.1, List.count_append, ht.2]
      have : List.count j [k] = 0 := by simp [e]
      rw [this]; rfl
  · rw [List.getElem?_eq_none (by rw [midL_len]; omega), List.getElem?_eq_none (by rw [List.length_set, midL_len]; omega)]
theorem nextsM_mem {es : List (Nat × Nat)} {i k : Nat} : k ∈ nextsM es i ↔ (i, k) ∈ es := by
  unfold nextsM
  rw [List.mem_map]
  constructor
  · rintro ⟨e, he, rfl⟩
    rw [List.mem_filter] at he
    have : e.1 = i := by simpa using he.2
    rw [← this]; exact he.1
  · intro h
    exact ⟨(i, k), List.mem_filter.2 ⟨h, by simp⟩, rfl⟩
theorem midI_bd {es : List (Nat × Nat)} {D : List Nat} {i t j : Nat} (h : es.length ≤ 1000) : -1001 ≤ midI es D i t j ∧ midI es D i t j ≤ 1000 := by
  unfold midI
  have h1 := waitN_le es D j
  have h2 : ((nextsM es i).take t).count j ≤ ((nextsM es i).take t).length := List.count_le_length
  have h3 := nextsM_len es i
  rw [List.length_take] at h2
  split <;> omega

structure OAt (w w1 w2 : World) (n : Nat) (A : List Int) (D : List Nat) (v : Value) (wr : World) : Prop where
  keep : ∀ g, w1.heap.size ≤ g → g < w2.heap.size → wr.heap[g]? = w2.heap[g]?
  sz : w2.heap.size ≤ wr.heap.size
  waits : Own wr w.heap.size 3 intf (.slice (some ⟨w.heap.size, 0, none⟩) n n) A
  out : Own wr w2.heap.size 3 natf v D
  below : Below w.heap.size w wr
  lo : w.heap.size < w1.heap.size ∧ w1.heap.size ≤ w2.heap.size
theorem OAt.set {w w1 w2 wr : World} {n : Nat} {A : List Int} {D : List Nat} {v : Value} (h : OAt w w1 w2 n A D v wr) (i : Nat) (x : Int) : OAt w w1 w2 n (A.set i x) D v (wr.setCell ⟨w.heap.size, i, none⟩ (.int .i64 x)) := by
  have hl := h.lo
  refine ⟨fun g h1 h2 => ?_, by simpa using h.sz, h.waits.set i x, h.out.only (only_set wr w.heap.size i (.int .i64 x)) (fun g hg e => ?_), h.below.setCell (p := ⟨w.heap.size, i, none⟩) (Nat.le_refl _) _, hl⟩
  · rw [heap_setCell_other wr ⟨w.heap.size, i, none⟩ g _ (fun e => by have : g = w.heap.size := e; omega)]
    exact h.keep g h1 h2
  · injection e with e
    have := (h.out.lt g hg).1
    omega
theorem OAt.push {w w1 w2 wr w3 : World} {n : Nat} {A : List Int} {D : List Nat} {v v' : Value} {i : Nat} (h : OAt w w1 w2 n A D v wr) (ho : Own w3 w2.heap.size 3 natf v' (D ++ [i])) (hg : wr.grownBy w3 v.ownBlock) : OAt w w1 w2 n A (D ++ [i]) v' w3 := by
  have hl := h.lo
  have hs := h.sz
  refine ⟨fun g h1 h2 => ?_, Nat.le_trans h.sz hg.size, h.waits.only hg (fun g e e' => ?_), ho, below_grown h.below hg h.below.size (fun g e => by have := (h.out.lt g e).1; omega), hl⟩
  · rw [hg.block g (by omega) (fun e => by have := (h.out.lt g e.symm).1; omega)]
    exact h.keep g h1 h2
  · cases e
    have : w2.heap.size ≤ w.heap.size := (h.out.lt _ e'.symm).1
    omega

def OrderPost (w : World) (n : Nat) (es : List (Nat × Nat)) (e : Ending) (w' : World) : Prop :=
  (match orderOf n es with
    | some D => ∃ v, e = .returned (.tuple #[v, .bool true]) ∧ Own w' w.heap.size 3 natf v D
    | none => e = .returned (.tuple #[.slice none 0 0, .bool false])) ∧ Below w.heap.size w w'

end Go.Proofs.Ythhhcaleoiopgaa
