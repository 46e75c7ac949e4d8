/-
  Rows sorted and made distinct: the plain law, the library's two calls at rows of the call's own, and a matrix one of whose rows is replaced.
-/
import Derived.Test.YthhhcaleoiopgaaDgB
import Derived.Test.YthhhcaleoiopgaaShelf
import Derived.Sort.OwnSortedInts
namespace Go.Proofs.Ythhhcaleoiopgaa
open Go.RowKit Go.Sort
set_option linter.unusedVariables false
attribute [local go_sem ↓] Go.wp_at_zero Go.wp_at_succ

theorem strict_ext {l1 l2 : List Int} (h1 : l1.Pairwise (· < ·)) (h2 : l2.Pairwise (· < ·)) (h : ∀ x, x ∈ l1 ↔ x ∈ l2) : l1 = l2 := by
  have n1 : l1.Nodup := h1.imp (fun {a b} hab => by omega)
  have n2 : l2.Nodup := h2.imp (fun {a b} hab => by omega)
  exact List.Perm.eq_of_pairwise (le := fun a b => a < b) (fun a b _ _ h1 h2 => by omega) h1 h2 ((List.perm_ext_iff_of_nodup n1 n2).2 h)

theorem get_arr (zs : List Int) {j : Nat} (hj : j < zs.length) : zs.toArray[j]! = zs[j] := by
  simp [hj]
theorem sorted_get {zs : List Int} (h : zs.Pairwise (· ≤ ·)) {i j : Nat} (hij : i ≤ j) (hj : j < zs.length) : zs.toArray[i]! ≤ zs.toArray[j]! := by
  rw [get_arr zs hj, get_arr zs (by omega)]
  rcases Nat.lt_or_ge i j with h1 | h1
  · exact List.pairwise_iff_getElem.1 h i j (by omega) hj h1
  · have : i = j := by omega
    subst this; omega
theorem compact_lt {zs : List Int} (h : zs.Pairwise (· ≤ ·)) : (Lib.compact zs).Pairwise (· < ·) := by
  unfold Lib.compact Lib.compactUpTo
  rw [List.pairwise_map]
  have hp : ((List.range zs.length).filter (Lib.keeps zs.toArray)).Pairwise (· < ·) := List.pairwise_lt_range.filter _
  refine hp.imp_of_mem fun {a b} ha hb hab => ?_
  rw [List.mem_filter, List.mem_range] at ha hb
  have hk := hb.2
  unfold Lib.keeps at hk
  have h1 := of_decide_eq_true hk
  have h2 := sorted_get h (show a ≤ b - 1 by omega) (by omega)
  have h3 := sorted_get h (show b - 1 ≤ b by omega) hb.1
  omega
theorem compact_mem {zs : List Int} (x : Int) : x ∈ Lib.compact zs ↔ x ∈ zs := by
  unfold Lib.compact Lib.compactUpTo
  rw [List.mem_map]
  constructor
  · rintro ⟨a, ha, rfl⟩
    rw [List.mem_filter, List.mem_range] at ha
    rw [get_arr zs ha.1]
    exact List.getElem_mem _
  · intro hx
    obtain ⟨i, hi, rfl⟩ := List.mem_iff_getElem.1 hx
    clear hx
    induction i using Nat.strongRecOn with
    | ind i ih =>
      by_cases hk : Lib.keeps zs.toArray i = true
      · exact ⟨i, by rw [List.mem_filter, List.mem_range]; exact ⟨hi, hk⟩, get_arr zs hi⟩
      · have h1 : ¬ (i = 0 ∨ zs.toArray[i]! ≠ zs.toArray[i - 1]!) := fun h => hk (by unfold Lib.keeps; exact decide_eq_true h)
        have h2 : zs.toArray[i]! = zs.toArray[i - 1]! := by
          by_cases h3 : zs.toArray[i]! = zs.toArray[i - 1]!
          · exact h3
          · exact absurd (.inr h3) h1
        rw [get_arr zs hi, get_arr zs (show i - 1 < zs.length by omega)] at h2
        have := ih (i - 1) (by omega) (by omega)
        rw [h2]; exact this
theorem compact_is {l r : List Nat} (hl : l.Pairwise (· ≤ ·)) (hr : r.Pairwise (· < ·)) (hm : ∀ x, x ∈ r ↔ x ∈ l) : Lib.compact (l.map fun k : Nat => (k : Int)) = r.map fun k : Nat => (k : Int) := by
  refine strict_ext (compact_lt ?_) ?_ fun x => ?_
  · rw [List.pairwise_map]; exact hl.imp (fun {a b} h => by omega)
  · rw [List.pairwise_map]; exact hr.imp (fun {a b} h => by omega)
  · rw [compact_mem, List.mem_map, List.mem_map]
    constructor
    · rintro ⟨a, ha, rfl⟩; exact ⟨a, (hm a).2 ha, rfl⟩
    · rintro ⟨a, ha, rfl⟩; exact ⟨a, (hm a).1 ha, rfl⟩

def sortN (l : List Nat) : List Nat := l.mergeSort fun a b => decide (a ≤ b)
theorem sortN_sorted (l : List Nat) : (sortN l).Pairwise (· ≤ ·) := by
  have := List.pairwise_mergeSort (le := fun a b : Nat => decide (a ≤ b)) (fun a b c h1 h2 => by simp at *; omega) (fun a b => by simp; omega) l
  exact this.imp (fun {a b} h => by simpa using h)
theorem sortN_perm (l : List Nat) : (sortN l).Perm l := List.mergeSort_perm _ _
theorem sortN_mem (l : List Nat) (x : Nat) : x ∈ sortN l ↔ x ∈ l := (sortN_perm l).mem_iff
theorem sortN_int (l : List Nat) : (sortN l).map (fun k : Nat => (k : Int)) = (l.map fun k : Nat => (k : Int)).mergeSort fun x y => decide (x ≤ y) := by
  unfold sortN
  refine List.map_mergeSort fun a _ b _ => ?_
  by_cases h : a ≤ b
  · rw [decide_eq_true h, decide_eq_true (by omega)]
  · rw [decide_eq_false h, decide_eq_false (by omega)]
theorem nat_rows (l : List Nat) : (l.map fun k : Nat => (k : Int)).map (Value.int .i64) = l.map natf := by
  rw [List.map_map]; rfl

theorem sort_own {w : World} {base : Nat} {v : Value} {l : List Nat} (h : Own w base 3 natf v l) (hl : l.length < 4611686018427387904) :
    Calls Try.prog 61 #[v] w fun e w' => e = .returned (.tuple #[]) ∧ Own w' base 3 natf v (sortN l) ∧ w.grownBy w' v.ownBlock := by
  rcases h.2 with ⟨h1, h2⟩ | ⟨g, cap, cur, rfl, hg, hb, hc, hm, hs, ht⟩
  · have : l = [] := List.length_eq_zero_iff.1 h2
    subst this
    rw [h1]
    refine (Try.slices_Sort_int_none none 0 w).mono ?_
    rintro e w' ⟨rfl, rfl⟩
    exact ⟨rfl, by rw [show sortN [] = [] by simp [sortN]]; exact Own.nil _ _ _ _, ⟨rfl, rfl, rfl, Nat.le_refl _, fun k _ _ => rfl⟩⟩
  · have hlen : (l.map fun k : Nat => (k : Int)).length = l.length := by simp
    have hH := holds_of_blockI (ss := l.map fun k : Nat => (k : Int)) hb (by rw [hlen, nat_rows, ← ht, Nat.mul_one])
    have := Try.slices_Sort_int g 0 cap (l.map fun k : Nat => (k : Int)) w hH (h.lt g rfl).2 (by rw [hlen]; exact hl)
    rw [hlen] at this
    refine this.mono ?_
    rintro e w' ⟨rfl, q, os, rfl⟩
    refine ⟨rfl, ?_, grownBy_sortedI _⟩
    have h3 := ownsRow_sortedI (n := q) (os := os) (ts := (l.map fun k : Nat => (k : Int)).mergeSort fun x y => decide (x ≤ y)) (ss := l.map fun k : Nat => (k : Int)) (List.length_mergeSort _) hg hb (by rw [hlen]; exact hc) hm hs
    rw [← sortN_int, nat_rows, hlen] at h3
    show World.ownsRow _ _ _ _ _ _ _
    rw [(sortN_perm l).length_eq, ← sortN_int]
    exact h3

theorem compact_own {w : World} {base : Nat} {v : Value} {l r : List Nat} (h : Own w base 3 natf v l) (hl : l.length ≤ 9223372036854775807) (hls : l.Pairwise (· ≤ ·)) (hr : r.Pairwise (· < ·)) (hm : ∀ x, x ∈ r ↔ x ∈ l) :
    Calls Try.prog 62 #[v] w fun e w' => ∃ v', e = .returned v' ∧ Own w' base 3 natf v' r ∧ v'.ownBlock = v.ownBlock ∧ w.grownBy w' v.ownBlock := by
  rcases h.2 with ⟨h1, h2⟩ | ⟨g, cap, cur, rfl, hg, hb, hc, hmx, hs, ht⟩
  · have : l = [] := List.length_eq_zero_iff.1 h2
    subst this
    have hr0 : r = [] := List.eq_nil_iff_forall_not_mem.2 fun x hx => by have := (hm x).1 hx; cases this
    subst hr0
    rw [h1]
    refine (Try.slices_Compact_int_empty none 0 w).mono ?_
    rintro e w' ⟨rfl, rfl⟩
    exact ⟨_, rfl, Own.nil _ _ _ _, rfl, ⟨rfl, rfl, rfl, Nat.le_refl _, fun k _ _ => rfl⟩⟩
  · have hlen : (l.map fun k : Nat => (k : Int)).length = l.length := by simp
    have hH := holds_of_blockI (ss := l.map fun k : Nat => (k : Int)) hb (by rw [hlen, nat_rows, ← ht, Nat.mul_one])
    have hcm := compact_is hls hr hm
    have hle : r.length ≤ l.length := by
      have h1 : (Lib.compact (l.map fun k : Nat => (k : Int))).length ≤ (l.map fun k : Nat => (k : Int)).length := by
        unfold Lib.compact Lib.compactUpTo
        rw [List.length_map]
        exact Nat.le_trans (List.length_filter_le _ _) (by simp)
      rw [hcm] at h1
      simpa using h1
    have := Try.slices_Compact_int g 0 cap (l.map fun k : Nat => (k : Int)) w hH (by rw [hlen]; exact hl) (by rw [hlen]; exact hc)
    rw [hlen, hcm, List.length_map] at this
    refine this.mono ?_
    rintro e w' ⟨rfl, q, rfl⟩
    refine ⟨_, rfl, ?_, rfl, ?_⟩
    · have h3 := heap_sortedI (n := q) (os := #[]) (r.map (fun k : Nat => (k : Int)) ++ List.replicate (l.length - r.length) 0).toArray hb
      rw [grow_empty] at h3
      refine ⟨by simp, .inr ⟨g, cap, _, rfl, hg, h3, by omega, hmx, by simp [putCells, hs], ?_⟩⟩
      have h4 := take_putCellsI cur (r.map (fun k : Nat => (k : Int)) ++ List.replicate (l.length - r.length) 0) (by simp; omega)
      have h5 := congrArg (List.take r.length) h4
      rw [List.take_take, Nat.min_eq_left (by simp)] at h5
      rw [Nat.mul_one, h5, List.map_append, List.take_append_of_le_length (by simp), List.take_of_length_le (by simp), nat_rows]
    · have := grownBy_sortedI (w := w) (g := g) (n := q) (os := #[]) (r.map (fun k : Nat => (k : Int)) ++ List.replicate (l.length - r.length) 0).toArray
      rw [grow_empty] at this
      exact this

/-! ### a matrix one of whose rows is replaced -/
theorem MatVals.turn {w w1 : World} {base : Nat} {V : Value} {vals : List Value} {rows : List (List Nat)} (h : MatVals w base V vals rows) {k : Nat} {v : Value} {r r1 : List Nat} (hv : vals[k]? = some v) (hr : rows[k]? = some r)
    (hown : Own w1 base 3 natf v r1) (hg : w.grownBy w1 v.ownBlock) : MatVals w1 base V vals (rows.set k r1) := by
  obtain ⟨h1, h2, h3, h4⟩ := h
  have hvr := h3 k v r hv hr
  have hk : k < vals.length := (List.getElem?_eq_some_iff.1 hv).1
  have o2 : Own w1 base 23 rowf V vals := h2.only hg (h2.apart hvr (by decide))
  refine ⟨by simp [h1], o2, fun j u s hu hs => ?_, h4⟩
  by_cases hj : k = j
  · subst hj
    rw [hv] at hu
    cases hu
    rw [List.getElem?_set_self (by omega)] at hs
    cases hs
    exact hown
  · rw [List.getElem?_set_ne hj] at hs
    exact (h3 j u s hu hs).only hg (fun g hgu he => h4 j k u v g (fun e => hj e.symm) hu hv hgu he.symm)
theorem MatVals.put {w w1 : World} {base G n cap : Nat} {vals : List Value} {rows : List (List Nat)} (h : MatVals w base (.slice (some ⟨G, 0, none⟩) n cap) vals rows) {k : Nat} {v v1 : Value} {r r1 : List Nat} (hv : vals[k]? = some v) (hr : rows[k]? = some r)
    (hown : Own w1 base 3 natf v1 r1) (hg : w.grownBy w1 v.ownBlock) (hat : v1.ownBlock = v.ownBlock) :
    MatVals (w1.setCell ⟨G, k, none⟩ v1) base (.slice (some ⟨G, 0, none⟩) n cap) (vals.set k v1) (rows.set k r1) := by
  obtain ⟨h1, h2, h3, h4⟩ := h
  have hvr := h3 k v r hv hr
  have hk : k < vals.length := (List.getElem?_eq_some_iff.1 hv).1
  have o2 : Own w1 base 23 rowf (.slice (some ⟨G, 0, none⟩) n cap) vals := h2.only hg (h2.apart hvr (by decide))
  have o3 := o2.set k v1
  have hset : w1.grownBy (w1.setCell ⟨G, k, none⟩ v1) (some G) := only_set w1 G k v1
  have kept : ∀ (u : Value) (s : List Nat), Own w1 base 3 natf u s → Own (w1.setCell ⟨G, k, none⟩ v1) base 3 natf u s :=
    fun u s hu => hu.only hset (hu.apart o2 (by decide))
  have old : ∀ (j : Nat) u, j ≠ k → vals[j]? = some u → ∀ g, u.ownBlock = some g → some g ≠ v.ownBlock := by
    intro j u hj hu g hgu he
    exact h4 j k u v g hj hu hv hgu he.symm
  refine ⟨by simp [h1], o3, fun j u s hu hs => ?_, fun i j vi vj g hij hi hj hgi => ?_⟩
  · by_cases hj : k = j
    · subst hj
      rw [List.getElem?_set_self hk] at hu
      cases hu
      rw [List.getElem?_set_self (by omega)] at hs
      cases hs
      exact kept _ _ hown
    · rw [List.getElem?_set_ne hj] at hu hs
      exact kept _ _ ((h3 j u s hu hs).only hg (old j u (fun e => hj e.symm) hu))
  · by_cases hi' : k = i
    · subst hi'
      rw [List.getElem?_set_self hk] at hi
      cases hi
      rw [List.getElem?_set_ne hij] at hj
      intro hgj
      exact old j vj (fun e => hij e.symm) hj g hgj (by rw [← hat, hgi])
    · rw [List.getElem?_set_ne hi'] at hi
      by_cases hj' : k = j
      · subst hj'
        rw [List.getElem?_set_self hk] at hj
        cases hj
        intro hgj
        exact old i vi (fun e => hi' e.symm) hi g hgi (by rw [← hat, hgj])
      · rw [List.getElem?_set_ne hj'] at hj
        exact h4 i j vi vj g hij hi hj hgi

/-! ### the nodes that follow, ascending -/
def nextsS (n : Nat) (es : List (Nat × Nat)) (i : Nat) : List Nat := (List.range n).filter fun k => decide ((i, k) ∈ es)
def nxS (n : Nat) (es : List (Nat × Nat)) : List (List Nat) := (List.range n).map (nextsS n es)
theorem nextsS_mem {n : Nat} {es : List (Nat × Nat)} {i k : Nat} : k ∈ nextsS n es i ↔ k < n ∧ (i, k) ∈ es := by
  unfold nextsS
  rw [List.mem_filter, List.mem_range, decide_eq_true_iff]
theorem nextsS_sorted (n : Nat) (es : List (Nat × Nat)) (i : Nat) : (nextsS n es i).Pairwise (· < ·) := List.pairwise_lt_range.filter _
theorem nextsS_len (n : Nat) (es : List (Nat × Nat)) (i : Nat) : (nextsS n es i).length ≤ n := by
  unfold nextsS
  exact Nat.le_trans (List.length_filter_le _ _) (by simp)
theorem nxS_len (n : Nat) (es : List (Nat × Nat)) : (nxS n es).length = n := by simp [nxS]
theorem nxS_get {n : Nat} (es : List (Nat × Nat)) {i : Nat} (hi : i < n) : (nxS n es)[i]? = some (nextsS n es i) := by
  unfold nxS
  rw [List.getElem?_map, List.getElem?_range hi]; rfl
def midS (n : Nat) (es : List (Nat × Nat)) (t : Nat) : List (List Nat) := (List.range n).map fun j => if j < t then nextsS n es j else nextsM es j
theorem midS_len (n : Nat) (es : List (Nat × Nat)) (t : Nat) : (midS n es t).length = n := by simp [midS]
theorem midS_get {n : Nat} (es : List (Nat × Nat)) (t : Nat) {i : Nat} (hi : i < n) : (midS n es t)[i]? = some (if i < t then nextsS n es i else nextsM es i) := by
  unfold midS
  rw [List.getElem?_map, List.getElem?_range hi]; rfl
theorem midS_zero (n : Nat) (es : List (Nat × Nat)) : midS n es 0 = nxRows n es := by
  unfold midS nxRows
  refine List.map_congr_left fun j _ => ?_
  rw [if_neg (by omega)]
theorem midS_all (n : Nat) (es : List (Nat × Nat)) : midS n es n = nxS n es := by
  unfold midS nxS
  refine List.map_congr_left fun j hj => ?_
  rw [List.mem_range] at hj
  rw [if_pos hj]
theorem midS_step (n : Nat) (es : List (Nat × Nat)) (t : Nat) : midS n es (t + 1) = (midS n es t).set t (nextsS n es t) := by
  refine List.ext_getElem? fun j => ?_
  by_cases hj : j < n
  · rw [midS_get _ _ hj]
    by_cases e : t = j
    · subst e
      rw [List.getElem?_set_self (by rw [midS_len]; exact hj), if_pos (by omega)]
    · rw [List.getElem?_set_ne e, midS_get _ _ hj]
      by_cases h : j < t
      · rw [if_pos h, if_pos (by omega)]
      · rw [if_neg h, if_neg (by omega)]
  · rw [List.getElem?_eq_none (by rw [midS_len]; omega), List.getElem?_eq_none (by rw [List.length_set, midS_len]; omega)]
end Go.Proofs.Ythhhcaleoiopgaa
