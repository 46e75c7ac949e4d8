/-
  Graph: indices, other, the edges at each node (beside).
-/
import Derived.Test.YtcaeemcobgopmaaGrB
namespace Go.Proofs.Ytcaeemcobgopmaa
open Go.RowKit
set_option linter.unusedVariables false

set_option maxHeartbeats 400000 in
theorem indices_any (v : Value) (l : List Bool) (want : Bool) (w : World) (h : Bools w v l) (hl : l.length ≤ 1000000) :
    Calls Try.prog 41 #[v, .bool want] w fun e w' => ∃ u, e = .returned u ∧ Own w' w.heap.size 3 natf u (idxs l want) ∧ Below w.heap.size w w' := by
  obtain ⟨ao, cap, rfl, h⟩ := h
  go_enter Try.func41, Try.ntmps41
  go_wp2
  go_loopw [5, 10] (fun v i wr => ∃ k : Nat, k ≤ l.length ∧ i = .int .i64 k ∧ Hid (Own wr w.heap.size 3 natf v (idxs (l.take k) want)) ∧ Below w.heap.size w wr) (fun _ i _ => l.length - (intOf i).toNat)
  case atStart => exact ⟨0, Nat.zero_le _, rfl, Own.nil _ _ _ _, Below.refl _ _⟩
  case round =>
    obtain ⟨k, hk, rfl, hv, hB⟩ := hrel
    have hz := hB.size
    by_cases hlt : k < l.length
    · obtain ⟨b, off, rfl, hbl, hc⟩ := h (by omega)
      obtain ⟨x, hx⟩ : ∃ y, l[k]? = some y := ⟨_, List.getElem?_eq_getElem hlt⟩
      have hc1 := (hB.cell (p := ⟨b, off + k, none⟩) hbl).trans (hc k _ hx)
      have HN := Lib.hid (idxs_snoc l want k x hx)
      have hlen : (idxs (l.take k) want).length + 1 ≤ 1099511627776 := by
        have : (idxs (l.take k) want).length ≤ k := by
          unfold idxs
          refine Nat.le_trans (List.length_filter_le _ _) ?_
          simp; omega
        omega
      clear hx hc h
      by_cases hxw : x = want
      · subst hxw
        have hb : (x == x) = true := by simp
        have hvl := hv.out.lt
        go_wp2_with (first
          | (at_builtin; refine wpList_push wr rfl _ _ 25 rfl 3 8 elemInt w.heap.size natf _ (idxs (l.take k) x) k rfl hv.out rfl rfl hlen (by omega) hz ?_; intro v' w' hown' hg _))
        go_roundw
        case rel => exact ⟨k + 1, by omega, by go_num, by rw [HN.out, if_pos rfl]; exact hown', below_grown hB hg hz (fun g hg => (hvl g hg).1)⟩
        case measure => simp [intOf]; omega
      · have hb : (x == want) = false := by simpa using hxw
        have HX := Lib.hid hxw
        clear hxw
        go_wp2
        go_roundw
        case rel => exact ⟨k + 1, by omega, by go_num, by rw [HN.out, if_neg HX.out]; exact hv, hB⟩
        case measure => simp [intOf]; omega
    · clear h
      go_wp2
      go_ret
      have hkl : l.take k = l := List.take_of_length_le (by omega)
      rw [hkl] at hv
      exact ⟨_, rfl, hv.out, hB⟩

theorem other_any (a b c : Int) (w : World) (ha : 0 ≤ a ∧ a ≤ 4000) (hb : 0 ≤ b ∧ b ≤ 4000) (hc : 0 ≤ c ∧ c ≤ 4000) :
    Calls Try.prog 40 #[.agg #[.int .i64 a, .int .i64 b], .int .i64 c] w fun e w' => e = .returned (.int .i64 (a + b - c)) ∧ Below w.heap.size w w' := by
  go_enter Try.func40, Try.ntmps40
  go_wp2
  go_ret
  exact ⟨rfl, by go_grown⟩

/-! ### the edges at each node -/
def addAt (rows : List (List Nat)) (k y : Nat) : List (List Nat) := rows.set k (rows.getD k [] ++ [y])
def besTo (n : Nat) (ns : List (Nat × Nat)) (used : Nat → Bool) : Nat → List (List Nat)
  | 0 => List.replicate n []
  | k + 1 => match ns[k]? with
    | some e => if used k then addAt (addAt (besTo n ns used k) e.1 k) e.2 k else besTo n ns used k
    | none => besTo n ns used k

theorem addAt_len (rows : List (List Nat)) (k y : Nat) : (addAt rows k y).length = rows.length := by simp [addAt]
theorem besTo_len (n : Nat) (ns : List (Nat × Nat)) (used : Nat → Bool) (k : Nat) : (besTo n ns used k).length = n := by
  induction k with
  | zero => simp [besTo]
  | succ k ih =>
    rw [besTo]
    split
    · split
      · rw [addAt_len, addAt_len, ih]
      · exact ih
    · exact ih
theorem addAt_get {rows : List (List Nat)} {k y : Nat} {r : List Nat} (hr : rows[k]? = some r) : addAt rows k y = rows.set k (r ++ [y]) := by
  unfold addAt; simp [List.getD, hr]

/-- No row is longer than the number of edges looked at twice. -/
theorem addAt_rows {rows : List (List Nat)} {m k y : Nat} (h : ∀ r ∈ rows, r.length ≤ m) : ∀ r ∈ addAt rows k y, r.length ≤ m + 1 := by
  intro r hr
  obtain ⟨j, hj, rfl⟩ := List.getElem_of_mem hr
  unfold addAt at hj ⊢
  by_cases e : k = j
  · subst e
    rw [List.getElem_set_self]
    simp only [List.length_append, List.length_singleton]
    have hk : k < rows.length := by simpa using hj
    have : rows.getD k [] ∈ rows := by simp [List.getD, hk]
    have := h _ this
    omega
  · rw [List.getElem_set_ne e]
    have := h _ (List.getElem_mem (l := rows) (n := j) (by simpa using hj))
    omega
theorem besTo_rows (n : Nat) (ns : List (Nat × Nat)) (used : Nat → Bool) (k : Nat) : ∀ r ∈ besTo n ns used k, r.length ≤ 2 * k := by
  induction k with
  | zero => intro r hr; rw [besTo] at hr; rw [(List.mem_replicate.1 hr).2]; simp
  | succ k ih =>
    intro r hr
    rw [besTo] at hr
    split at hr
    · split at hr
      · have := addAt_rows (addAt_rows ih) r hr
        omega
      · have := ih r hr; omega
    · have := ih r hr; omega


end Go.Proofs.Ytcaeemcobgopmaa
