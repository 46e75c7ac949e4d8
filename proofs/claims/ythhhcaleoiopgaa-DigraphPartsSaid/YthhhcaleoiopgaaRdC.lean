/-
  Reference 08: Weights, Next; plain words for Longest.
-/
import Derived.Test.YthhhcaleoiopgaaRdA
import Derived.Test.YthhhcaleoiopgaaLgC
namespace Go.Proofs.Ythhhcaleoiopgaa
open Go.RowKit
set_option linter.unusedVariables false
attribute [local go_sem ↓] Go.wp_at_zero Go.wp_at_succ

def weightsRes (n : Nat) (l : List Int) : Int := if l.length ≠ n then 3 else if l.any badW then 2 else 0

set_option maxHeartbeats 400000 in
theorem rweights_any (n : Nat) (u : Value) (l : List Int) (w : World) (hw : Ints w u l) (hn : n ≤ 100000) (hlw : l.length ≤ 140737488355328) :
    Calls Try.prog 14 #[.int .i64 (n : Int), u] w fun e w' => e = .returned (.int .i64 (weightsRes n l)) ∧ w = w' := by
  obtain ⟨uo, uc, rfl, hi⟩ := hw
  have HI := Lib.hid hi
  clear hi
  by_cases hl : l.length = n
  · have hq : ((l.length : Int) != (n : Int)) = false := bne_no (by omega)
    have HL := Lib.hid hl
    rw [hl] at hq HI ⊢
    clear hl
    go_enter Try.func14, Try.ntmps14
    go_wp2
    go_loop [5] (fun s5 => ∃ i : Nat, i ≤ n ∧ s5 = .int .i64 (i : Int) ∧ Hid (∀ (j : Nat) y, j < i → l[j]? = some y → badW y = false)) (fun s5 => n - (intOf s5).toNat)
    case atStart => exact ⟨0, Nat.zero_le _, rfl, fun j y h => by omega⟩
    case round =>
      obtain ⟨i, hin, rfl, HT⟩ := hrel
      by_cases hlt : i < n
      · obtain ⟨b, off, rfl, hbl, hc⟩ := HI.out (by omega)
        obtain ⟨y, hy⟩ : ∃ y, l[i]? = some y := ⟨_, List.getElem?_eq_getElem (by have := HL.out; omega)⟩
        have c1 := hc i y hy
        have HY := Lib.hid hy
        have i0 : (0 : Int) ≤ (i : Int) := Int.natCast_nonneg _
        have i1 : (i : Int) < (n : Int) := by omega
        clear hc hy
        by_cases h1 : y < 0
        · have HR := Lib.hid (show weightsRes n l = 2 by unfold weightsRes; rw [if_neg (by have := HL.out; omega), if_pos (List.any_eq_true.2 ⟨y, List.mem_of_getElem? HY.out, dec_yes (.inl h1)⟩)])
          go_wp2
          go_ret
          exact ⟨ret_int HR.out.symm, rfl⟩
        · by_cases h2 : 1073741824 < y
          · have HR := Lib.hid (show weightsRes n l = 2 by unfold weightsRes; rw [if_neg (by have := HL.out; omega), if_pos (List.any_eq_true.2 ⟨y, List.mem_of_getElem? HY.out, dec_yes (.inr h2)⟩)])
            go_wp2
            go_ret
            exact ⟨ret_int HR.out.symm, rfl⟩
          · have HN : Hid (∀ (j : Nat) y, j < i + 1 → l[j]? = some y → badW y = false) := fun j z hj hz => by
              by_cases e : j = i
              · subst e; rw [HY.out] at hz; cases hz; exact dec_no (by omega)
              · exact HT.out j z (by omega) hz
            go_wp2
            go_round
            case rel => exact ⟨i + 1, by omega, by go_num, HN.out⟩
            case measure => simp [intOf]; omega
      · obtain rfl : i = n := by omega
        have HA := Lib.hid (show l.any badW = false from List.any_eq_false.2 fun x hx => by
          obtain ⟨j, hj, rfl⟩ := List.getElem_of_mem hx
          rw [HT.out j _ (by have := HL.out; omega) (List.getElem?_eq_getElem hj)]; simp)
        have HR := Lib.hid (show weightsRes i l = 0 by unfold weightsRes; rw [if_neg (by have := HL.out; omega), if_neg (by rw [HA.out]; simp)])
        go_wp2
        go_ret
        exact ⟨ret_int HR.out.symm, rfl⟩
  · have hq : ((l.length : Int) != (n : Int)) = true := bne_yes (by omega)
    have HR := Lib.hid (show weightsRes n l = 3 by unfold weightsRes; rw [if_pos hl])
    clear hl
    go_enter Try.func14, Try.ntmps14
    go_wp2
    go_ret
    exact ⟨ret_int HR.out.symm, rfl⟩

/-! ### Next -/
def toB (es : List (Nat × Nat)) (x k : Nat) : Bool := decide ((x, k) ∈ es)
theorem toB_step {es : List (Nat × Nat)} {j : Nat} {e : Nat × Nat} (he : es[j]? = some e) (x k : Nat) : toB (es.take (j + 1)) x k = if k = e.2 ∧ e.1 = x then true else toB (es.take j) x k := by
  have hlt := (List.getElem?_eq_some_iff.1 he).1
  unfold toB
  rw [List.take_succ_eq_append_getElem hlt, (List.getElem?_eq_some_iff.1 he).2]
  by_cases h : k = e.2 ∧ e.1 = x
  · rw [if_pos h]
    refine dec_yes ?_
    obtain ⟨rfl, rfl⟩ := h
    simp
  · rw [if_neg h]
    refine decide_eq_decide.2 ⟨fun hm => ?_, fun hm => by simp [hm]⟩
    rcases List.mem_append.1 hm with h1 | h1
    · exact h1
    · have := List.mem_singleton.1 h1
      exact absurd ⟨by rw [← this], by rw [← this]⟩ h

set_option maxRecDepth 100000 in
set_option maxHeartbeats 1000000 in
theorem rnext_any (n x : Nat) (v : Value) (es : List (Nat × Nat)) (w : World) (hg : Dg w n v es) (hx : x ≤ 100000) :
    Calls Try.prog 49 #[.int .i64 (n : Int), v, .int .i64 (x : Int)] w fun e w' => e = .returned (.slice (some ⟨w.heap.size, 0, none⟩) n n) ∧ Own w' w.heap.size 4 boolf (.slice (some ⟨w.heap.size, 0, none⟩) n n) (fl n (toB es x)) ∧ Below w.heap.size w w' := by
  have hn60 := hg.n_le
  have hm := hg.m_le
  have HG := Lib.hid hg
  obtain ⟨eao, ecap, rfl, _⟩ := hg.pairs.open_
  have hmk := fun W => run_make_one (P := Try.prog) 54 4 1 (.bool false) Try.underlying54 (by kernel_rfl) (by omega) n (by omega) W
  have HR0 : Hid (Below w.heap.size w (w.alloc (.cells (madeCells (Value.bool false).cells n) 4)) ∧ Own (w.alloc (.cells (madeCells (Value.bool false).cells n) 4)) w.heap.size 4 boolf (.slice (some ⟨w.heap.size, 0, none⟩) n n) (fl n (toB (es.take 0) x))) := by
    refine ⟨below_new _ _, ?_⟩
    have := own_made w 4 boolf false (.bool false) rfl n (by omega) w.heap.size (Nat.le_refl _)
    rw [fl_const, fl_ext (g := toB (es.take 0) x) (fun k hk => by simp [toB])] at this
    exact this
  clear hg
  go_enter Try.func49, Try.ntmps49
  go_wp2_with fail
  go_loopw [8] (fun s8 wr => ∃ j : Nat, j ≤ es.length ∧ s8 = .int .i64 (j : Int) ∧ Hid (Below w.heap.size w wr ∧ Own wr w.heap.size 4 boolf (.slice (some ⟨w.heap.size, 0, none⟩) n n) (fl n (toB (es.take j) x)))) (fun s8 _ => es.length - (intOf s8).toNat)
  case atStart => exact ⟨0, Nat.zero_le _, rfl, HR0.out⟩
  case round =>
    clear HR0
    obtain ⟨j, hj, rfl, HI⟩ := hrel
    by_cases hjm : j < es.length
    · obtain ⟨e, he⟩ : ∃ e, es[j]? = some e := ⟨_, List.getElem?_eq_getElem hjm⟩
      obtain ⟨a, b⟩ := e
      obtain ⟨ha, hb⟩ := HG.out.ends j _ he
      simp only at ha hb
      obtain ⟨eb, off, rfl, hbl, hc1, hc2⟩ := HG.out.pairs.edge he
      have d1 := (HI.out.1.cell (p := ⟨eb, off + j * 2, none⟩) hbl).trans hc1
      have d2 := (HI.out.1.cell (p := ⟨eb, off + j * 2 + 1, none⟩) hbl).trans hc2
      have f1 := HI.out.2.free b
      obtain ⟨z2, c2⟩ : ∃ z, wr.cell? ⟨w.heap.size, b, none⟩ = some z := ⟨_, HI.out.2.cell (fl_get _ hb)⟩
      have b0 : (0 : Int) ≤ (b : Int) := Int.natCast_nonneg _
      have b1 : (b : Int) < (n : Int) := by omega
      have j0 : (0 : Int) ≤ (j : Int) := Int.natCast_nonneg _
      have j1 : (j : Int) < (es.length : Int) := by omega
      have HST := Lib.hid (fun k => toB_step he x k)
      clear he hc1 hc2
      by_cases hax : a = x
      · have hq : ((a : Int) == (x : Int)) = true := beq_yes (by omega)
        have HN : Hid (Below w.heap.size w (wr.setCell ⟨w.heap.size, b, none⟩ (.bool true)) ∧ Own (wr.setCell ⟨w.heap.size, b, none⟩ (.bool true)) w.heap.size 4 boolf (.slice (some ⟨w.heap.size, 0, none⟩) n n) (fl n (toB (es.take (j + 1)) x))) := by
          refine ⟨HI.out.1.setCell (p := ⟨w.heap.size, b, none⟩) (Nat.le_refl _) _, ?_⟩
          have := HI.out.2.set b true
          rw [fl_set, fl_ext (g := toB (es.take (j + 1)) x) (fun k hk => by
            rw [HST.out]
            by_cases e : k = b
            · rw [if_pos e, if_pos ⟨e, hax⟩]
            · rw [if_neg e, if_neg (fun h => e h.1)])] at this
          exact this
        have hgl := (HI.out.2.lt w.heap.size rfl).2
        clear hax
        go_wp2
        go_roundw
        case rel => exact ⟨j + 1, by omega, by go_num, HN.out⟩
        case measure => simp [intOf]; omega
      · have hq : ((a : Int) == (x : Int)) = false := beq_no (by omega)
        have HN : Hid (Below w.heap.size w wr ∧ Own wr w.heap.size 4 boolf (.slice (some ⟨w.heap.size, 0, none⟩) n n) (fl n (toB (es.take (j + 1)) x))) := by
          refine ⟨HI.out.1, ?_⟩
          have := HI.out.2
          rw [fl_ext (g := toB (es.take (j + 1)) x) (fun k hk => by rw [HST.out, if_neg (fun h => hax h.2)])] at this
          exact this
        clear hax
        go_wp2
        go_roundw
        case rel => exact ⟨j + 1, by omega, by go_num, HN.out⟩
        case measure => simp [intOf]; omega
    · obtain rfl : j = es.length := by omega
      have HN : Hid (Below w.heap.size w wr ∧ Own wr w.heap.size 4 boolf (.slice (some ⟨w.heap.size, 0, none⟩) n n) (fl n (toB es x))) := by
        have := HI.out
        rw [List.take_length] at this
        exact this
      go_wp2
      go_ret
      exact ⟨rfl, HN.out.2, HN.out.1⟩

/-! ### downward: the least that is right -/
def downF (p : Nat → Bool) (n t x : Nat) : Nat := (((List.range n).drop t).find? p).getD x
theorem downF_top (p : Nat → Bool) (n x : Nat) : downF p n n x = x := by
  unfold downF
  rw [List.drop_of_length_le (by simp)]; rfl
theorem downF_step (p : Nat → Bool) {n t : Nat} (x : Nat) (h : t < n) : downF p n t x = if p t then t else downF p n (t + 1) x := by
  unfold downF
  rw [List.drop_eq_getElem_cons (by simpa using h), List.getElem_range, List.find?_cons]
  cases p t <;> simp
theorem downF_zero (p : Nat → Bool) (n x : Nat) : downF p n 0 x = ((List.range n).find? p).getD x := rfl
theorem downF_nexts {n : Nat} {es : List (Nat × Nat)} {y : Nat} {q : Nat → Bool} {k : Nat} (x : Nat) (h : (nextsS n es y).find? q = some k) : downF (fun i => toB es y i && q i) n 0 x = k := by
  rw [downF_zero]
  unfold nextsS at h
  rw [List.find?_filter] at h
  show ((List.range n).find? fun i => decide ((y, i) ∈ es) && q i).getD x = k
  have e : (fun i => decide (decide ((y, i) ∈ es) = true ∧ q i = true)) = (fun i => decide ((y, i) ∈ es) && q i) := by
    funext i
    cases hq : q i <;> simp
  first
    | (rw [e] at h; rw [h]; rfl)
    | (rw [h]; rfl)

/-! ### the sums, by edges -/
theorem maxOver_memeq {A : List Int} {l l' : List Nat} (h : ∀ k, k ∈ l ↔ k ∈ l') : maxOver A l = maxOver A l' := by
  have key : ∀ l l' : List Nat, (∀ k, k ∈ l → k ∈ l') → maxOver A l ≤ maxOver A l' := fun l l' h => by
    rcases maxOver_is A l with h1 | ⟨k, h1, h2⟩
    · rw [h1]; exact maxOver_nonneg _ _
    · rw [← h2]; exact maxOver_ge (h k h1)
  exact Int.le_antisymm (key l l' fun k hk => (h k).1 hk) (key l' l fun k hk => (h k).2 hk)
theorem nextsM_take {es : List (Nat × Nat)} {j : Nat} {e : Nat × Nat} (he : es[j]? = some e) (i : Nat) : nextsM (es.take (j + 1)) i = nextsM (es.take j) i ++ (if e.1 = i then [e.2] else []) := by
  have hlt := (List.getElem?_eq_some_iff.1 he).1
  unfold nextsM
  rw [List.take_succ_eq_append_getElem hlt, (List.getElem?_eq_some_iff.1 he).2, List.filter_append, List.map_append]
  by_cases h : e.1 = i
  · simp [h]
  · simp [h]
theorem maxOver_edges {n : Nat} {es : List (Nat × Nat)} (he : EndsD n es) (A : List Int) (i : Nat) : maxOver A (nextsM es i) = maxOver A (nextsS n es i) :=
  maxOver_memeq fun k => by
    rw [nextsM_mem, nextsS_mem]
    exact ⟨fun h => ⟨(he.mem h).2, h⟩, fun h => h.2⟩

/-- The order's end, turned round: its nodes' next ones are in it. -/
theorem rev_ok {n : Nat} {es : List (Nat × Nat)} {D : List Nat} (h : orderOf n es = some D) (t : Nat) :
    (∀ i ∈ (D.drop t).reverse, i < n) ∧ (D.drop t).reverse.Nodup ∧ ∀ l1 l2 i, (D.drop t).reverse = l1 ++ i :: l2 → ∀ k ∈ nextsS n es i, k ∈ l1 := by
  have ho := (ordTo_ok n D h).2
  refine ⟨fun i hi => ho.lt i (List.mem_of_mem_drop (by simpa using hi)), (List.reverse_perm _).nodup_iff.2 (ho.nodup.sublist (List.drop_sublist _ _)), fun l1 l2 i e k hk => ?_⟩
  have e2 : D = (D.take t ++ l2.reverse) ++ i :: l1.reverse := by
    have h1 := congrArg List.reverse e
    simp only [List.reverse_reverse, List.reverse_append, List.reverse_cons] at h1
    have h2 := List.take_append_drop t D
    rw [h1] at h2
    conv => lhs; rw [← h2]
    simp
  obtain ⟨_, p2, p3⟩ := ord_edge h hk
  have hnd := ho.nodup
  rw [e2] at p2 p3 hnd
  have := idx_split hnd p2 p3
  simpa using this
theorem best_next {n : Nat} {es : List (Nat × Nat)} {ws : List Int} {D : List Nat} (h : orderOf n es = some D) {t i : Nat} (hi : D[t]? = some i) :
    bestTo n es ws (D.drop t).reverse = (bestTo n es ws (D.drop (t + 1)).reverse).set i (maxOver (bestTo n es ws (D.drop (t + 1)).reverse) (nextsS n es i) + ws.getD i 0) := by
  have hlt := (List.getElem?_eq_some_iff.1 hi).1
  have e : (D.drop t).reverse = (D.drop (t + 1)).reverse ++ [i] := by
    rw [List.drop_eq_getElem_cons hlt, (List.getElem?_eq_some_iff.1 hi).2]; simp
  obtain ⟨r1, r2, r3⟩ := rev_ok h t
  obtain ⟨q1, q2, q3⟩ := rev_ok h (t + 1)
  rw [e] at r1 r2 r3
  have hil : i ∉ (D.drop (t + 1)).reverse := fun hm => (List.nodup_append.1 r2).2.2 i hm i (by simp) rfl
  have h0 := (best_inv (es := es) (ws := ws) _ q1 q2 q3).2 i hil
  have hin := r1 i (by simp)
  have hni := r3 _ [] i rfl
  rw [e, bestTo_snoc]
  unfold bestStep
  rw [relaxAll_eq (by rw [bestTo_len]; exact hin) h0 _ (fun hm => hil (hni i hm)), getD_set (by rw [bestTo_len]; exact hin), if_pos rfl, List.set_set]
end Go.Proofs.Ythhhcaleoiopgaa
