/-
  Directed graphs: Check.
-/
import Derived.Test.YthhhcaleoiopgaaLgQ
namespace Go.Proofs.Ythhhcaleoiopgaa
open Go.RowKit
set_option linter.unusedVariables false
attribute [local go_sem ↓] Go.wp_at_zero Go.wp_at_succ

set_option maxRecDepth 100000 in
set_option maxHeartbeats 1000000 in
theorem repeat_zero (v : Value) (c : Int) (w : World) (h : Ints w v [c]) :
    Calls Try.prog 52 #[v, .int .i64 0] w fun e w' =>
      (∃ u, e = .returned u ∧ Own w' w.heap.size 3 intf u ([] : List Int)) ∧ Below w.heap.size w w' := by
  obtain ⟨ao, cap, rfl, h⟩ := h
  obtain ⟨b, off, rfl, hbl, hc⟩ := h (by simp)
  clear h hc
  have hmk := fun W => run_make_one (P := Try.prog) 23 3 8 (.int .i64 0) Try.underlying23 (by kernel_rfl) (by omega) 0 (by omega) W
  have hmc : (madeCells (Value.int .i64 0).cells 0) = #[] := by
    apply Array.ext'
    have := toList_madeCells_one (.int .i64 0) 0
    simpa [Value.cells] using this
  rw [hmc] at hmk
  replace hmk : ∀ W, Sem.run Try.prog (Instr.makeSlice 23 (.int .i64 0) (.int .i64 0)) W = .ok (.slice (some ⟨W.heap.size, 0, none⟩) 0 0) (W.alloc (.cells #[] 3)) := fun W => hmk W
  clear hmc
  have hmul := mul_one 0 (by omega)
  have HM : Hid (∀ W, Calls Try.prog 64 #[.int .u64 1, .int .u64 0] W fun e w' => e = .returned (.tuple #[.int .u64 0, .int .u64 0]) ∧ W = w') := fun W => hmul W
  clear hmul
  have hB0 : Below w.heap.size w (w.alloc (.cells #[] 3)) := below_new _ _
  have HG0 := Lib.hid (heap_alloc_new w (.cells #[] 3))
  go_enter Try.func52, Try.ntmps52
  go_wp2_with (first
    | (go_at_call 64; refine (HM.out _).mono ?_; rintro e w9 ⟨rfl, rfl⟩)
    | (refine wpList_copy_nothing (o := ⟨some 33, _, _, _, _, _⟩) rfl (.tmp 31) (.tmp 32) 23 23 rfl 3 Try.underlying23 (by kernel_rfl) (some ⟨w.heap.size, 0, none⟩) (some ⟨b, off, none⟩) 0 0 1 cap rfl rfl (by simp) ?_))
  go_loopw [8] (fun s wr => s = .int .i64 0 ∧ wr = w.alloc (.cells #[] 3)) (fun s _ => 0)
  case atStart => exact ⟨rfl, rfl⟩
  case round =>
    obtain ⟨rfl, rfl⟩ := hrel
    go_wp2
    go_ret
    refine ⟨⟨_, rfl, ?_⟩, hB0⟩
    have hg := HG0.out
    exact ⟨by simp, .inr ⟨w.heap.size, 0, _, by simp, Nat.le_refl _, hg, by simp, by unfold maxLen; omega, by simp, by simp⟩⟩

theorem repeat_all (v : Value) (c : Int) (n : Nat) (w : World) (h : Ints w v [c]) (hn : n ≤ 100000) :
    Calls Try.prog 52 #[v, .int .i64 (n : Int)] w fun e w' =>
      (∃ u, e = .returned u ∧ Own w' w.heap.size 3 intf u (List.replicate n c)) ∧ Below w.heap.size w w' := by
  by_cases h0 : n = 0
  · subst h0
    exact repeat_zero v c w h
  · exact repeat_any v c n w h (by omega) hn

/-! ### what it answers -/
def badN (n : Int) (x : Int) : Bool := decide (x < 0 ∨ n ≤ x)
def chkN (es : List (Nat × Nat)) (q : List Nat) : Bool × Int :=
  if q.Nodup then (es.all fun e => decide (q.idxOf e.1 < q.idxOf e.2), 0) else (false, 10)
def chkRes (n : Nat) (es : List (Nat × Nat)) (l : List Int) : Bool × Int :=
  if l.length ≠ n then (false, 3) else if l.any (badN n) then (false, 2) else chkN es (l.map Int.toNat)
def placeI (q : List Nat) (k i : Nat) : Int := if i ∈ q.take k then (q.idxOf i : Int) else -1
def placeL (n : Nat) (q : List Nat) (k : Nat) : List Int := (List.range n).map (placeI q k)
theorem placeL_len (n : Nat) (q : List Nat) (k : Nat) : (placeL n q k).length = n := by simp [placeL]
theorem placeL_get {n : Nat} (q : List Nat) (k : Nat) {i : Nat} (hi : i < n) : (placeL n q k)[i]? = some (placeI q k i) := by
  unfold placeL
  rw [List.getElem?_map, List.getElem?_range hi]; rfl
theorem placeL_zero (n : Nat) (q : List Nat) : List.replicate n (-1) = placeL n q 0 := by
  refine List.ext_getElem? fun i => ?_
  by_cases hi : i < n
  · rw [placeL_get q 0 hi, List.getElem?_replicate, if_pos hi]; simp [placeI]
  · rw [List.getElem?_eq_none (by simp; omega), List.getElem?_eq_none (by rw [placeL_len]; omega)]
theorem idxOf_at {q : List Nat} {k i : Nat} (hk : q[k]? = some i) (hno : i ∉ q.take k) : q.idxOf i = k := by
  have hlt := (List.getElem?_eq_some_iff.1 hk).1
  have e : q = q.take k ++ i :: q.drop (k + 1) := by
    have h1 := List.take_append_drop k q
    rw [List.drop_eq_getElem_cons hlt, (List.getElem?_eq_some_iff.1 hk).2] at h1
    exact h1.symm
  rw [e, List.idxOf_append, if_neg hno, List.idxOf_cons_self, List.length_take]
  omega
theorem placeL_step {n : Nat} {q : List Nat} {k i : Nat} (hk : q[k]? = some i) (hno : i ∉ q.take k) : (placeL n q k).set i (k : Int) = placeL n q (k + 1) := by
  have hlt := (List.getElem?_eq_some_iff.1 hk).1
  have ht : q.take (k + 1) = q.take k ++ [i] := by rw [List.take_succ_eq_append_getElem hlt, (List.getElem?_eq_some_iff.1 hk).2]
  refine List.ext_getElem? fun j => ?_
  by_cases hj : j < n
  · rw [placeL_get q (k + 1) hj, List.getElem?_set]
    by_cases e : i = j
    · subst e
      rw [if_pos rfl, if_pos (by rw [placeL_len]; exact hj)]
      unfold placeI
      rw [if_pos (by rw [ht]; simp), idxOf_at hk hno]
    · rw [if_neg e, placeL_get q k hj]
      unfold placeI
      rw [ht]
      by_cases h : j ∈ q.take k
      · rw [if_pos h, if_pos (by simp [h])]
      · rw [if_neg h, if_neg (by simp only [List.mem_append, List.mem_singleton]; rintro (h1 | h1); exact h h1; exact e h1.symm)]
  · rw [List.getElem?_eq_none (by rw [List.length_set, placeL_len]; omega), List.getElem?_eq_none (by rw [placeL_len]; omega)]

set_option maxHeartbeats 400000 in
theorem badN_any (n x : Int) (B : Nat) (w : World) (hB : w.cell? ⟨B, 0, none⟩ = some (.int .i64 n)) :
    Calls Try.prog 51 #[.int .i64 x, .pointer (some ⟨B, 0, none⟩)] w fun e w' => e = .returned (.bool (badN n x)) ∧ Below w.heap.size w w' := by
  by_cases h1 : x < 0
  · have E := Lib.hid (show badN n x = true from dec_yes (.inl h1))
    go_enter Try.func51, Try.ntmps51
    go_wp2
    go_ret
    exact ⟨ret_bool (by first | exact E.out.symm | (rw [E.out]; simp <;> omega)), Below.refl _ _⟩
  · by_cases h2 : n ≤ x
    · have E := Lib.hid (show badN n x = true from dec_yes (.inr h2))
      go_enter Try.func51, Try.ntmps51
      go_wp2
      go_ret
      exact ⟨ret_bool (by first | exact E.out.symm | (rw [E.out]; simp <;> omega)), Below.refl _ _⟩
    · have E := Lib.hid (show badN n x = false from dec_no (by omega))
      go_enter Try.func51, Try.ntmps51
      go_wp2
      go_ret
      exact ⟨ret_bool (by first | exact E.out.symm | (rw [E.out]; simp <;> omega)), Below.refl _ _⟩
theorem badN_pred (n : Int) (B : Nat) (l : List Int) (w : World) (hB : w.cell? ⟨B, 0, none⟩ = some (.int .i64 n)) (hlt : B < w.heap.size) : IntPred 51 #[.pointer (some ⟨B, 0, none⟩)] (badN n) l w :=
  ⟨fun xs W => by rfl, fun x W _ hW => badN_any n x B W ((hW.cell (p := ⟨B, 0, none⟩) hlt).trans hB)⟩

set_option maxHeartbeats 400000 in
theorem chkFn_any (X GA n capA a b : Nat) (za zb : Int) (w : World) (h8 : w.cell? ⟨X, 0, none⟩ = some (.slice (some ⟨GA, 0, none⟩) n capA)) (ha : w.cell? ⟨GA, a, none⟩ = some (.int .i64 za)) (hb : w.cell? ⟨GA, b, none⟩ = some (.int .i64 zb))
    (hX : X < w.heap.size) (hG : GA < w.heap.size) (han : a < n) (hbn : b < n) (hn : n ≤ 100000) :
    Calls Try.prog 53 #[.agg #[.int .i64 (a : Int), .int .i64 (b : Int)], .pointer (some ⟨X, 0, none⟩)] w fun e w' => e = .returned (.bool (decide (zb ≤ za))) ∧ Below w.heap.size w w' := by
  have a0 : (0 : Int) ≤ (a : Int) := Int.natCast_nonneg _
  have a1 : (a : Int) < (n : Int) := by omega
  have b0 : (0 : Int) ≤ (b : Int) := Int.natCast_nonneg _
  have b1 : (b : Int) < (n : Int) := by omega
  have c1 := (World.cell?_alloc_lt w (.cells #[.int .i64 (a : Int), .int .i64 (b : Int)] 38) ⟨X, 0, none⟩ hX).trans h8
  have c2 := (World.cell?_alloc_lt w (.cells #[.int .i64 (a : Int), .int .i64 (b : Int)] 38) ⟨GA, a, none⟩ hG).trans ha
  have c3 := (World.cell?_alloc_lt w (.cells #[.int .i64 (a : Int), .int .i64 (b : Int)] 38) ⟨GA, b, none⟩ hG).trans hb
  clear h8 ha hb
  by_cases hz : zb ≤ za
  · have e := dec_yes hz
    go_enter Try.func53, Try.ntmps53
    go_wp2
    go_quiet (fail)
    go_wp2
    go_ret
    exact ⟨ret_bool (by first | exact e.symm | (rw [e]; simp <;> omega)), below_drewN' (below_new _ _) _⟩
  · have e := dec_no hz
    go_enter Try.func53, Try.ntmps53
    go_wp2
    go_quiet (fail)
    go_wp2
    go_ret
    exact ⟨ret_bool (by first | exact e.symm | (rw [e]; simp <;> omega)), below_drewN' (below_new _ _) _⟩

/-! ### the refusals -/
set_option maxHeartbeats 400000 in
theorem check_bad (n : Int) (v : Value) (l : List (Int × Int)) (wo : Option Addr) (wl wc : Nat) (w : World) (hp : Pairs w v l) (hl : l.length ≤ 140737488355328) (h : vldD n l = false) :
    Calls Try.prog 23 #[.int .i64 n, v, .slice wo wl wc] w fun e w' => e = .returned (.tuple #[.bool false, .int .i64 1]) ∧ Below w.heap.size w w' := by
  have hb0 := below_new w (.cells #[.int .i64 n] 3)
  have HV := Lib.hid (dvalid_any n v l _ (hp.below hb0) hl)
  rw [h] at HV
  clear hp h
  go_enter Try.func23, Try.ntmps23
  go_wp2_with fail
  refine HV.out.mono ?_
  rintro e w1 ⟨rfl, hb⟩
  go_wp2
  go_ret2
  exact ⟨rfl, bstep hb0 hb⟩

def CheckPost (w : World) (n : Nat) (es : List (Nat × Nat)) (l : List Int) (e : Ending) (w' : World) : Prop :=
  e = .returned (.tuple #[.bool (chkRes n es l).1, .int .i64 (chkRes n es l).2]) ∧ Below w.heap.size w w'
theorem checkPost_of {w w' : World} {n : Nat} {es : List (Nat × Nat)} {l : List Int} {b : Bool} {k : Int} (h : chkRes n es l = (b, k)) (hb : Below w.heap.size w w') : CheckPost w n es l (.returned (.tuple #[.bool b, .int .i64 k])) w' := by
  unfold CheckPost
  rw [h]
  exact ⟨rfl, hb⟩

set_option maxHeartbeats 400000 in
theorem check_size (n : Nat) (v : Value) (es : List (Nat × Nat)) (wo : Option Addr) (wc : Nat) (l : List Int) (w : World) (hg : Dg w n v es) (hl : l.length ≤ 140737488355328) (hne : l.length ≠ n) :
    Calls Try.prog 23 #[.int .i64 (n : Int), v, .slice wo l.length wc] w (CheckPost w n es l) := by
  have hb0 := below_new w (.cells #[.int .i64 (n : Int)] 3)
  have HV := Lib.hid (dvalid_any n v (cst es) _ (hg.pairs.below hb0) (by rw [cst_len]; have := hg.m_le; omega))
  rw [hg.ok] at HV
  have HR := Lib.hid (show chkRes n es l = (false, 3) by unfold chkRes; rw [if_pos hne])
  have hq : ((l.length : Int) != (n : Int)) = true := bne_yes (by omega)
  clear hg hne
  go_enter Try.func23, Try.ntmps23
  go_wp2_with fail
  refine HV.out.mono ?_
  rintro e w1 ⟨rfl, hb⟩
  have c5 : w1.cell? ⟨w.heap.size, 0, none⟩ = some (.int .i64 (n : Int)) := (hb.cell (p := ⟨w.heap.size, 0, none⟩) (by simp)).trans (by rw [World.cell?_alloc_at _ _ _ _ rfl]; rfl)
  go_wp2
  go_ret2
  exact checkPost_of HR.out (bstep hb0 hb)

set_option maxHeartbeats 400000 in
theorem check_range (n : Nat) (v : Value) (es : List (Nat × Nat)) (u : Value) (l : List Int) (w : World) (hg : Dg w n v es) (hw : Ints w u l) (hl : l.length = n) (hr : l.any (badN n) = true) :
    Calls Try.prog 23 #[.int .i64 (n : Int), v, u] w (CheckPost w n es l) := by
  have hn60 := hg.n_le
  have hb0 := below_new w (.cells #[.int .i64 (n : Int)] 3)
  have HV := Lib.hid (dvalid_any n v (cst es) _ (hg.pairs.below hb0) (by rw [cst_len]; have := hg.m_le; omega))
  rw [hg.ok] at HV
  have HR := Lib.hid (show chkRes n es l = (false, 2) by unfold chkRes; rw [if_neg (by omega), if_pos hr])
  have HW := Lib.hid hw
  obtain ⟨wo, wcap, rfl, _⟩ := hw
  have HL := Lib.hid hl
  have HB := Lib.hid hr
  have hq : ((l.length : Int) != (n : Int)) = false := bne_no (by omega)
  clear hg hl hr
  go_enter Try.func23, Try.ntmps23
  go_wp2_with fail
  refine HV.out.mono ?_
  rintro e w1 ⟨rfl, hb⟩
  have hB1 := bstep hb0 hb
  have c5 : w1.cell? ⟨w.heap.size, 0, none⟩ = some (.int .i64 (n : Int)) := (hb.cell (p := ⟨w.heap.size, 0, none⟩) (by simp)).trans (by rw [World.cell?_alloc_at _ _ _ _ rfl]; rfl)
  have hs := hb.size
  simp at hs
  have HC := Lib.hid (anyInts_any _ _ (badN n) _ l w1 (HW.out.below hB1) (by have := HL.out; omega) (badN_pred n w.heap.size l w1 c5 (by omega)))
  rw [HB.out] at HC
  go_wp2_with fail
  refine HC.out.mono ?_
  rintro e w2 ⟨rfl, hb2⟩
  go_wp2
  go_ret2
  exact checkPost_of HR.out (bstep hB1 hb2)
end Go.Proofs.Ythhhcaleoiopgaa
