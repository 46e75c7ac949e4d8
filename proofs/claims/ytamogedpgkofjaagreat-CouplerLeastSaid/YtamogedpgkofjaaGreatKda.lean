/-
  Base texts, shaken by wip/shake.py: DgM DgA DgB.
-/
import Derived.Deep.LoopGhost
import Derived.Test.YtamogedpgkofjaaGreatKmm
import Derived.Test.YtamogedpgkofjaaGreatKrp
namespace Go.Proofs.YtamogedpgkofjaaGreat
section
set_option linter.unusedVariables false

/-- All ends are nodes. -/
def EndsD (n : Nat) (es : List (Nat × Nat)) : Prop := ∀ (k : Nat) e, es[k]? = some e → e.1 < n ∧ e.2 < n
theorem EndsD.mem {n : Nat} {es : List (Nat × Nat)} (h : EndsD n es) {e : Nat × Nat} (he : e ∈ es) : e.1 < n ∧ e.2 < n := by
  obtain ⟨k, hk, rfl⟩ := List.getElem_of_mem he
  exact h k _ (List.getElem?_eq_getElem hk)

/-- A node that is not done, and to which only done nodes lead. -/
def avail (es : List (Nat × Nat)) (D : List Nat) (i : Nat) : Bool := decide (i ∉ D) && es.all fun e => decide (e.2 = i → e.1 ∈ D)
theorem avail_iff {es : List (Nat × Nat)} {D : List Nat} {i : Nat} : avail es D i = true ↔ i ∉ D ∧ ∀ e ∈ es, e.2 = i → e.1 ∈ D := by
  unfold avail
  simp only [Bool.and_eq_true, decide_eq_true_eq, List.all_eq_true]
def nextFree (n : Nat) (es : List (Nat × Nat)) (D : List Nat) : Option Nat := (List.range n).find? (avail es D)
def ordTo (n : Nat) (es : List (Nat × Nat)) : Nat → Option (List Nat)
  | 0 => some []
  | k + 1 => match ordTo n es k with
    | none => none
    | some D => match nextFree n es D with
      | none => none
      | some i => some (D ++ [i])
def orderOf (n : Nat) (es : List (Nat × Nat)) : Option (List Nat) := ordTo n es n

theorem nextFree_some {n : Nat} {es : List (Nat × Nat)} {D : List Nat} {i : Nat} (h : nextFree n es D = some i) : i < n ∧ avail es D i = true ∧ ∀ j, j < i → avail es D j = false := by
  unfold nextFree at h
  rw [List.find?_eq_some_iff_append] at h
  obtain ⟨h1, l1, l2, h2, h3⟩ := h
  have hlen : l1.length < n := by
    have := congrArg List.length h2
    simp at this; omega
  have hget : (List.range n)[l1.length]? = some i := by rw [h2]; simp
  have hi : i = l1.length := by
    rw [List.getElem?_range hlen] at hget
    injection hget with hget; exact hget.symm
  refine ⟨by omega, h1, fun j hj => ?_⟩
  have hj1 : j ∈ l1 := by
    have : (List.range n)[j]? = some j := List.getElem?_range (by omega)
    rw [h2, List.getElem?_append_left (by omega)] at this
    exact List.mem_of_getElem? this
  simpa using h3 j hj1
theorem nextFree_none {n : Nat} {es : List (Nat × Nat)} {D : List Nat} (h : nextFree n es D = none) : ∀ i, i < n → avail es D i = false := by
  intro i hi
  unfold nextFree at h
  rw [List.find?_eq_none] at h
  simpa using h i (List.mem_range.2 hi)
theorem nextFree_eq {n : Nat} {es : List (Nat × Nat)} {D : List Nat} {i : Nat} (hi : i < n) (h : avail es D i = true) (hno : ∀ j, j < i → avail es D j = false) : nextFree n es D = some i := by
  cases hf : nextFree n es D with
  | none => rw [nextFree_none hf i hi] at h; cases h
  | some k =>
    obtain ⟨h1, h2, h3⟩ := nextFree_some hf
    rcases Nat.lt_trichotomy k i with hc | hc | hc
    · rw [hno k hc] at h2; cases h2
    · rw [hc]
    · rw [h3 i hc] at h; cases h
theorem nextFree_no {n : Nat} {es : List (Nat × Nat)} {D : List Nat} (hno : ∀ j, j < n → avail es D j = false) : nextFree n es D = none := by
  cases hf : nextFree n es D with
  | none => rfl
  | some k =>
    obtain ⟨h1, h2, _⟩ := nextFree_some hf
    rw [hno k h1] at h2; cases h2

theorem ordTo_none {n : Nat} {es : List (Nat × Nat)} {k : Nat} (h : ordTo n es k = none) : ∀ m, k ≤ m → ordTo n es m = none := by
  intro m hm
  induction m with
  | zero => have : k = 0 := by omega
            subst this; exact h
  | succ m ih =>
    by_cases e : k = m + 1
    · subst e; exact h
    · rw [ordTo, ih (by omega)]

/-- What is known of the nodes that are done. -/
structure Ordd (n : Nat) (es : List (Nat × Nat)) (D : List Nat) : Prop where
  nodup : D.Nodup
  lt : ∀ i ∈ D, i < n
  pre : ∀ e ∈ es, e.2 ∈ D → e.1 ∈ D ∧ D.idxOf e.1 < D.idxOf e.2
theorem ordTo_ok {n : Nat} {es : List (Nat × Nat)} : ∀ (k : Nat) D, ordTo n es k = some D → D.length = k ∧ Ordd n es D := by
  intro k
  induction k with
  | zero =>
    intro D h
    cases h
    exact ⟨rfl, by simp, by simp, by simp⟩
  | succ k ih =>
    intro D h
    rw [ordTo] at h
    cases h1 : ordTo n es k with
    | none => rw [h1] at h; cases h
    | some D0 =>
      rw [h1] at h
      simp only at h
      cases h2 : nextFree n es D0 with
      | none => rw [h2] at h; cases h
      | some i =>
        rw [h2] at h
        cases h
        obtain ⟨l1, l2⟩ := ih D0 h1
        obtain ⟨f1, f2, _⟩ := nextFree_some h2
        obtain ⟨a1, a2⟩ := avail_iff.1 f2
        refine ⟨by simp [l1], ?_, fun j hj => ?_, fun e he hm => ?_⟩
        · rw [List.nodup_append]
          exact ⟨l2.nodup, by simp, fun x hx y hy e => by rw [List.mem_singleton.1 hy] at e; subst e; exact a1 hx⟩
        · rcases List.mem_append.1 hj with hj | hj
          · exact l2.lt j hj
          · rw [List.mem_singleton.1 hj]; exact f1
        · by_cases hd : e.2 ∈ D0
          · obtain ⟨p1, p2⟩ := l2.pre e he hd
            refine ⟨List.mem_append.2 (.inl p1), ?_⟩
            rw [List.idxOf_append, List.idxOf_append, if_pos p1, if_pos hd]; exact p2
          · have hi : e.2 = i := by
              rcases List.mem_append.1 hm with h | h
              · exact absurd h hd
              · exact List.mem_singleton.1 h
            have p1 := a2 e he hi
            refine ⟨List.mem_append.2 (.inl p1), ?_⟩
            rw [List.idxOf_append, List.idxOf_append, if_pos p1, if_neg hd]
            have := List.idxOf_lt_length_of_mem p1
            omega

/-- How many edges lead to a node from nodes that are not done. -/
def waitN (es : List (Nat × Nat)) (D : List Nat) (i : Nat) : Nat := es.countP fun e => decide (e.2 = i) && decide (e.1 ∉ D)
def waitI (es : List (Nat × Nat)) (D : List Nat) (i : Nat) : Int := if i ∈ D then -1 else (waitN es D i : Int)
theorem waitI_zero {es : List (Nat × Nat)} {D : List Nat} {i : Nat} : waitI es D i = 0 ↔ avail es D i = true := by
  rw [avail_iff]
  unfold waitI waitN
  by_cases h : i ∈ D
  · rw [if_pos h]
    constructor
    · intro h2; omega
    · intro h2; exact absurd h h2.1
  · rw [if_neg h]
    have h0 : ((es.countP fun e => decide (e.2 = i) && decide (e.1 ∉ D) : Nat) : Int) = 0 ↔ es.countP (fun e => decide (e.2 = i) && decide (e.1 ∉ D)) = 0 := by omega
    rw [h0, List.countP_eq_zero]
    constructor
    · intro h2
      refine ⟨h, fun e he hi => ?_⟩
      have := h2 e he
      simp only [Bool.and_eq_true, decide_eq_true_eq, not_and, Classical.not_not] at this
      exact this hi
    · intro h2 e he
      simp only [Bool.and_eq_true, decide_eq_true_eq, not_and, Classical.not_not]
      exact h2.2 e he
theorem waitN_le (es : List (Nat × Nat)) (D : List Nat) (i : Nat) : waitN es D i ≤ es.length := List.countP_le_length
/-- The nodes to which edges lead from a node, as often as they do. -/
def nextsM (es : List (Nat × Nat)) (i : Nat) : List Nat := (es.filter fun e => e.1 == i).map (·.2)
theorem nextsM_count (e : Nat × Nat) (es : List (Nat × Nat)) (i j : Nat) : (nextsM (e :: es) i).count j = (nextsM es i).count j + (if e.1 = i ∧ e.2 = j then 1 else 0) := by
  unfold nextsM
  rw [List.filter_cons]
  by_cases h1 : e.1 = i
  · rw [if_pos (by simpa using h1), List.map_cons, List.count_cons]
    by_cases h2 : e.2 = j
    · simp [h1, h2]
    · simp [h2]
  · rw [if_neg (by simpa using h1)]
    simp [h1]
theorem waitN_done {es : List (Nat × Nat)} {D : List Nat} {i j : Nat} (hi : i ∉ D) : waitN es D j = waitN es (D ++ [i]) j + (nextsM es i).count j := by
  induction es with
  | nil => rfl
  | cons e es ih =>
    have key : (if (decide (e.2 = j) && decide (e.1 ∉ D)) = true then 1 else 0) = (if (decide (e.2 = j) && decide (e.1 ∉ D ++ [i])) = true then 1 else 0) + (if e.1 = i ∧ e.2 = j then 1 else 0) := by
      by_cases h2 : e.2 = j
      · by_cases h1 : e.1 = i
        · simp [h1, h2, hi]
        · by_cases h3 : e.1 ∈ D <;> simp [h1, h2, h3]
      · simp [h2]
    have h1 : waitN (e :: es) D j = waitN es D j + (if (decide (e.2 = j) && decide (e.1 ∉ D)) = true then 1 else 0) := List.countP_cons
    have h2 : waitN (e :: es) (D ++ [i]) j = waitN es (D ++ [i]) j + (if (decide (e.2 = j) && decide (e.1 ∉ D ++ [i])) = true then 1 else 0) := List.countP_cons
    rw [h1, h2, nextsM_count, ih, key]
    omega
end
section
open Go.RowKit
set_option linter.unusedVariables false

def badD (n : Int) (x : Int × Int) : Bool := decide (x.1 < 0 ∨ x.2 < 0 ∨ n ≤ x.1 ∨ n ≤ x.2)
theorem badD_yes {n a b : Int} (h : a < 0 ∨ b < 0 ∨ n ≤ a ∨ n ≤ b) : badD n (a, b) = true := dec_yes h
theorem badD_no {n a b : Int} (h : ¬ (a < 0 ∨ b < 0 ∨ n ≤ a ∨ n ≤ b)) : badD n (a, b) = false := dec_no h

set_option maxHeartbeats 400000 in
theorem badD_any (n a b : Int) (B : Nat) (w : World) (hB : w.cell? ⟨B, 0, none⟩ = some (.int .i64 n)) (hlt : B < w.heap.size) :
    Calls Tryz.prog 79 #[.agg #[.int .i64 a, .int .i64 b], .pointer (some ⟨B, 0, none⟩)] w fun e w' => e = .returned (.bool (badD n (a, b))) ∧ Below w.heap.size w w' := by
  rcases Int.lt_trichotomy a b with h2 | h2 | h2
  · by_cases h3 : a < 0
    · have E := Lib.hid (badD_yes (n := n) (a := a) (b := b) (by omega))
      go_enter Tryz.func79, Tryz.ntmps79
      go_wp2
      go_ret
      exact ⟨ret_bool E.out.symm, by go_grown⟩
    · by_cases h4 : n ≤ b
      · have E := Lib.hid (badD_yes (n := n) (a := a) (b := b) (by omega))
        go_enter Tryz.func79, Tryz.ntmps79
        go_wp2
        go_ret
        exact ⟨ret_bool E.out.symm, by go_grown⟩
      · have E := Lib.hid (badD_no (n := n) (a := a) (b := b) (by omega))
        go_enter Tryz.func79, Tryz.ntmps79
        go_wp2
        go_ret
        exact ⟨ret_bool E.out.symm, by go_grown⟩
  · subst h2
    by_cases h3 : a < 0
    · have E := Lib.hid (badD_yes (n := n) (a := a) (b := a) (by omega))
      go_enter Tryz.func79, Tryz.ntmps79
      go_wp2
      go_ret
      exact ⟨ret_bool E.out.symm, by go_grown⟩
    · by_cases h4 : n ≤ a
      · have E := Lib.hid (badD_yes (n := n) (a := a) (b := a) (by omega))
        go_enter Tryz.func79, Tryz.ntmps79
        go_wp2
        go_ret
        exact ⟨ret_bool E.out.symm, by go_grown⟩
      · have E := Lib.hid (badD_no (n := n) (a := a) (b := a) (by omega))
        go_enter Tryz.func79, Tryz.ntmps79
        go_wp2
        go_ret
        exact ⟨ret_bool E.out.symm, by go_grown⟩
  · by_cases h3 : b < 0
    · have E := Lib.hid (badD_yes (n := n) (a := a) (b := b) (by omega))
      go_enter Tryz.func79, Tryz.ntmps79
      go_wp2
      go_ret
      exact ⟨ret_bool E.out.symm, by go_grown⟩
    · by_cases h4 : n ≤ a
      · have E := Lib.hid (badD_yes (n := n) (a := a) (b := b) (by omega))
        go_enter Tryz.func79, Tryz.ntmps79
        go_wp2
        go_ret
        exact ⟨ret_bool E.out.symm, by go_grown⟩
      · have E := Lib.hid (badD_no (n := n) (a := a) (b := b) (by omega))
        go_enter Tryz.func79, Tryz.ntmps79
        go_wp2
        go_ret
        exact ⟨ret_bool E.out.symm, by go_grown⟩

/-- Contracts of a predicate over pairs, for IndexFunc and ContainsFunc. -/
def PairPred (F : Nat) (caps : Array Value) (p : Int × Int → Bool) (l : List (Int × Int)) (w : World) : Prop :=
  (∀ (xs : Array Value) (W : World), (callFunc F xs).run Tryz.prog W = .ok (.enter F xs) W) ∧
  ∀ (x : Int × Int) (W : World), x ∈ l → Below w.heap.size w W → Calls Tryz.prog F (#[.agg #[.int .i64 x.1, .int .i64 x.2]] ++ caps) W fun e w1 => e = .returned (.bool (p x)) ∧ Below W.heap.size W w1

set_option maxHeartbeats 400000 in
theorem indexPairs_any (F : Nat) (caps : Array Value) (p : Int × Int → Bool) (v : Value) (l : List (Int × Int)) (w : World) (hp : Pairs w v l) (hl : l.length ≤ 140737488355328) (hC : PairPred F caps p l w) :
    Calls Tryz.prog 107 #[v, .func (.func F) #[] caps] w fun e w' => (∃ i : Int, e = .returned (.int .i64 i) ∧ decide (0 ≤ i) = l.any p) ∧ Below w.heap.size w w' := by
  obtain ⟨hF, hC⟩ := hC
  obtain ⟨ao, cap, rfl, h⟩ := hp
  have HC := Lib.hid hC
  have HH := Lib.hid h
  clear hC h
  go_enter Tryz.func107, Tryz.ntmps107
  go_wp2
  go_loopw [5, 8] (fun _ i wr => ∃ k : Nat, k ≤ l.length ∧ i = .int .i64 k ∧ Below w.heap.size w wr ∧ Hid (∀ (j : Nat) y, j < k → l[j]? = some y → p y = false)) (fun _ i _ => l.length - (intOf i).toNat)
  case atStart => exact ⟨0, Nat.zero_le _, rfl, Below.refl _ _, fun j _ hj => by omega⟩
  case round =>
    obtain ⟨k, hk, rfl, hBr, hno⟩ := hrel
    by_cases hk2 : k < l.length
    · obtain ⟨b, off, rfl, hbl, hc⟩ := HH.out (by omega)
      obtain ⟨⟨x, y⟩, hy⟩ : ∃ y, l[k]? = some y := ⟨_, List.getElem?_eq_getElem hk2⟩
      obtain ⟨hc1, hc2⟩ := hc k _ hy
      have hd1 := (hBr.cell (p := ⟨b, off + k * 2, none⟩) hbl).trans hc1
      have hd2 := (hBr.cell (p := ⟨b, off + k * 2 + 1, none⟩) hbl).trans hc2
      have HK := Lib.hid (HC.out (x, y) wr (List.mem_of_getElem? hy) hBr)
      have HY := Lib.hid hy
      obtain ⟨q, hq⟩ : ∃ q, p (x, y) = q := ⟨_, rfl⟩
      rw [hq] at HK
      have HQ := Lib.hid hq
      clear hy hc hc1 hc2 hq
      cases q
      · go_wp2_with fail
        refine HK.out.mono ?_
        rintro e w9 ⟨rfl, hb9⟩
        have hB9 := bstep hBr hb9
        go_wp2
        go_roundw
        case rel => exact ⟨k + 1, by omega, by go_num, hB9, fun j z hj hz => by
          by_cases e : j = k
          · subst e; rw [HY.out] at hz; cases hz; exact HQ.out
          · exact hno j z (by omega) hz⟩
        case measure => simp [intOf]; omega
      · go_wp2_with fail
        refine HK.out.mono ?_
        rintro e w9 ⟨rfl, hb9⟩
        have hB9 := bstep hBr hb9
        go_wp2
        go_ret
        exact ⟨⟨k, rfl, by
          rw [List.any_eq_true.2 ⟨_, List.mem_of_getElem? HY.out, HQ.out⟩]; simp⟩, hB9⟩
    · go_wp2
      go_ret
      exact ⟨⟨-1, rfl, by
        rw [show l.any p = false from List.any_eq_false.2 fun x hx => by
          obtain ⟨j, hj, rfl⟩ := List.getElem_of_mem hx
          rw [hno j _ (by omega) (List.getElem?_eq_getElem hj)]; simp]; rfl⟩, hBr⟩

theorem anyPairs_any (F : Nat) (caps : Array Value) (p : Int × Int → Bool) (v : Value) (l : List (Int × Int)) (w : World) (hp : Pairs w v l) (hl : l.length ≤ 140737488355328) (hC : PairPred F caps p l w) :
    Calls Tryz.prog 78 #[v, .func (.func F) #[] caps] w fun e w' => e = .returned (.bool (l.any p)) ∧ Below w.heap.size w w' := by
  have HI := Lib.hid (indexPairs_any F caps p v l w hp hl hC)
  clear hC
  go_enter Tryz.func78, Tryz.ntmps78
  go_wp2_with fail
  refine HI.out.mono ?_
  rintro e w9 ⟨⟨i, rfl, hi⟩, hb1⟩
  have HR := Lib.hid hi
  clear hi
  go_wp2
  go_ret
  exact ⟨ret_bool HR.out, hb1⟩

/-- Is it a graph? -/
def vldD (n : Int) (l : List (Int × Int)) : Bool := decide (0 ≤ n ∧ n ≤ 60 ∧ l.length ≤ 1000) && !l.any (badD n)

set_option maxHeartbeats 400000 in
theorem dvalid_any (n : Int) (v : Value) (l : List (Int × Int)) (w : World) (hp : Pairs w v l) (hl : l.length ≤ 140737488355328) :
    Calls Tryz.prog 48 #[.int .i64 n, v] w fun e w' => e = .returned (.bool (vldD n l)) ∧ Below w.heap.size w w' := by
  have hb0 := below_new w (.cells #[.int .i64 n] 3)
  have HP := Lib.hid (hp.below hb0)
  have HB : Hid ((w.alloc (.cells #[.int .i64 n] 3)).cell? ⟨w.heap.size, 0, none⟩ = some (.int .i64 n)) := by
    exact (show (w.alloc (.cells #[.int .i64 n] 3)).cell? ⟨w.heap.size, 0, none⟩ = some (.int .i64 n) by go_cell)
  by_cases hh : 0 ≤ n ∧ n ≤ 60 ∧ l.length ≤ 1000
  · have E := Lib.hid (show vldD n l = !l.any (badD n) by rw [vldD, dec_yes hh]; simp)
    obtain ⟨h1, h2, h3⟩ := hh
    obtain ⟨ao, cap, rfl, h⟩ := hp
    clear h
    have HC : Hid (PairPred 79 #[.pointer (some ⟨w.heap.size, 0, none⟩)] (badD n) l (w.alloc (.cells #[.int .i64 n] 3))) := ⟨fun xs W => by go_simp, fun x W _ hW => badD_any n x.1 x.2 w.heap.size W ((hW.cell (p := ⟨w.heap.size, 0, none⟩) (by simp)).trans HB.out) (by have := hW.size; simp at this; omega)⟩
    have HK := Lib.hid (anyPairs_any _ _ _ _ l _ HP.out hl HC.out)
    obtain ⟨q, hq⟩ : ∃ q, l.any (badD n) = q := ⟨_, rfl⟩
    rw [hq] at HK E
    clear hq
    cases q
    all_goals
      go_enter Tryz.func48, Tryz.ntmps48
      go_wp2_with fail
      refine HK.out.mono ?_
      rintro e w9 ⟨rfl, hb9⟩
      go_wp2
      go_ret
      exact ⟨ret_bool E.out.symm, bstep hb0 hb9⟩
  · have E := Lib.hid (show vldD n l = false by rw [vldD, dec_no hh]; simp)
    obtain ⟨ao, cap, rfl, h⟩ := hp
    clear h
    by_cases h1 : n < 0
    · clear hh
      go_enter Tryz.func48, Tryz.ntmps48
      go_wp2
      go_ret
      exact ⟨ret_bool E.out.symm, hb0⟩
    · by_cases h2 : 60 < n
      · clear hh
        go_enter Tryz.func48, Tryz.ntmps48
        go_wp2
        go_ret
        exact ⟨ret_bool E.out.symm, hb0⟩
      · have h3 : 1000 < l.length := by omega
        clear hh
        go_enter Tryz.func48, Tryz.ntmps48
        go_wp2
        go_ret
        exact ⟨ret_bool E.out.symm, hb0⟩

theorem vldD_nat {n : Int} {l : List (Int × Int)} (h : vldD n l = true) : ∃ (N : Nat) (ns : List (Nat × Nat)), n = (N : Int) ∧ l = cst ns ∧ N ≤ 60 ∧ ns.length ≤ 1000 ∧ EndsD N ns := by
  unfold vldD at h
  rw [Bool.and_eq_true] at h
  obtain ⟨h1, h2⟩ := h
  have h1 := of_decide_eq_true h1
  have h2 : ∀ x ∈ l, badD n x = false := by
    rw [Bool.not_eq_true', List.any_eq_false] at h2
    intro x hx
    simpa using h2 x hx
  have h3 : ∀ x ∈ l, 0 ≤ x.1 ∧ 0 ≤ x.2 ∧ x.1 < n ∧ x.2 < n := by
    intro x hx
    have := of_decide_eq_false (h2 x hx)
    omega
  refine ⟨n.toNat, l.map fun e => (e.1.toNat, e.2.toNat), by omega, ?_, by omega, by simp; omega, ?_⟩
  · unfold cst
    rw [List.map_map]
    have e : l = l.map id := by simp
    rw [e, List.map_map]
    refine List.map_congr_left fun x hx => ?_
    obtain ⟨x1, x2⟩ := x
    have := h3 _ hx
    simp only [Function.comp, id]
    rw [Int.toNat_of_nonneg this.1, Int.toNat_of_nonneg this.2.1]
  · intro k e he
    rw [List.getElem?_map] at he
    obtain ⟨x, hx, rfl⟩ := Option.map_eq_some_iff.1 he
    have := h3 _ (List.mem_of_getElem? hx)
    simp only
    omega
/-- What a graph is, as these contracts take it. -/
structure Dg (w : World) (n : Nat) (v : Value) (es : List (Nat × Nat)) : Prop where
  pairs : NPairs w v es
  n_le : n ≤ 60
  m_le : es.length ≤ 1000
  ends : EndsD n es
theorem Dg.below {w w1 : World} {n : Nat} {v : Value} {es : List (Nat × Nat)} (h : Dg w n v es) (hb : Below w.heap.size w w1) : Dg w1 n v es := ⟨h.pairs.below hb, h.n_le, h.m_le, h.ends⟩
theorem Dg.ok {w : World} {n : Nat} {v : Value} {es : List (Nat × Nat)} (h : Dg w n v es) : vldD (n : Int) (cst es) = true := by
  unfold vldD
  have h1 := h.n_le
  have h2 := h.m_le
  rw [cst_len, dec_yes ⟨by omega, by omega, by omega⟩, Bool.true_and, Bool.not_eq_true', List.any_eq_false]
  intro x hx
  unfold cst at hx
  obtain ⟨e, hm, rfl⟩ := List.mem_map.1 hx
  have := h.ends.mem hm
  rw [badD_no (by omega)]; simp
theorem dg_of {w : World} {n : Int} {v : Value} {l : List (Int × Int)} (hp : Pairs w v l) (hv : vldD n l = true) : ∃ (N : Nat) (ns : List (Nat × Nat)), n = (N : Int) ∧ l = cst ns ∧ Dg w N v ns := by
  obtain ⟨N, ns, rfl, rfl, h1, h2, h3⟩ := vldD_nat hv
  exact ⟨N, ns, rfl, rfl, hp, h1, h2, h3⟩
end
section
open Go.RowKit
set_option linter.unusedVariables false
attribute [local go_sem ↓] Go.wp_at_zero Go.wp_at_succ

theorem nextsM_snoc (es : List (Nat × Nat)) (e : Nat × Nat) (i : Nat) : nextsM (es ++ [e]) i = if e.1 = i then nextsM es i ++ [e.2] else nextsM es i := by
  unfold nextsM
  rw [List.filter_append, List.filter_cons, List.filter_nil]
  by_cases h : e.1 = i
  · rw [if_pos (by simpa using h), if_pos h]; simp
  · rw [if_neg (by simpa using h), if_neg h]; simp
theorem nextsM_len (es : List (Nat × Nat)) (i : Nat) : (nextsM es i).length ≤ es.length := by
  unfold nextsM
  rw [List.length_map]; exact List.length_filter_le _ _
def nxRows (n : Nat) (es : List (Nat × Nat)) : List (List Nat) := (List.range n).map (nextsM es)
theorem nxRows_len (n : Nat) (es : List (Nat × Nat)) : (nxRows n es).length = n := by simp [nxRows]
theorem nxRows_get {n : Nat} (es : List (Nat × Nat)) {i : Nat} (hi : i < n) : (nxRows n es)[i]? = some (nextsM es i) := by
  unfold nxRows
  rw [List.getElem?_map, List.getElem?_range hi]; rfl
theorem nxRows_nil (n : Nat) : nxRows n [] = List.replicate n [] := by
  refine List.ext_getElem (by simp [nxRows]) fun i h1 h2 => ?_
  simp [nxRows, nextsM]
theorem nxRows_snoc {n : Nat} (es : List (Nat × Nat)) (x y : Nat) (hx : x < n) : nxRows n (es ++ [(x, y)]) = addAt (nxRows n es) x y := by
  refine List.ext_getElem? fun i => ?_
  rcases Nat.lt_or_ge i n with hi | hi
  · rw [nxRows_get _ hi, addAt_getElem (nxRows_get es hi), nextsM_snoc]
  · rw [List.getElem?_eq_none (by rw [nxRows_len]; exact hi), List.getElem?_eq_none (by rw [addAt_len, nxRows_len]; exact hi)]

/-- One round of a loop over edges whose box is made anew, and the row's append. -/
theorem take_edge {es : List (Nat × Nat)} {k : Nat} {e : Nat × Nat} (h : es[k]? = some e) : es.take (k + 1) = es.take k ++ [e] := by
  have := List.getElem?_eq_some_iff.1 h
  rw [List.take_succ_eq_append_getElem this.1, this.2]

def inDeg (es : List (Nat × Nat)) (i : Nat) : Int := ((es.countP fun e => decide (e.2 = i) : Nat) : Int)
def degs (n : Nat) (es : List (Nat × Nat)) : List Int := (List.range n).map (inDeg es)
theorem degs_len (n : Nat) (es : List (Nat × Nat)) : (degs n es).length = n := by simp [degs]
theorem degs_get {n : Nat} (es : List (Nat × Nat)) {i : Nat} (hi : i < n) : (degs n es)[i]? = some (inDeg es i) := by
  unfold degs
  rw [List.getElem?_map, List.getElem?_range hi]; rfl
theorem inDeg_snoc (es : List (Nat × Nat)) (e : Nat × Nat) (i : Nat) : inDeg (es ++ [e]) i = inDeg es i + if e.2 = i then 1 else 0 := by
  unfold inDeg
  rw [List.countP_append, List.countP_cons, List.countP_nil]
  by_cases h : e.2 = i <;> simp [h]
theorem degs_snoc {n : Nat} (es : List (Nat × Nat)) (e : Nat × Nat) (he : e.2 < n) : degs n (es ++ [e]) = (degs n es).set e.2 (inDeg es e.2 + 1) := by
  refine List.ext_getElem? fun i => ?_
  by_cases hi : i < n
  · rw [degs_get _ hi, inDeg_snoc]
    by_cases h : e.2 = i
    · subst h
      rw [List.getElem?_set_self (by rw [degs_len]; exact he), if_pos rfl]
    · rw [List.getElem?_set_ne h, degs_get _ hi, if_neg h]; simp
  · rw [List.getElem?_eq_none (by rw [degs_len]; omega), List.getElem?_eq_none (by rw [List.length_set, degs_len]; omega)]
theorem inDeg_le (es : List (Nat × Nat)) (i : Nat) : 0 ≤ inDeg es i ∧ inDeg es i ≤ es.length := by
  unfold inDeg
  have := List.countP_le_length (p := fun e : Nat × Nat => decide (e.2 = i)) (l := es)
  omega

def waitL (n : Nat) (es : List (Nat × Nat)) (D : List Nat) : List Int := (List.range n).map (waitI es D)
theorem waitL_len (n : Nat) (es : List (Nat × Nat)) (D : List Nat) : (waitL n es D).length = n := by simp [waitL]
theorem waitL_get {n : Nat} (es : List (Nat × Nat)) (D : List Nat) {i : Nat} (hi : i < n) : (waitL n es D)[i]? = some (waitI es D i) := by
  unfold waitL
  rw [List.getElem?_map, List.getElem?_range hi]; rfl
theorem waitL_nil (n : Nat) (es : List (Nat × Nat)) : degs n es = waitL n es [] := by
  unfold degs waitL
  refine List.map_congr_left fun i _ => ?_
  unfold inDeg waitI waitN
  simp
theorem waitL_index (n : Nat) (es : List (Nat × Nat)) (D : List Nat) : idxOf (waitL n es D) 0 = match nextFree n es D with | some i => (i : Int) | none => -1 := by
  cases h : nextFree n es D with
  | some i =>
    obtain ⟨h1, h2, h3⟩ := nextFree_some h
    refine idxOf_hit _ _ i (fun j y hj hy => ?_) (by rw [waitL_get _ _ h1, waitI_zero.2 h2])
    rw [waitL_get _ _ (by omega)] at hy
    cases hy
    intro e
    rw [waitI_zero, h3 j hj] at e
    cases e
  | none =>
    refine idxOf_miss _ _ (fun j y hy => ?_)
    have hj : j < n := by have := (List.getElem?_eq_some_iff.1 hy).1; rw [waitL_len] at this; exact this
    rw [waitL_get _ _ hj] at hy
    cases hy
    intro e
    rw [waitI_zero, nextFree_none h j hj] at e
    cases e
def midI (es : List (Nat × Nat)) (D : List Nat) (i t j : Nat) : Int := if j ∈ D ++ [i] then -1 else (waitN es D j : Int) - (((nextsM es i).take t).count j : Int)
def midL (n : Nat) (es : List (Nat × Nat)) (D : List Nat) (i t : Nat) : List Int := (List.range n).map (midI es D i t)
theorem midL_len (n : Nat) (es : List (Nat × Nat)) (D : List Nat) (i t : Nat) : (midL n es D i t).length = n := by simp [midL]
theorem midL_get {n : Nat} (es : List (Nat × Nat)) (D : List Nat) (i t : Nat) {j : Nat} (hj : j < n) : (midL n es D i t)[j]? = some (midI es D i t j) := by
  unfold midL
  rw [List.getElem?_map, List.getElem?_range hj]; rfl
theorem midL_zero {n : Nat} (es : List (Nat × Nat)) (D : List Nat) {i : Nat} (hi : i < n) : midL n es D i 0 = (waitL n es D).set i (-1) := by
  refine List.ext_getElem? fun j => ?_
  by_cases hj : j < n
  · rw [midL_get _ _ _ _ hj]
    by_cases e : i = j
    · subst e
      rw [List.getElem?_set_self (by rw [waitL_len]; exact hi)]
      simp [midI]
    · rw [List.getElem?_set_ne e, waitL_get _ _ hj]
      have e' : ¬ j = i := fun h => e h.symm
      unfold midI waitI
      simp [e']
  · rw [List.getElem?_eq_none (by rw [midL_len]; omega), List.getElem?_eq_none (by rw [List.length_set, waitL_len]; omega)]
theorem midL_all {n : Nat} (es : List (Nat × Nat)) (D : List Nat) {i : Nat} (hi : i ∉ D) : midL n es D i (nextsM es i).length = waitL n es (D ++ [i]) := by
  unfold midL waitL
  refine List.map_congr_left fun j _ => ?_
  unfold midI waitI
  rw [List.take_length]
  by_cases h : j ∈ D ++ [i]
  · rw [if_pos h, if_pos h]
  · rw [if_neg h, if_neg h]
    have := waitN_done (es := es) (j := j) hi
    omega
theorem midL_step {n : Nat} (es : List (Nat × Nat)) (D : List Nat) {i t k : Nat} (hk : (nextsM es i)[t]? = some k) (hkn : k < n) (hno : k ∉ D ++ [i]) : midL n es D i (t + 1) = (midL n es D i t).set k (midI es D i t k - 1) := by
  have ht := List.getElem?_eq_some_iff.1 hk
  refine List.ext_getElem? fun j => ?_
  by_cases hj : j < n
  · rw [midL_get _ _ _ _ hj]
    by_cases e : k = j
    · subst e
      rw [List.getElem?_set_self (by rw [midL_len]; exact hj)]
      unfold midI
      rw [if_neg hno, if_neg hno, List.take_succ_eq_append_getElem ht.1, List.count_append, ht.2]
      simp
      omega
    · rw [List.getElem?_set_ne e, midL_get _ _ _ _ hj]
      unfold midI
      rw [List.take_succ_eq_append_getElem ht.1, List.count_append, ht.2]
      have : List.count j [k] = 0 := by simp [e]
      rw [this]; rfl
  · rw [List.getElem?_eq_none (by rw [midL_len]; omega), List.getElem?_eq_none (by rw [List.length_set, midL_len]; omega)]
theorem nextsM_mem {es : List (Nat × Nat)} {i k : Nat} : k ∈ nextsM es i ↔ (i, k) ∈ es := by
  unfold nextsM
  rw [List.mem_map]
  constructor
  · rintro ⟨e, he, rfl⟩
    rw [List.mem_filter] at he
    have : e.1 = i := by simpa using he.2
    rw [← this]; exact he.1
  · intro h
    exact ⟨(i, k), List.mem_filter.2 ⟨h, by simp⟩, rfl⟩
theorem midI_bd {es : List (Nat × Nat)} {D : List Nat} {i t j : Nat} (h : es.length ≤ 1000) : -1001 ≤ midI es D i t j ∧ midI es D i t j ≤ 1000 := by
  unfold midI
  have h1 := waitN_le es D j
  have h2 : ((nextsM es i).take t).count j ≤ ((nextsM es i).take t).length := List.count_le_length
  have h3 := nextsM_len es i
  rw [List.length_take] at h2
  split <;> omega

structure OAt (w w1 w2 : World) (n : Nat) (A : List Int) (D : List Nat) (v : Value) (wr : World) : Prop where
  keep : ∀ g, w1.heap.size ≤ g → g < w2.heap.size → wr.heap[g]? = w2.heap[g]?
  sz : w2.heap.size ≤ wr.heap.size
  waits : Own wr w.heap.size 3 intf (.slice (some ⟨w.heap.size, 0, none⟩) n n) A
  out : Own wr w2.heap.size 3 natf v D
  below : Below w.heap.size w wr
  lo : w.heap.size < w1.heap.size ∧ w1.heap.size ≤ w2.heap.size
theorem OAt.set {w w1 w2 wr : World} {n : Nat} {A : List Int} {D : List Nat} {v : Value} (h : OAt w w1 w2 n A D v wr) (i : Nat) (x : Int) : OAt w w1 w2 n (A.set i x) D v (wr.setCell ⟨w.heap.size, i, none⟩ (.int .i64 x)) := by
  have hl := h.lo
  refine ⟨fun g h1 h2 => ?_, by simpa using h.sz, h.waits.set i x, h.out.only (only_set wr w.heap.size i (.int .i64 x)) (fun g hg e => ?_), h.below.setCell (p := ⟨w.heap.size, i, none⟩) (Nat.le_refl _) _, hl⟩
  · rw [heap_setCell_other wr ⟨w.heap.size, i, none⟩ g _ (fun e => by have : g = w.heap.size := e; omega)]
    exact h.keep g h1 h2
  · injection e with e
    have := (h.out.lt g hg).1
    omega
theorem OAt.push {w w1 w2 wr w3 : World} {n : Nat} {A : List Int} {D : List Nat} {v v' : Value} {i : Nat} (h : OAt w w1 w2 n A D v wr) (ho : Own w3 w2.heap.size 3 natf v' (D ++ [i])) (hg : wr.grownBy w3 v.ownBlock) : OAt w w1 w2 n A (D ++ [i]) v' w3 := by
  have hl := h.lo
  have hs := h.sz
  refine ⟨fun g h1 h2 => ?_, Nat.le_trans h.sz hg.size, h.waits.only hg (fun g e e' => ?_), ho, below_grown h.below hg h.below.size (fun g e => by have := (h.out.lt g e).1; omega), hl⟩
  · rw [hg.block g (by omega) (fun e => by have := (h.out.lt g e.symm).1; omega)]
    exact h.keep g h1 h2
  · cases e
    have : w2.heap.size ≤ w.heap.size := (h.out.lt _ e'.symm).1
    omega

def OrderPost (w : World) (n : Nat) (es : List (Nat × Nat)) (e : Ending) (w' : World) : Prop :=
  (match orderOf n es with
    | some D => ∃ v, e = .returned (.tuple #[v, .bool true]) ∧ Own w' w.heap.size 3 natf v D
    | none => e = .returned (.tuple #[.slice none 0 0, .bool false])) ∧ Below w.heap.size w w'
end
end Go.Proofs.YtamogedpgkofjaaGreat
