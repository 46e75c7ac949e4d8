/-
  Directed graphs: Valid (the program's and the reference's).
-/
import Derived.Test.YthhhcaleoiopgaaDgM
namespace Go.Proofs.Ythhhcaleoiopgaa
open Go.RowKit
set_option linter.unusedVariables false

def badD (n : Int) (x : Int × Int) : Bool := decide (x.1 < 0 ∨ x.2 < 0 ∨ n ≤ x.1 ∨ n ≤ x.2)
theorem badD_yes {n a b : Int} (h : a < 0 ∨ b < 0 ∨ n ≤ a ∨ n ≤ b) : badD n (a, b) = true := dec_yes h
theorem badD_no {n a b : Int} (h : ¬ (a < 0 ∨ b < 0 ∨ n ≤ a ∨ n ≤ b)) : badD n (a, b) = false := dec_no h

set_option maxHeartbeats 400000 in
theorem badD_any (n a b : Int) (B : Nat) (w : World) (hB : w.cell? ⟨B, 0, none⟩ = some (.int .i64 n)) (hlt : B < w.heap.size) :
    Calls Try.prog 54 #[.agg #[.int .i64 a, .int .i64 b], .pointer (some ⟨B, 0, none⟩)] w fun e w' => e = .returned (.bool (badD n (a, b))) ∧ Below w.heap.size w w' := by
  rcases Int.lt_trichotomy a b with h2 | h2 | h2
  · by_cases h3 : a < 0
    · have E := Lib.hid (badD_yes (n := n) (a := a) (b := b) (by omega))
      go_enter Try.func54, Try.ntmps54
      go_wp2
      go_ret
      exact ⟨ret_bool E.out.symm, by go_grown⟩
    · by_cases h4 : n ≤ b
      · have E := Lib.hid (badD_yes (n := n) (a := a) (b := b) (by omega))
        go_enter Try.func54, Try.ntmps54
        go_wp2
        go_ret
        exact ⟨ret_bool E.out.symm, by go_grown⟩
      · have E := Lib.hid (badD_no (n := n) (a := a) (b := b) (by omega))
        go_enter Try.func54, Try.ntmps54
        go_wp2
        go_ret
        exact ⟨ret_bool E.out.symm, by go_grown⟩
  · subst h2
    by_cases h3 : a < 0
    · have E := Lib.hid (badD_yes (n := n) (a := a) (b := a) (by omega))
      go_enter Try.func54, Try.ntmps54
      go_wp2
      go_ret
      exact ⟨ret_bool E.out.symm, by go_grown⟩
    · by_cases h4 : n ≤ a
      · have E := Lib.hid (badD_yes (n := n) (a := a) (b := a) (by omega))
        go_enter Try.func54, Try.ntmps54
        go_wp2
        go_ret
        exact ⟨ret_bool E.out.symm, by go_grown⟩
      · have E := Lib.hid (badD_no (n := n) (a := a) (b := a) (by omega))
        go_enter Try.func54, Try.ntmps54
        go_wp2
        go_ret
        exact ⟨ret_bool E.out.symm, by go_grown⟩
  · by_cases h3 : b < 0
    · have E := Lib.hid (badD_yes (n := n) (a := a) (b := b) (by omega))
      go_enter Try.func54, Try.ntmps54
      go_wp2
      go_ret
      exact ⟨ret_bool E.out.symm, by go_grown⟩
    · by_cases h4 : n ≤ a
      · have E := Lib.hid (badD_yes (n := n) (a := a) (b := b) (by omega))
        go_enter Try.func54, Try.ntmps54
        go_wp2
        go_ret
        exact ⟨ret_bool E.out.symm, by go_grown⟩
      · have E := Lib.hid (badD_no (n := n) (a := a) (b := b) (by omega))
        go_enter Try.func54, Try.ntmps54
        go_wp2
        go_ret
        exact ⟨ret_bool E.out.symm, by go_grown⟩

/-- Contracts of a predicate over pairs, for IndexFunc and ContainsFunc. -/
def PairPred (F : Nat) (caps : Array Value) (p : Int × Int → Bool) (l : List (Int × Int)) (w : World) : Prop :=
  (∀ (xs : Array Value) (W : World), (callFunc F xs).run Try.prog W = .ok (.enter F xs) W) ∧
  ∀ (x : Int × Int) (W : World), x ∈ l → Below w.heap.size w W → Calls Try.prog F (#[.agg #[.int .i64 x.1, .int .i64 x.2]] ++ caps) W fun e w1 => e = .returned (.bool (p x)) ∧ Below W.heap.size W w1

set_option maxHeartbeats 400000 in
theorem indexPairs_any (F : Nat) (caps : Array Value) (p : Int × Int → Bool) (v : Value) (l : List (Int × Int)) (w : World) (hp : Pairs w v l) (hl : l.length ≤ 140737488355328) (hC : PairPred F caps p l w) :
    Calls Try.prog 58 #[v, .func (.func F) #[] caps] w fun e w' => (∃ i : Int, e = .returned (.int .i64 i) ∧ decide (0 ≤ i) = l.any p) ∧ Below w.heap.size w w' := by
  obtain ⟨hF, hC⟩ := hC
  obtain ⟨ao, cap, rfl, h⟩ := hp
  have HC := Lib.hid hC
  have HH := Lib.hid h
  clear hC h
  go_enter Try.func58, Try.ntmps58
  go_wp2
  go_loopw [5, 8] (fun _ i wr => ∃ k : Nat, k ≤ l.length ∧ i = .int .i64 k ∧ Below w.heap.size w wr ∧ Hid (∀ (j : Nat) y, j < k → l[j]? = some y → p y = false)) (fun _ i _ => l.length - (intOf i).toNat)
  case atStart => exact ⟨0, Nat.zero_le _, rfl, Below.refl _ _, fun j _ hj => by omega⟩
  case round =>
    obtain ⟨k, hk, rfl, hBr, hno⟩ := hrel
    by_cases hk2 : k < l.length
    · obtain ⟨b, off, rfl, hbl, hc⟩ := HH.out (by omega)
      obtain ⟨⟨x, y⟩, hy⟩ : ∃ y, l[k]? = some y := ⟨_, List.getElem?_eq_getElem hk2⟩
      obtain ⟨hc1, hc2⟩ := hc k _ hy
      have hd1 := (hBr.cell (p := ⟨b, off + k * 2, none⟩) hbl).trans hc1
      have hd2 := (hBr.cell (p := ⟨b, off + k * 2 + 1, none⟩) hbl).trans hc2
      have HK := Lib.hid (HC.out (x, y) wr (List.mem_of_getElem? hy) hBr)
      have HY := Lib.hid hy
      obtain ⟨q, hq⟩ : ∃ q, p (x, y) = q := ⟨_, rfl⟩
      rw [hq] at HK
      have HQ := Lib.hid hq
      clear hy hc hc1 hc2 hq
      cases q
      · go_wp2_with fail
        refine HK.out.mono ?_
        rintro e w9 ⟨rfl, hb9⟩
        have hB9 := bstep hBr hb9
        go_wp2
        go_roundw
        case rel => exact ⟨k + 1, by omega, by go_num, hB9, fun j z hj hz => by
          by_cases e : j = k
          · subst e; rw [HY.out] at hz; cases hz; exact HQ.out
          · exact hno j z (by omega) hz⟩
        case measure => simp [intOf]; omega
      · go_wp2_with fail
        refine HK.out.mono ?_
        rintro e w9 ⟨rfl, hb9⟩
        have hB9 := bstep hBr hb9
        go_wp2
        go_ret
        exact ⟨⟨k, rfl, by
          rw [List.any_eq_true.2 ⟨_, List.mem_of_getElem? HY.out, HQ.out⟩]; simp⟩, hB9⟩
    · go_wp2
      go_ret
      exact ⟨⟨-1, rfl, by
        rw [show l.any p = false from List.any_eq_false.2 fun x hx => by
          obtain ⟨j, hj, rfl⟩ := List.getElem_of_mem hx
          rw [hno j _ (by omega) (List.getElem?_eq_getElem hj)]; simp]; rfl⟩, hBr⟩

theorem anyPairs_any (F : Nat) (caps : Array Value) (p : Int × Int → Bool) (v : Value) (l : List (Int × Int)) (w : World) (hp : Pairs w v l) (hl : l.length ≤ 140737488355328) (hC : PairPred F caps p l w) :
    Calls Try.prog 30 #[v, .func (.func F) #[] caps] w fun e w' => e = .returned (.bool (l.any p)) ∧ Below w.heap.size w w' := by
  have HI := Lib.hid (indexPairs_any F caps p v l w hp hl hC)
  clear hC
  go_enter Try.func30, Try.ntmps30
  go_wp2_with fail
  refine HI.out.mono ?_
  rintro e w9 ⟨⟨i, rfl, hi⟩, hb1⟩
  have HR := Lib.hid hi
  clear hi
  go_wp2
  go_ret
  exact ⟨ret_bool HR.out, hb1⟩

/-- Is it a graph? -/
def vldD (n : Int) (l : List (Int × Int)) : Bool := decide (0 ≤ n ∧ n ≤ 60 ∧ l.length ≤ 1000) && !l.any (badD n)

set_option maxHeartbeats 400000 in
theorem dvalid_any (n : Int) (v : Value) (l : List (Int × Int)) (w : World) (hp : Pairs w v l) (hl : l.length ≤ 140737488355328) :
    Calls Try.prog 24 #[.int .i64 n, v] w fun e w' => e = .returned (.bool (vldD n l)) ∧ Below w.heap.size w w' := by
  have hb0 := below_new w (.cells #[.int .i64 n] 3)
  have HP := Lib.hid (hp.below hb0)
  have HB : Hid ((w.alloc (.cells #[.int .i64 n] 3)).cell? ⟨w.heap.size, 0, none⟩ = some (.int .i64 n)) := by
    exact (show (w.alloc (.cells #[.int .i64 n] 3)).cell? ⟨w.heap.size, 0, none⟩ = some (.int .i64 n) by go_cell)
  by_cases hh : 0 ≤ n ∧ n ≤ 60 ∧ l.length ≤ 1000
  · have E := Lib.hid (show vldD n l = !l.any (badD n) by rw [vldD, dec_yes hh]; simp)
    obtain ⟨h1, h2, h3⟩ := hh
    obtain ⟨ao, cap, rfl, h⟩ := hp
    clear h
    have HC : Hid (PairPred 54 #[.pointer (some ⟨w.heap.size, 0, none⟩)] (badD n) l (w.alloc (.cells #[.int .i64 n] 3))) := ⟨fun xs W => by rfl, fun x W _ hW => badD_any n x.1 x.2 w.heap.size W ((hW.cell (p := ⟨w.heap.size, 0, none⟩) (by simp)).trans HB.out) (by have := hW.size; simp at this; omega)⟩
    have HK := Lib.hid (anyPairs_any _ _ _ _ l _ HP.out hl HC.out)
    obtain ⟨q, hq⟩ : ∃ q, l.any (badD n) = q := ⟨_, rfl⟩
    rw [hq] at HK E
    clear hq
    cases q
    all_goals
      go_enter Try.func24, Try.ntmps24
      go_wp2_with fail
      refine HK.out.mono ?_
      rintro e w9 ⟨rfl, hb9⟩
      go_wp2
      go_ret
      exact ⟨ret_bool E.out.symm, bstep hb0 hb9⟩
  · have E := Lib.hid (show vldD n l = false by rw [vldD, dec_no hh]; simp)
    obtain ⟨ao, cap, rfl, h⟩ := hp
    clear h
    by_cases h1 : n < 0
    · clear hh
      go_enter Try.func24, Try.ntmps24
      go_wp2
      go_ret
      exact ⟨ret_bool E.out.symm, hb0⟩
    · by_cases h2 : 60 < n
      · clear hh
        go_enter Try.func24, Try.ntmps24
        go_wp2
        go_ret
        exact ⟨ret_bool E.out.symm, hb0⟩
      · have h3 : 1000 < l.length := by omega
        clear hh
        go_enter Try.func24, Try.ntmps24
        go_wp2
        go_ret
        exact ⟨ret_bool E.out.symm, hb0⟩

set_option maxHeartbeats 400000 in
theorem rdvalid_any (n : Int) (v : Value) (l : List (Int × Int)) (w : World) (hp : Pairs w v l) (hl : l.length ≤ 140737488355328) :
    Calls Try.prog 13 #[.int .i64 n, v] w fun e w' => e = .returned (.bool (vldD n l)) ∧ w = w' := by
  obtain ⟨ao, cap, rfl, h⟩ := hp
  by_cases hh : 0 ≤ n ∧ n ≤ 60 ∧ l.length ≤ 1000
  · have E := Lib.hid (show vldD n l = !l.any (badD n) by rw [vldD, dec_yes hh]; simp)
    obtain ⟨h1, h2, h3⟩ := hh
    have d1 : decide (n < 0) = false := dec_no (by omega)
    have d2 : decide (60 < n) = false := dec_no (by omega)
    have d3 : decide (1000 < (l.length : Int)) = false := dec_no (by omega)
    go_enter Try.func13, Try.ntmps13
    go_wp2_with fail
    go_loop [5] (fun i => ∃ k : Nat, k ≤ l.length ∧ i = .int .i64 k ∧ Hid (∀ (j : Nat) y, j < k → l[j]? = some y → badD n y = false)) (fun i => l.length - (intOf i).toNat)
    case atStart => exact ⟨0, Nat.zero_le _, rfl, fun j _ hj => by omega⟩
    case round =>
      obtain ⟨k, hk, rfl, hno⟩ := hrel
      by_cases hk2 : k < l.length
      · obtain ⟨b, off, rfl, hbl, hc⟩ := h (by omega)
        obtain ⟨⟨x, y⟩, hy⟩ : ∃ y, l[k]? = some y := ⟨_, List.getElem?_eq_getElem hk2⟩
        obtain ⟨hd1, hd2⟩ := hc k _ hy
        simp only at hd1 hd2
        have HY := Lib.hid hy
        clear hy hc h
        have k0 : (0 : Int) ≤ (k : Int) := Int.natCast_nonneg _
        have k1 : (k : Int) < (l.length : Int) := by omega
        clear d1 d2 d3
        go_wp2
        all_goals first
          | (go_ret
             exact ⟨ret_bool (by rw [E.out, List.any_eq_true.2 ⟨_, List.mem_of_getElem? HY.out, badD_yes (by omega)⟩]; rfl), rfl⟩)
          | (go_round
             case rel => exact ⟨k + 1, by omega, by go_num, fun j z hj hz => by
               by_cases e : j = k
               · subst e; rw [HY.out] at hz; cases hz; exact badD_no (by omega)
               · exact hno j z (by omega) hz⟩
             case measure => simp [intOf]; omega)
      · go_wp2
        go_ret
        exact ⟨ret_bool (by
          rw [E.out, show l.any (badD n) = false from List.any_eq_false.2 fun x hx => by
            obtain ⟨j, hj, rfl⟩ := List.getElem_of_mem hx
            rw [hno j _ (by omega) (List.getElem?_eq_getElem hj)]; simp]; rfl), rfl⟩
  · have E := Lib.hid (show vldD n l = false by rw [vldD, dec_no hh]; simp)
    clear h
    by_cases h1 : n < 0
    · clear hh
      go_enter Try.func13, Try.ntmps13
      go_wp2
      go_ret
      exact ⟨ret_bool E.out.symm, rfl⟩
    · by_cases h2 : 60 < n
      · clear hh
        go_enter Try.func13, Try.ntmps13
        go_wp2
        go_ret
        exact ⟨ret_bool E.out.symm, rfl⟩
      · have h3 : 1000 < l.length := by omega
        clear hh
        go_enter Try.func13, Try.ntmps13
        go_wp2
        go_ret
        exact ⟨ret_bool E.out.symm, rfl⟩

theorem vldD_nat {n : Int} {l : List (Int × Int)} (h : vldD n l = true) : ∃ (N : Nat) (ns : List (Nat × Nat)), n = (N : Int) ∧ l = cst ns ∧ N ≤ 60 ∧ ns.length ≤ 1000 ∧ EndsD N ns := by
  unfold vldD at h
  rw [Bool.and_eq_true] at h
  obtain ⟨h1, h2⟩ := h
  have h1 := of_decide_eq_true h1
  have h2 : ∀ x ∈ l, badD n x = false := by
    rw [Bool.not_eq_true', List.any_eq_false] at h2
    intro x hx
    simpa using h2 x hx
  have h3 : ∀ x ∈ l, 0 ≤ x.1 ∧ 0 ≤ x.2 ∧ x.1 < n ∧ x.2 < n := by
    intro x hx
    have := of_decide_eq_false (h2 x hx)
    omega
  refine ⟨n.toNat, l.map fun e => (e.1.toNat, e.2.toNat), by omega, ?_, by omega, by simp; omega, ?_⟩
  · unfold cst
    rw [List.map_map]
    have e : l = l.map id := by simp
    rw [e, List.map_map]
    refine List.map_congr_left fun x hx => ?_
    obtain ⟨x1, x2⟩ := x
    have := h3 _ hx
    simp only [Function.comp, id]
    rw [Int.toNat_of_nonneg this.1, Int.toNat_of_nonneg this.2.1]
  · intro k e he
    rw [List.getElem?_map] at he
    obtain ⟨x, hx, rfl⟩ := Option.map_eq_some_iff.1 he
    have := h3 _ (List.mem_of_getElem? hx)
    simp only
    omega
/-- What a graph is, as these contracts take it. -/
structure Dg (w : World) (n : Nat) (v : Value) (es : List (Nat × Nat)) : Prop where
  pairs : NPairs w v es
  n_le : n ≤ 60
  m_le : es.length ≤ 1000
  ends : EndsD n es
theorem Dg.below {w w1 : World} {n : Nat} {v : Value} {es : List (Nat × Nat)} (h : Dg w n v es) (hb : Below w.heap.size w w1) : Dg w1 n v es := ⟨h.pairs.below hb, h.n_le, h.m_le, h.ends⟩
theorem Dg.ok {w : World} {n : Nat} {v : Value} {es : List (Nat × Nat)} (h : Dg w n v es) : vldD (n : Int) (cst es) = true := by
  unfold vldD
  have h1 := h.n_le
  have h2 := h.m_le
  rw [cst_len, dec_yes ⟨by omega, by omega, by omega⟩, Bool.true_and, Bool.not_eq_true', List.any_eq_false]
  intro x hx
  unfold cst at hx
  obtain ⟨e, hm, rfl⟩ := List.mem_map.1 hx
  have := h.ends.mem hm
  rw [badD_no (by omega)]; simp
theorem dg_of {w : World} {n : Int} {v : Value} {l : List (Int × Int)} (hp : Pairs w v l) (hv : vldD n l = true) : ∃ (N : Nat) (ns : List (Nat × Nat)), n = (N : Int) ∧ l = cst ns ∧ Dg w N v ns := by
  obtain ⟨N, ns, rfl, rfl, h1, h2, h3⟩ := vldD_nat hv
  exact ⟨N, ns, rfl, rfl, hp, h1, h2, h3⟩
end Go.Proofs.Ythhhcaleoiopgaa
