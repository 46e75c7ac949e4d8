/-
  Graph: Valid.
-/
import Derived.Test.YtcaeemcobgopmaaLib
import Derived.Test.YtcaeemcobgopmaaGrM
namespace Go.Proofs.Ytcaeemcobgopmaa
open Go.RowKit
set_option linter.unusedVariables false

def badE (n : Int) (x : Int × Int) : Bool := decide (x.1 = x.2 ∨ x.1 < 0 ∨ x.2 < 0 ∨ n ≤ x.1 ∨ n ≤ x.2)

theorem badE_yes {n a b : Int} (h : a = b ∨ a < 0 ∨ b < 0 ∨ n ≤ a ∨ n ≤ b) : badE n (a, b) = true := dec_yes h
theorem badE_no {n a b : Int} (h : ¬ (a = b ∨ a < 0 ∨ b < 0 ∨ n ≤ a ∨ n ≤ b)) : badE n (a, b) = false := dec_no h

set_option maxHeartbeats 400000 in
theorem badE_any (n a b : Int) (B : Nat) (w : World) (hB : w.cell? ⟨B, 0, none⟩ = some (.int .i64 n)) (hlt : B < w.heap.size) :
    Calls Try.prog 50 #[.agg #[.int .i64 a, .int .i64 b], .pointer (some ⟨B, 0, none⟩)] w fun e w' => e = .returned (.bool (badE n (a, b))) ∧ Below w.heap.size w w' := by
  by_cases h1 : a = b
  · have E := Lib.hid (badE_yes (n := n) (a := a) (b := b) (.inl h1))
    have hb := beq_yes h1
    clear h1
    go_enter Try.func50, Try.ntmps50
    go_wp2
    go_ret
    exact ⟨ret_bool E.out.symm, by go_grown⟩
  · have hb := beq_no h1
    have H1 := Lib.hid h1
    rcases Int.lt_or_le a b with h2 | h2
    · clear h1
      by_cases h3 : a < 0
      · have E := Lib.hid (badE_yes (n := n) (a := a) (b := b) (.inr (.inl h3)))
        go_enter Try.func50, Try.ntmps50
        go_wp2
        go_ret
        exact ⟨ret_bool E.out.symm, by go_grown⟩
      · by_cases h4 : n ≤ b
        · have E := Lib.hid (badE_yes (n := n) (a := a) (b := b) (by omega))
          go_enter Try.func50, Try.ntmps50
          go_wp2
          go_ret
          exact ⟨ret_bool E.out.symm, by go_grown⟩
        · have E := Lib.hid (badE_no (n := n) (a := a) (b := b) (by have := H1.out; omega))
          go_enter Try.func50, Try.ntmps50
          go_wp2
          go_ret
          exact ⟨ret_bool E.out.symm, by go_grown⟩
    · have h2' : b < a := by omega
      clear h1 h2
      by_cases h3 : b < 0
      · have E := Lib.hid (badE_yes (n := n) (a := a) (b := b) (by omega))
        go_enter Try.func50, Try.ntmps50
        go_wp2
        go_ret
        exact ⟨ret_bool E.out.symm, by go_grown⟩
      · by_cases h4 : n ≤ a
        · have E := Lib.hid (badE_yes (n := n) (a := a) (b := b) (by omega))
          go_enter Try.func50, Try.ntmps50
          go_wp2
          go_ret
          exact ⟨ret_bool E.out.symm, by go_grown⟩
        · have E := Lib.hid (badE_no (n := n) (a := a) (b := b) (by have := H1.out; omega))
          go_enter Try.func50, Try.ntmps50
          go_wp2
          go_ret
          exact ⟨ret_bool E.out.symm, by go_grown⟩

set_option maxHeartbeats 400000 in
theorem indexBad_any (n : Int) (v : Value) (l : List (Int × Int)) (B : Nat) (w : World) (hp : Pairs w v l) (hl : l.length ≤ 140737488355328) (hB : w.cell? ⟨B, 0, none⟩ = some (.int .i64 n)) (hlt : B < w.heap.size) :
    Calls Try.prog 63 #[v, .func (.func 50) #[] #[.pointer (some ⟨B, 0, none⟩)]] w fun e w' =>
      (∃ i : Int, e = .returned (.int .i64 i) ∧ decide (0 ≤ i) = l.any (badE n)) ∧ Below w.heap.size w w' := by
  obtain ⟨ao, cap, rfl, h⟩ := hp
  go_enter Try.func63, Try.ntmps63
  go_wp2
  go_loopw [5, 8] (fun _ i wr => ∃ k : Nat, k ≤ l.length ∧ i = .int .i64 k ∧ Below w.heap.size w wr ∧ Hid (∀ (j : Nat) y, j < k → l[j]? = some y → badE n y = false)) (fun _ i _ => l.length - (intOf i).toNat)
  case atStart => exact ⟨0, Nat.zero_le _, rfl, Below.refl _ _, fun j _ hj => by omega⟩
  case round =>
    obtain ⟨k, hk, rfl, hBr, hno⟩ := hrel
    have hz := hBr.size
    have hBr1 := (hBr.cell (p := ⟨B, 0, none⟩) hlt).trans hB
    by_cases hk2 : k < l.length
    · obtain ⟨b, off, rfl, hbl, hc⟩ := h (by omega)
      obtain ⟨⟨x, y⟩, hy⟩ : ∃ y, l[k]? = some y := ⟨_, List.getElem?_eq_getElem hk2⟩
      obtain ⟨hc1, hc2⟩ := hc k _ hy
      have hd1 := (hBr.cell (p := ⟨b, off + k * 2, none⟩) hbl).trans hc1
      have hd2 := (hBr.cell (p := ⟨b, off + k * 2 + 1, none⟩) hbl).trans hc2
      have HY := Lib.hid hy
      clear hy hc h hc1 hc2
      cases hx : badE n (x, y)
      · have HX := Lib.hid hx
        clear hx
        go_wp2_with (first
          | (go_at_call 50; refine (badE_any n x y B _ hBr1 (by omega)).mono ?_; rw [HX.out]; rintro e w9 ⟨rfl, hb1⟩; have hB2 := bstep (w := w) (by go_grown) hb1))
        go_roundw
        case rel => exact ⟨k + 1, by omega, by go_num, by go_grown, fun j z hj hz => by
          by_cases e : j = k
          · subst e; rw [HY.out] at hz; cases hz; exact HX.out
          · exact hno j z (by omega) hz⟩
        case measure => simp [intOf]; omega
      · have HX := Lib.hid hx
        clear hx
        go_wp2_with (first
          | (go_at_call 50; refine (badE_any n x y B _ hBr1 (by omega)).mono ?_; rw [HX.out]; rintro e w9 ⟨rfl, hb1⟩; have hB2 := bstep (w := w) (by go_grown) hb1))
        go_ret
        exact ⟨⟨k, rfl, by
          rw [List.any_eq_true.2 ⟨_, List.mem_of_getElem? HY.out, HX.out⟩]; simp⟩, by go_grown⟩
    · clear h
      go_wp2
      go_ret
      exact ⟨⟨-1, rfl, by
        rw [show l.any (badE n) = false from List.any_eq_false.2 fun x hx => by
          obtain ⟨j, hj, rfl⟩ := List.getElem_of_mem hx
          rw [hno j _ (by omega) (List.getElem?_eq_getElem hj)]; simp]; rfl⟩, by go_grown⟩

theorem anyBad_any (n : Int) (v : Value) (l : List (Int × Int)) (B : Nat) (w : World) (hp : Pairs w v l) (hl : l.length ≤ 140737488355328) (hB : w.cell? ⟨B, 0, none⟩ = some (.int .i64 n)) (hlt : B < w.heap.size) :
    Calls Try.prog 49 #[v, .func (.func 50) #[] #[.pointer (some ⟨B, 0, none⟩)]] w fun e w' =>
      e = .returned (.bool (l.any (badE n))) ∧ Below w.heap.size w w' := by
  go_enter Try.func49, Try.ntmps49
  go_wp2_with (first
    | (go_at_call 63; refine (indexBad_any n _ l B _ hp hl hB hlt).mono ?_; rintro e w9 ⟨⟨i, rfl, hi⟩, hb1⟩; have HI := Lib.hid hi; clear hi))
  go_ret
  exact ⟨ret_bool HI.out, by go_grown⟩

/-- Is it a graph? -/
def vld (n : Int) (l : List (Int × Int)) : Bool := decide (0 ≤ n ∧ n ≤ 1000 ∧ l.length ≤ 4000) && !l.any (badE n)

set_option maxHeartbeats 400000 in
theorem valid_any (n : Int) (v : Value) (l : List (Int × Int)) (w : World) (hp : Pairs w v l) (hl : l.length ≤ 140737488355328) :
    Calls Try.prog 19 #[.int .i64 n, v] w fun e w' => e = .returned (.bool (vld n l)) ∧ Below w.heap.size w w' := by
  have hp1 := hp.below (below_new w (.cells #[.int .i64 n] 3))
  by_cases hh : 0 ≤ n ∧ n ≤ 1000 ∧ l.length ≤ 4000
  · have E := Lib.hid (show vld n l = !l.any (badE n) by rw [vld, dec_yes hh]; simp)
    obtain ⟨h1, h2, h3⟩ := hh
    obtain ⟨ao, cap, rfl, h⟩ := hp
    clear h
    cases hx : l.any (badE n)
    all_goals
      have HX := Lib.hid hx
      clear hx
      go_enter Try.func19, Try.ntmps19
      go_wp2_with (first
        | (go_at_call 49; refine (anyBad_any n _ l w.heap.size _ hp1 hl (by go_cell) (by simp)).mono ?_; rw [HX.out]; rintro e w9 ⟨rfl, hb1⟩; have hB2 := bstep (w := w) (by go_grown) hb1))
      go_ret
      exact ⟨ret_bool (by rw [E.out, HX.out]; rfl), by go_grown⟩
  · have E := Lib.hid (show vld n l = false by rw [vld, dec_no hh]; simp)
    obtain ⟨ao, cap, rfl, h⟩ := hp
    clear h hp1
    by_cases h1 : n < 0
    · clear hh
      go_enter Try.func19, Try.ntmps19
      go_wp2
      go_ret
      exact ⟨ret_bool E.out.symm, by go_grown⟩
    · by_cases h2 : 1000 < n
      · clear hh
        go_enter Try.func19, Try.ntmps19
        go_wp2
        go_ret
        exact ⟨ret_bool E.out.symm, by go_grown⟩
      · have h3 : 4000 < l.length := by omega
        clear hh
        go_enter Try.func19, Try.ntmps19
        go_wp2
        go_ret
        exact ⟨ret_bool E.out.symm, by go_grown⟩
end Go.Proofs.Ytcaeemcobgopmaa
