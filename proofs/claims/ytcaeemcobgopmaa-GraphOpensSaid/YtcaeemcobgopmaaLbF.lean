/-
  The library's ContainsFunc and IndexFunc at [][]int, with any function value; Contains at nodes; the laws' right.
-/
import Derived.Test.YtcaeemcobgopmaaLw0
namespace Go.Proofs.Ytcaeemcobgopmaa
open Go.RowKit
set_option linter.unusedVariables false

theorem containsN_any (v : Value) (l : List Nat) (x : Nat) (w : World) (h : Nats w v l) (hl : l.length ≤ 140737488355328) :
    Calls Try.prog 26 #[v, .int .i64 (x : Int)] w fun e w' => e = .returned (.bool (decide (x ∈ l))) ∧ w = w' := by
  refine (contains_any v _ (x : Int) w h.ints (by simpa using hl)).mono ?_
  rintro e w' ⟨rfl, rfl⟩
  exact ⟨ret_bool (decide_eq_decide.2 ⟨fun h => by
    obtain ⟨y, hy, e⟩ := List.mem_map.1 h
    have : y = x := by omega
    rw [← this]; exact hy, fun h => List.mem_map.2 ⟨x, h, rfl⟩⟩), rfl⟩

set_option maxHeartbeats 400000 in
theorem indexRows_any (F : Nat) (caps : Array Value) (P : List Nat → Bool) (v : Value) (rows : List (List Nat)) (w : World) (h : Rows w v rows) (hl : rows.length ≤ 1000000) (hF : ∀ (xs : Array Value) (W : World), (callFunc F xs).run Try.prog W = .ok (.enter F xs) W)
    (hC : ∀ (u : Value) (r : List Nat) (W : World), Below w.heap.size w W → r ∈ rows → Nats W u r → Calls Try.prog F (#[u] ++ caps) W fun e w1 => e = .returned (.bool (P r)) ∧ Below W.heap.size W w1) :
    Calls Try.prog 52 #[v, .func (.func F) #[] caps] w fun e w' => (∃ i : Int, e = .returned (.int .i64 i) ∧ decide (0 ≤ i) = rows.any P) ∧ Below w.heap.size w w' := by
  have H := Lib.hid h
  have HC := Lib.hid hC
  obtain ⟨ao, cap, rfl, _⟩ := h
  clear hC
  go_enter Try.func52, Try.ntmps52
  go_wp2
  go_loopw [5, 8] (fun _ i wr => ∃ k : Nat, k ≤ rows.length ∧ i = .int .i64 k ∧ Below w.heap.size w wr ∧ Hid (∀ (j : Nat) y, j < k → rows[j]? = some y → P y = false)) (fun _ i _ => rows.length - (intOf i).toNat)
  case atStart => exact ⟨0, Nat.zero_le _, rfl, Below.refl _ _, fun j _ hj => by omega⟩
  case round =>
    obtain ⟨k, hk, rfl, hB, hno⟩ := hrel
    by_cases hlt : k < rows.length
    · obtain ⟨r, hr⟩ : ∃ r, rows[k]? = some r := ⟨_, List.getElem?_eq_getElem hlt⟩
      obtain ⟨b, off, rfl, hbl, uo, uc, c1, N⟩ := rows_get (H.out.below hB) hr
      have HK := Lib.hid (HC.out _ r wr hB (List.mem_of_getElem? hr) N)
      have HR := Lib.hid hr
      obtain ⟨p, hp⟩ : ∃ p, P r = p := ⟨_, rfl⟩
      rw [hp] at HK
      have HP := Lib.hid hp
      clear N hr hp
      cases p
      · go_wp2_with fail
        refine HK.out.mono ?_
        rintro e w9 ⟨rfl, hb9⟩
        have hB9 := bstep hB hb9
        go_wp2
        go_roundw
        case rel => exact ⟨k + 1, by omega, by go_num, hB9, fun j y hj hy => by
          by_cases e : j = k
          · subst e; rw [HR.out] at hy; cases hy; exact HP.out
          · exact hno j y (by omega) hy⟩
        case measure => simp [intOf]; omega
      · go_wp2_with fail
        refine HK.out.mono ?_
        rintro e w9 ⟨rfl, hb9⟩
        have hB9 := bstep hB hb9
        go_wp2
        go_ret
        exact ⟨⟨k, rfl, by rw [List.any_eq_true.2 ⟨_, List.mem_of_getElem? HR.out, HP.out⟩]; simp⟩, hB9⟩
    · go_wp2
      go_ret
      exact ⟨⟨-1, rfl, by
        rw [show rows.any P = false from List.any_eq_false.2 fun x hx => by
          obtain ⟨j, hj, rfl⟩ := List.getElem_of_mem hx
          rw [hno j _ (by omega) (List.getElem?_eq_getElem hj)]; simp]; rfl⟩, hB⟩

theorem anyRows_any (F : Nat) (caps : Array Value) (P : List Nat → Bool) (v : Value) (rows : List (List Nat)) (w : World) (h : Rows w v rows) (hl : rows.length ≤ 1000000) (hF : ∀ (xs : Array Value) (W : World), (callFunc F xs).run Try.prog W = .ok (.enter F xs) W)
    (hC : ∀ (u : Value) (r : List Nat) (W : World), Below w.heap.size w W → r ∈ rows → Nats W u r → Calls Try.prog F (#[u] ++ caps) W fun e w1 => e = .returned (.bool (P r)) ∧ Below W.heap.size W w1) :
    Calls Try.prog 24 #[v, .func (.func F) #[] caps] w fun e w' => e = .returned (.bool (rows.any P)) ∧ Below w.heap.size w w' := by
  have HI := Lib.hid (indexRows_any F caps P v rows w h hl hF hC)
  clear hC hF
  go_enter Try.func24, Try.ntmps24
  go_wp2_with fail
  refine HI.out.mono ?_
  rintro e w9 ⟨⟨i, rfl, hi⟩, hb1⟩
  have HR := Lib.hid hi
  clear hi
  go_wp2
  go_ret
  exact ⟨ret_bool HR.out, hb1⟩

/-! ### right -/
def rgt (n : Int) (l : List (Int × Int)) : Bool := decide (n ≤ 30 ∧ l.length ≤ 40) && vld n l
theorem right_any (n : Int) (v : Value) (l : List (Int × Int)) (w : World) (hp : Pairs w v l) (hl : l.length ≤ 140737488355328) :
    Calls Try.prog 23 #[.int .i64 n, v] w fun e w' => e = .returned (.bool (rgt n l)) ∧ Below w.heap.size w w' := by
  have HP := Lib.hid hp
  obtain ⟨ao, cap, rfl, _⟩ := hp
  by_cases h1 : n ≤ 30
  · by_cases h2 : l.length ≤ 40
    · have E := Lib.hid (show rgt n l = vld n l by unfold rgt; rw [dec_yes ⟨h1, h2⟩]; simp)
      go_enter Try.func23, Try.ntmps23
      go_wp2_with fail
      refine (rvalid_any n _ l _ HP.out hl).mono ?_
      rintro e w9 ⟨rfl, hb1⟩
      go_wp2
      go_ret
      exact ⟨ret_bool E.out.symm, hb1⟩
    · have E := Lib.hid (show rgt n l = false by unfold rgt; rw [dec_no (fun h => h2 h.2)]; simp)
      go_enter Try.func23, Try.ntmps23
      go_wp2
      go_ret
      exact ⟨ret_bool E.out.symm, Below.refl _ _⟩
  · have E := Lib.hid (show rgt n l = false by unfold rgt; rw [dec_no (fun h => h1 h.1)]; simp)
    go_enter Try.func23, Try.ntmps23
    go_wp2
    go_ret
    exact ⟨ret_bool E.out.symm, Below.refl _ _⟩
end Go.Proofs.Ytcaeemcobgopmaa
