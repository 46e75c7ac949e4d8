/-
  The library's Index, Contains and Equal at []int.
-/
import Derived.Test.YtpiigmhbbcjamaaGreatMem
namespace Go.Proofs.YtpiigmhbbcjamaaGreat
open Go.RowKit
set_option linter.unusedVariables false

theorem elemInt : Elem Tryz.prog 65 3 8 := elem_of (z := .int .i64 0) Tryz.underlying65 (by kernel_rfl) rfl

def idxOf (l : List Int) (x : Int) : Int := match l.findIdx? (· == x) with | some i => (i : Int) | none => -1

/-- The first k elements are not x. -/
theorem idxOf_hit (l : List Int) (x : Int) (k : Nat) (hno : ∀ (j : Nat) y, j < k → l[j]? = some y → y ≠ x) (hx : l[k]? = some x) : idxOf l x = k := by
  have hk : k < l.length := (List.getElem?_eq_some_iff.1 hx).1
  have : l.findIdx? (· == x) = some k := by
    rw [List.findIdx?_eq_some_iff_getElem]
    refine ⟨hk, ?_, fun j hj => ?_⟩
    · have := (List.getElem?_eq_some_iff.1 hx).2
      simp [this]
    · have := hno j _ hj (List.getElem?_eq_getElem (by omega))
      simpa using this
  simp [idxOf, this]
theorem idxOf_miss (l : List Int) (x : Int) (hno : ∀ (j : Nat) y, l[j]? = some y → y ≠ x) : idxOf l x = -1 := by
  have : l.findIdx? (· == x) = none := by
    rw [List.findIdx?_eq_none_iff]
    intro y hy
    obtain ⟨j, hj, rfl⟩ := List.getElem_of_mem hy
    have := hno j _ (List.getElem?_eq_getElem hj)
    simpa using this
  simp [idxOf, this]

theorem idxOf_mem (l : List Int) (x : Int) : decide (0 ≤ idxOf l x) = decide (x ∈ l) := by
  unfold idxOf
  cases h : l.findIdx? (· == x) with
  | some i =>
    obtain ⟨hi, hx, _⟩ := List.findIdx?_eq_some_iff_getElem.1 h
    have : x ∈ l := by
      have := List.getElem_mem hi
      rw [show l[i] = x by simpa using hx] at this
      exact this
    simp [this]
  | none =>
    rw [List.findIdx?_eq_none_iff] at h
    have : x ∉ l := fun hm => by simpa using h x hm
    simp [this]

set_option maxHeartbeats 400000 in
theorem index_any (v : Value) (l : List Int) (x : Int) (w : World) (h : Ints w v l) (hl : l.length ≤ 140737488355328) :
    Calls Tryz.prog 78 #[v, .int .i64 x] w fun e w' => e = .returned (.int .i64 (idxOf l x)) ∧ w = w' := by
  obtain ⟨ao, cap, rfl, h⟩ := h
  go_enter Tryz.func78, Tryz.ntmps78
  go_wp2
  go_loop [5, 8] (fun _ i => ∃ k : Nat, k ≤ l.length ∧ i = .int .i64 k ∧ Hid (∀ (j : Nat) y, j < k → l[j]? = some y → y ≠ x)) (fun _ i => l.length - (intOf i).toNat)
  case atStart => exact ⟨0, Nat.zero_le _, rfl, fun j _ hj => by omega⟩
  case round =>
    obtain ⟨k, hk, rfl, hno⟩ := hrel
    by_cases hlt : k < l.length
    · obtain ⟨b, off, rfl, _, hc⟩ := h (by omega)
      obtain ⟨y, hy⟩ : ∃ y, l[k]? = some y := ⟨_, List.getElem?_eq_getElem hlt⟩
      have hck := hc k y hy
      clear hc h
      have HY := Lib.hid hy
      clear hy
      by_cases hx : x = y
      · subst hx
        go_wp2
        go_ret
        exact ⟨ret_int (idxOf_hit l x k hno HY.out).symm, rfl⟩
      · have hxb := beq_no hx
        have HX := Lib.hid hx
        clear hx
        go_wp2
        go_round
        case rel => exact ⟨k + 1, by omega, by go_num, fun j z hj hz => by
          by_cases e : j = k
          · subst e; rw [HY.out] at hz; cases hz; exact fun e => HX.out e.symm
          · exact hno j z (by omega) hz⟩
        case measure => simp [intOf]; omega
    · clear h
      go_wp2
      go_ret
      exact ⟨ret_int (idxOf_miss l x (fun j y hy => hno j y (by have := (List.getElem?_eq_some_iff.1 hy).1; omega) hy)).symm, rfl⟩

theorem contains_any (v : Value) (l : List Int) (x : Int) (w : World) (h : Ints w v l) (hl : l.length ≤ 140737488355328) :
    Calls Tryz.prog 55 #[v, .int .i64 x] w fun e w' => e = .returned (.bool (decide (x ∈ l))) ∧ w = w' := by
  have E := Lib.hid (idxOf_mem l x)
  go_enter Tryz.func55, Tryz.ntmps55
  go_wp2_with (first
    | (go_at_call 78; refine (index_any _ l _ _ h hl).mono ?_; rintro e w9 ⟨rfl, rfl⟩))
  go_ret
  exact ⟨ret_bool E.out, rfl⟩

end Go.Proofs.YtpiigmhbbcjamaaGreat
