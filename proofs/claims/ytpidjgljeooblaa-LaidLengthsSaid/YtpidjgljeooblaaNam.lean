/-
  Names: letters, digits, words; IsName of the program and of the reference.
-/
import Derived.Test.YtpidjgljeooblaaMem
namespace Go.Proofs.Ytpidjgljeooblaa
open Go.RowKit
set_option linter.unusedVariables false
set_option linter.unusedSimpArgs false

def letterI (n : Int) : Bool := decide ((97 ≤ n ∧ n ≤ 122) ∨ (65 ≤ n ∧ n ≤ 90))
def digitI (n : Int) : Bool := decide (48 ≤ n ∧ n ≤ 57)
def wordI (n : Int) : Bool := letterI n || digitI n || decide (n = 95)
def wordN (s : ByteArray) : Nat := (s.data.toList.takeWhile fun c => wordI (c.toNat : Int)).length
def nameB (s : ByteArray) : Bool := if h : 0 < s.size then decide (s.size ≤ 20) && letterI (s[0].toNat : Int) && decide (wordN s = s.size) else false

theorem letter_any (n : Int) (w : World) : Calls Try.prog 93 #[.int .u8 n] w fun e w' => e = .returned (.bool (letterI n)) ∧ w = w' := by
  go_enter Try.func93, Try.ntmps93
  go_wp2
  all_goals
    go_ret
    refine ⟨ret_bool ?_, rfl⟩
    unfold letterI
    rw [Bool.eq_iff_iff]; simp only [decide_eq_true_eq, Bool.false_eq_true, false_iff, true_iff, Bool.or_eq_true, Bool.and_eq_true]
    try omega
theorem rletter_any (n : Int) (w : World) : Calls Try.prog 99 #[.int .u8 n] w fun e w' => e = .returned (.bool (letterI n)) ∧ w = w' := by
  go_enter Try.func99, Try.ntmps99
  go_wp2
  all_goals
    go_ret
    refine ⟨ret_bool ?_, rfl⟩
    unfold letterI
    rw [Bool.eq_iff_iff]; simp only [decide_eq_true_eq, Bool.false_eq_true, false_iff, true_iff, Bool.or_eq_true, Bool.and_eq_true]
    try omega
theorem digit_any (n : Int) (w : World) : Calls Try.prog 108 #[.int .u8 n] w fun e w' => e = .returned (.bool (digitI n)) ∧ w = w' := by
  go_enter Try.func108, Try.ntmps108
  go_wp2
  all_goals
    go_ret
    refine ⟨ret_bool ?_, rfl⟩
    unfold digitI
    rw [Bool.eq_iff_iff]; simp only [decide_eq_true_eq, Bool.false_eq_true, false_iff, true_iff, Bool.or_eq_true, Bool.and_eq_true]
    try omega
theorem rdigit_any (n : Int) (w : World) : Calls Try.prog 110 #[.int .u8 n] w fun e w' => e = .returned (.bool (digitI n)) ∧ w = w' := by
  go_enter Try.func110, Try.ntmps110
  go_wp2
  all_goals
    go_ret
    refine ⟨ret_bool ?_, rfl⟩
    unfold digitI
    rw [Bool.eq_iff_iff]; simp only [decide_eq_true_eq, Bool.false_eq_true, false_iff, true_iff, Bool.or_eq_true, Bool.and_eq_true]
    try omega

theorem takeWhile_len {α : Type} (p : α → Bool) : ∀ (l : List α) (k : Nat), k ≤ l.length → (∀ (j : Nat) x, j < k → l[j]? = some x → p x = true) → (∀ x, l[k]? = some x → p x = false) → (l.takeWhile p).length = k
  | [], k, hk, _, _ => by simp at hk; subst hk; rfl
  | a :: l, 0, _, _, h2 => by
    rw [List.takeWhile_cons_of_neg (by rw [h2 a rfl]; simp)]; rfl
  | a :: l, k + 1, hk, h1, h2 => by
    rw [List.takeWhile_cons_of_pos (h1 0 a (by omega) rfl), List.length_cons, takeWhile_len p l k (by simpa using hk) (fun j x hj hx => h1 (j + 1) x (by omega) (by simpa using hx)) (fun x hx => h2 x (by simpa using hx))]
theorem wordN_is (s : ByteArray) (k : Nat) (hk : k ≤ s.size) (h1 : ∀ (j : Nat) x, j < k → s.data.toList[j]? = some x → wordI (x.toNat : Int) = true) (h2 : ∀ x, s.data.toList[k]? = some x → wordI (x.toNat : Int) = false) : wordN s = k :=
  takeWhile_len _ _ k (by simpa using hk) h1 h2
theorem byte_at (s : ByteArray) (k : Nat) (h : k < s.size) : s.data.toList[k]? = some s[k] := by
  rw [List.getElem?_eq_getElem (by simpa using h)]; rfl

set_option maxHeartbeats 1000000 in
theorem word_any (s : ByteArray) (w : World) (hs : s.size ≤ maxLen) : Calls Try.prog 94 #[.string s] w fun e w' => e = .returned (.int .i64 (wordN s)) ∧ w = w' := by
  unfold maxLen at hs
  go_enter Try.func94, Try.ntmps94
  go_wp2
  go_loop [3] (fun i => ∃ k : Nat, k ≤ s.size ∧ i = .int .i64 k ∧ Hid (∀ (j : Nat) x, j < k → s.data.toList[j]? = some x → wordI (x.toNat : Int) = true)) (fun i => s.size - (intOf i).toNat)
  case atStart => exact ⟨0, Nat.zero_le _, rfl, fun j x hj _ => by omega⟩
  case round =>
    obtain ⟨k, hk, rfl, HN⟩ := hrel
    by_cases hlt : k < s.size
    · have HB := Lib.hid (byte_at s k hlt)
      have HU : Hid (wordI (s[k].toNat : Int) = (letterI (s[k].toNat : Int) || digitI (s[k].toNat : Int) || ((s[k].toNat : Int) == 95))) := by unfold Hid wordI; congr 1
      go_wp2_with (first
        | (go_at_call 93; refine (letter_any _ _).mono ?_; rintro e w9 ⟨rfl, rfl⟩)
        | (go_at_call 108; refine (digit_any _ _).mono ?_; rintro e w9 ⟨rfl, rfl⟩))
      all_goals first
        | (go_round
           case rel => exact ⟨k + 1, by omega, by go_num, fun j x hj hx => by
              by_cases e : j = k
              · subst e; rw [HB.out] at hx; cases hx; rw [HU.out]; simp [*]
              · exact HN.out j x (by omega) hx⟩
           case measure => simp [intOf]; omega)
        | (go_ret
           exact ⟨ret_int (congrArg _ (wordN_is s k hk HN.out (fun x hx => by rw [HB.out] at hx; cases hx; rw [HU.out]; simp [*])).symm), rfl⟩)
    · go_wp2
      go_ret
      exact ⟨ret_int (congrArg _ (wordN_is s k hk HN.out (fun x hx => by
        have := (List.getElem?_eq_some_iff.1 hx).1
        simp at this; omega)).symm), rfl⟩
set_option maxHeartbeats 1000000 in
theorem rword_any (s : ByteArray) (w : World) (hs : s.size ≤ maxLen) : Calls Try.prog 100 #[.string s, .int .i64 0] w fun e w' => e = .returned (.int .i64 (wordN s)) ∧ w = w' := by
  unfold maxLen at hs
  go_enter Try.func100, Try.ntmps100
  go_wp2
  go_loop [1] (fun i => ∃ k : Nat, k ≤ s.size ∧ i = .int .i64 k ∧ Hid (∀ (j : Nat) x, j < k → s.data.toList[j]? = some x → wordI (x.toNat : Int) = true)) (fun i => s.size - (intOf i).toNat)
  case atStart => exact ⟨0, Nat.zero_le _, rfl, fun j x hj _ => by omega⟩
  case round =>
    obtain ⟨k, hk, rfl, HN⟩ := hrel
    by_cases hlt : k < s.size
    · have HB := Lib.hid (byte_at s k hlt)
      have HU : Hid (wordI (s[k].toNat : Int) = (letterI (s[k].toNat : Int) || digitI (s[k].toNat : Int) || ((s[k].toNat : Int) == 95))) := by unfold Hid wordI; congr 1
      go_wp2_with (first
        | (go_at_call 99; refine (rletter_any _ _).mono ?_; rintro e w9 ⟨rfl, rfl⟩)
        | (go_at_call 110; refine (rdigit_any _ _).mono ?_; rintro e w9 ⟨rfl, rfl⟩))
      all_goals first
        | (go_round
           case rel => exact ⟨k + 1, by omega, by go_num, fun j x hj hx => by
              by_cases e : j = k
              · subst e; rw [HB.out] at hx; cases hx; rw [HU.out]; simp [*]
              · exact HN.out j x (by omega) hx⟩
           case measure => simp [intOf]; omega)
        | (go_ret
           exact ⟨ret_int (congrArg _ (wordN_is s k hk HN.out (fun x hx => by rw [HB.out] at hx; cases hx; rw [HU.out]; simp [*])).symm), rfl⟩)
    · go_wp2
      go_ret
      exact ⟨ret_int (congrArg _ (wordN_is s k hk HN.out (fun x hx => by
        have := (List.getElem?_eq_some_iff.1 hx).1
        simp at this; omega)).symm), rfl⟩

theorem nameB_none {s : ByteArray} (h : s.size = 0) : nameB s = false := by unfold nameB; rw [dif_neg (by omega)]
theorem nameB_some {s : ByteArray} (h : 0 < s.size) : nameB s = (decide (s.size ≤ 20) && letterI (s[0].toNat : Int) && decide (wordN s = s.size)) := by unfold nameB; rw [dif_pos h]

theorem bytes_some {s : ByteArray} (h : 0 < s.size) : s.toList.isEmpty = false := by
  rw [ByteArray.toList_eq]
  cases hl : s.data.toList with
  | nil =>
    exfalso
    have h2 : s.data.toList.length = 0 := by rw [hl]; rfl
    have h3 : s.data.toList.length = s.size := by simp
    omega
  | cons _ _ => rfl
theorem bytes_none {s : ByteArray} (h : s.size = 0) : s.toList.isEmpty = true := by
  rw [ByteArray.toList_eq]
  cases hl : s.data.toList with
  | nil => rfl
  | cons a l =>
    exfalso
    have h2 : s.data.toList.length = l.length + 1 := by rw [hl]; rfl
    have h3 : s.data.toList.length = s.size := by simp
    omega

set_option maxHeartbeats 1000000 in
theorem name_any (s : ByteArray) (w : World) (hs : s.size ≤ maxLen) : Calls Try.prog 75 #[.string s] w fun e w' => e = .returned (.bool (nameB s)) ∧ w = w' := by
  have HW := Lib.hid (fun W => word_any s W hs)
  unfold maxLen at hs
  by_cases h0 : 0 < s.size
  · have HE := Lib.hid (nameB_some h0)
    have h1 := bytes_some h0
    go_enter Try.func75, Try.ntmps75
    go_wp2_with (first
      | (go_at_call 93; refine (letter_any _ _).mono ?_; rintro e w9 ⟨rfl, rfl⟩)
      | (go_at_call 94; refine (HW.out _).mono ?_; rintro e w9 ⟨rfl, rfl⟩))
    all_goals
      go_ret
      refine ⟨ret_bool ?_, rfl⟩
      rw [HE.out, Bool.eq_iff_iff]
      simp [*]
      try omega
  · have h1 := bytes_none (s := s) (by omega)
    have HE := Lib.hid (nameB_none (s := s) (by omega))
    go_enter Try.func75, Try.ntmps75
    go_wp2
    go_ret
    exact ⟨ret_bool HE.out.symm, rfl⟩

set_option maxHeartbeats 1000000 in
theorem rname_any (s : ByteArray) (w : World) (hs : s.size ≤ maxLen) : Calls Try.prog 81 #[.string s] w fun e w' => e = .returned (.bool (nameB s)) ∧ w = w' := by
  have HW := Lib.hid (fun W => rword_any s W hs)
  unfold maxLen at hs
  by_cases h0 : 0 < s.size
  · have HE := Lib.hid (nameB_some h0)
    have h1 : ((s.size : Int) == 0) = false := beq_no (by omega)
    rcases Nat.lt_or_ge 20 s.size with h20 | h20
    · have i20 : (20 : Int) < (s.size : Int) := by omega
      have HF := Lib.hid (show nameB s = false by rw [HE.out, dec_no (by omega)]; rfl)
      clear h20
      go_enter Try.func81, Try.ntmps81
      go_wp2
      go_ret
      exact ⟨ret_bool HF.out.symm, rfl⟩
    · have i20 : ¬ (20 : Int) < (s.size : Int) := by omega
      cases hb : letterI (s[0].toNat : Int)
      · have HF := Lib.hid (show nameB s = false by rw [HE.out, hb, Bool.and_false]; rfl)
        clear h20
        go_enter Try.func81, Try.ntmps81
        go_wp2_with (first
          | (go_at_call 99; refine (rletter_any _ _).mono ?_; rintro e w9 ⟨rfl, rfl⟩)
          | (go_at_call 100; refine (HW.out _).mono ?_; rintro e w9 ⟨rfl, rfl⟩))
        go_ret
        exact ⟨ret_bool HF.out.symm, rfl⟩
      · have HF := Lib.hid (show nameB s = ((wordN s : Int) == (s.size : Int)) by rw [HE.out, hb, dec_yes h20, Bool.eq_iff_iff]; simp; omega)
        clear h20
        go_enter Try.func81, Try.ntmps81
        go_wp2_with (first
          | (go_at_call 99; refine (rletter_any _ _).mono ?_; rintro e w9 ⟨rfl, rfl⟩)
          | (go_at_call 100; refine (HW.out _).mono ?_; rintro e w9 ⟨rfl, rfl⟩))
        go_ret
        exact ⟨ret_bool HF.out.symm, rfl⟩
  · have h1 : ((s.size : Int) == 0) = true := beq_yes (by omega)
    have HE := Lib.hid (nameB_none (s := s) (by omega))
    go_enter Try.func81, Try.ntmps81
    go_wp2
    go_ret
    exact ⟨ret_bool HE.out.symm, rfl⟩
end Go.Proofs.Ytpidjgljeooblaa
