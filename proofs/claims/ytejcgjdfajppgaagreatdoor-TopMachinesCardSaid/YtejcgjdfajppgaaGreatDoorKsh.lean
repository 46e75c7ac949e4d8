/-
  Base texts, shaken by wip/shake.py: Shp.
-/
import Derived.Test.YtejcgjdfajppgaaGreatDoorKmm
import Derived.Test.YtejcgjdfajppgaaGreatDoorKld
namespace Go.Proofs.YtejcgjdfajppgaaGreatDoor
section
section
open Go.RowKit
set_option linter.unusedVariables false
set_option linter.unusedSimpArgs false

def letterI (n : Int) : Bool := decide ((97 ≤ n ∧ n ≤ 122) ∨ (65 ≤ n ∧ n ≤ 90))
def digitI (n : Int) : Bool := decide (48 ≤ n ∧ n ≤ 57)
def wordI (n : Int) : Bool := letterI n || digitI n || decide (n = 95)
def wordN (s : ByteArray) : Nat := (s.data.toList.takeWhile fun c => wordI (c.toNat : Int)).length
def nameB (s : ByteArray) : Bool := if h : 0 < s.size then decide (s.size ≤ 20) && letterI (s[0].toNat : Int) && decide (wordN s = s.size) else false

theorem letter_any (n : Int) (w : World) : Calls Tryz.prog 46 #[.int .u8 n] w fun e w' => e = .returned (.bool (letterI n)) ∧ w = w' := by
  go_enter Tryz.func46, Tryz.ntmps46
  go_wp2
  all_goals
    go_ret
    refine ⟨ret_bool ?_, rfl⟩
    unfold letterI
    rw [Bool.eq_iff_iff]; simp only [decide_eq_true_eq, Bool.false_eq_true, false_iff, true_iff, Bool.or_eq_true, Bool.and_eq_true]
    try omega
theorem digit_any (n : Int) (w : World) : Calls Tryz.prog 69 #[.int .u8 n] w fun e w' => e = .returned (.bool (digitI n)) ∧ w = w' := by
  go_enter Tryz.func69, Tryz.ntmps69
  go_wp2
  all_goals
    go_ret
    refine ⟨ret_bool ?_, rfl⟩
    unfold digitI
    rw [Bool.eq_iff_iff]; simp only [decide_eq_true_eq, Bool.false_eq_true, false_iff, true_iff, Bool.or_eq_true, Bool.and_eq_true]
    try omega
theorem takeWhile_len {α : Type} (p : α → Bool) : ∀ (l : List α) (k : Nat), k ≤ l.length → (∀ (j : Nat) x, j < k → l[j]? = some x → p x = true) → (∀ x, l[k]? = some x → p x = false) → (l.takeWhile p).length = k
  | [], k, hk, _, _ => by simp at hk; subst hk; rfl
  | a :: l, 0, _, _, h2 => by
    rw [List.takeWhile_cons_of_neg (by rw [h2 a rfl]; simp)]; rfl
  | a :: l, k + 1, hk, h1, h2 => by
    rw [List.takeWhile_cons_of_pos (h1 0 a (by omega) rfl), List.length_cons, takeWhile_len p l k (by simpa using hk) (fun j x hj hx => h1 (j + 1) x (by omega) (by simpa using hx)) (fun x hx => h2 x (by simpa using hx))]
theorem wordN_is (s : ByteArray) (k : Nat) (hk : k ≤ s.size) (h1 : ∀ (j : Nat) x, j < k → s.data.toList[j]? = some x → wordI (x.toNat : Int) = true) (h2 : ∀ x, s.data.toList[k]? = some x → wordI (x.toNat : Int) = false) : wordN s = k :=
  takeWhile_len _ _ k (by simpa using hk) h1 h2
theorem byte_at (s : ByteArray) (k : Nat) (h : k < s.size) : s.data.toList[k]? = some s[k] := by
  rw [List.getElem?_eq_getElem (by simpa using h)]; rfl

set_option maxHeartbeats 1000000 in
theorem word_any (s : ByteArray) (w : World) (hs : s.size ≤ maxLen) : Calls Tryz.prog 47 #[.string s] w fun e w' => e = .returned (.int .i64 (wordN s)) ∧ w = w' := by
  unfold maxLen at hs
  go_enter Tryz.func47, Tryz.ntmps47
  go_wp2
  go_loop [3] (fun i => ∃ k : Nat, k ≤ s.size ∧ i = .int .i64 k ∧ Hid (∀ (j : Nat) x, j < k → s.data.toList[j]? = some x → wordI (x.toNat : Int) = true)) (fun i => s.size - (intOf i).toNat)
  case atStart => exact ⟨0, Nat.zero_le _, rfl, fun j x hj _ => by omega⟩
  case round =>
    obtain ⟨k, hk, rfl, HN⟩ := hrel
    by_cases hlt : k < s.size
    · have HB := Lib.hid (byte_at s k hlt)
      have HU : Hid (wordI (s[k].toNat : Int) = (letterI (s[k].toNat : Int) || digitI (s[k].toNat : Int) || ((s[k].toNat : Int) == 95))) := by unfold Hid wordI; congr 1
      go_wp2_with (first
        | (go_at_call 46; refine (letter_any _ _).mono ?_; rintro e w9 ⟨rfl, rfl⟩)
        | (go_at_call 69; refine (digit_any _ _).mono ?_; rintro e w9 ⟨rfl, rfl⟩))
      all_goals first
        | (go_round
           case rel => exact ⟨k + 1, by omega, by go_num, fun j x hj hx => by
              by_cases e : j = k
              · subst e; rw [HB.out] at hx; cases hx; rw [HU.out]; simp [*]
              · exact HN.out j x (by omega) hx⟩
           case measure => simp [intOf]; omega)
        | (go_ret
           exact ⟨ret_int (congrArg _ (wordN_is s k hk HN.out (fun x hx => by rw [HB.out] at hx; cases hx; rw [HU.out]; simp [*])).symm), rfl⟩)
    · go_wp2
      go_ret
      exact ⟨ret_int (congrArg _ (wordN_is s k hk HN.out (fun x hx => by
        have := (List.getElem?_eq_some_iff.1 hx).1
        simp at this; omega)).symm), rfl⟩
theorem nameB_none {s : ByteArray} (h : s.size = 0) : nameB s = false := by unfold nameB; rw [dif_neg (by omega)]
theorem nameB_some {s : ByteArray} (h : 0 < s.size) : nameB s = (decide (s.size ≤ 20) && letterI (s[0].toNat : Int) && decide (wordN s = s.size)) := by unfold nameB; rw [dif_pos h]

theorem bytes_some {s : ByteArray} (h : 0 < s.size) : s.toList.isEmpty = false := by
  rw [ByteArray.toList_eq]
  cases hl : s.data.toList with
  | nil =>
    exfalso
    have h2 : s.data.toList.length = 0 := by rw [hl]; rfl
    have h3 : s.data.toList.length = s.size := by simp
    omega
  | cons _ _ => rfl
theorem bytes_none {s : ByteArray} (h : s.size = 0) : s.toList.isEmpty = true := by
  rw [ByteArray.toList_eq]
  cases hl : s.data.toList with
  | nil => rfl
  | cons a l =>
    exfalso
    have h2 : s.data.toList.length = l.length + 1 := by rw [hl]; rfl
    have h3 : s.data.toList.length = s.size := by simp
    omega

set_option maxHeartbeats 1000000 in
theorem name_any (s : ByteArray) (w : World) (hs : s.size ≤ maxLen) : Calls Tryz.prog 24 #[.string s] w fun e w' => e = .returned (.bool (nameB s)) ∧ w = w' := by
  have HW := Lib.hid (fun W => word_any s W hs)
  unfold maxLen at hs
  by_cases h0 : 0 < s.size
  · have HE := Lib.hid (nameB_some h0)
    have h1 := bytes_some h0
    go_enter Tryz.func24, Tryz.ntmps24
    go_wp2_with (first
      | (go_at_call 46; refine (letter_any _ _).mono ?_; rintro e w9 ⟨rfl, rfl⟩)
      | (go_at_call 47; refine (HW.out _).mono ?_; rintro e w9 ⟨rfl, rfl⟩))
    all_goals
      go_ret
      refine ⟨ret_bool ?_, rfl⟩
      rw [HE.out, Bool.eq_iff_iff]
      simp [*]
      try omega
  · have h1 := bytes_none (s := s) (by omega)
    have HE := Lib.hid (nameB_none (s := s) (by omega))
    go_enter Tryz.func24, Tryz.ntmps24
    go_wp2
    go_ret
    exact ⟨ret_bool HE.out.symm, rfl⟩

end

section
open Go.RowKit
set_option linter.unusedVariables false
set_option linter.unusedSimpArgs false

def szs : List Int := [6, 8, 10, 12, 16, 20, 25, 32, 40]
def szB (d : Int) : Bool := decide (d ∈ szs)
def szCells : Array Value := #[.int .i64 6, .int .i64 8, .int .i64 10, .int .i64 12, .int .i64 16, .int .i64 20, .int .i64 25, .int .i64 32, .int .i64 40]
theorem szs_ints (w : World) : Ints (w.alloc (.cells szCells 3)) (.slice (some ⟨w.heap.size, 0, none⟩) 9 9) szs := by
  refine ⟨_, 9, rfl, fun _ => ⟨_, _, rfl, by simp, fun k x hx => ?_⟩⟩
  rw [World.cell?_alloc_at _ _ _ _ rfl, Nat.zero_add]
  have e : szCells = (szs.map fun x => Value.int .i64 x).toArray := rfl
  rw [e]; simp [hx]
theorem sizes_any (w : World) : Calls Tryz.prog 95 #[] w fun e w' =>
    e = .returned (.slice (some ⟨w.heap.size, 0, none⟩) 9 9) ∧ w.alloc (.cells szCells 3) = w' := by
  go_enter Tryz.func95, Tryz.ntmps95
  go_wp2
  go_ret
  exact ⟨rfl, rfl⟩
theorem size_any (d : Int) (w : World) : Calls Tryz.prog 76 #[.int .i64 d] w fun e w' => e = .returned (.bool (szB d)) ∧ Below w.heap.size w w' := by
  go_enter Tryz.func76, Tryz.ntmps76
  go_wp2_with (first
    | (go_at_call 95; refine (sizes_any _).mono ?_; rintro e w9 ⟨rfl, rfl⟩)
    | (go_at_call 74; refine (contains_any _ szs _ _ (szs_ints _) (by decide)).mono ?_; rintro e w9 ⟨rfl, rfl⟩))
  go_ret
  exact ⟨rfl, below_new _ _⟩
def legsOf (code : Int) : List (Nat × Nat) :=
  if code = 0 then [(0, 120)] else if code = 11 then [(0, 120), (1, 121)] else if code = 21 then [(0, 89), (1, 120), (2, 121)] else if code = 26 then [(0, 120), (1, 121), (2, 120)]
  else if code = 31 then [(0, 120), (1, 121), (2, 122)] else if code = 41 then [(0, 120), (1, 121), (2, 120), (3, 89), (4, 120)] else if code = 51 then [(2, 89), (0, 120), (1, 121), (0, 88), (1, 89), (2, 120)]
  else if code = 98 then [(0, 122), (1, 89), (2, 120), (1, 121), (0, 122)] else []
def dimsN (code : Int) : Nat :=
  if code = 0 then 1 else if code = 11 then 2 else if code = 21 then 3 else if code = 26 then 3 else if code = 31 then 3 else if code = 41 then 5 else if code = 51 then 3 else if code = 98 then 3 else 0
def legCells (l : Nat × Nat) : List Value := [.int .i64 (l.1 : Int), .int .u8 (l.2 : Int)]
theorem leg_len (l : Nat × Nat) : (legCells l).length = 2 := rfl
abbrev Legs (w : World) (v : Value) (l : List (Nat × Nat)) : Prop := Fl 2 legCells w v l
theorem legs_get {w : World} {ao : Option Addr} {len cap k : Nat} {l : List (Nat × Nat)} {p : Nat × Nat} (h : Legs w (.slice ao len cap) l) (hk : l[k]? = some p) :
    ∃ b off, ao = some ⟨b, off, none⟩ ∧ b < w.heap.size ∧ w.cell? ⟨b, off + k * 2, none⟩ = some (.int .i64 (p.1 : Int)) ∧ w.cell? ⟨b, off + k * 2 + 1, none⟩ = some (.int .u8 (p.2 : Int)) := by
  obtain ⟨b, off, rfl, hlt, hc⟩ := h.get hk
  exact ⟨b, off, rfl, hlt, hc 0 _ rfl, hc 1 _ rfl⟩

theorem code_cases (code : Int) : (code = 0 ∨ code = 11 ∨ code = 21 ∨ code = 26 ∨ code = 31 ∨ code = 41 ∨ code = 51 ∨ code = 98) ∨ (legsOf code = [] ∧ dimsN code = 0 ∧ code ≠ 0 ∧ code ≠ 11 ∧ code ≠ 21 ∧ code ≠ 26 ∧ code ≠ 31 ∧ code ≠ 41 ∧ code ≠ 51 ∧ code ≠ 98) := by
  by_cases h : code = 0 ∨ code = 11 ∨ code = 21 ∨ code = 26 ∨ code = 31 ∨ code = 41 ∨ code = 51 ∨ code = 98
  · exact .inl h
  · right
    have h0 : code ≠ 0 := by omega
    have h1 : code ≠ 11 := by omega
    have h2 : code ≠ 21 := by omega
    have h3 : code ≠ 26 := by omega
    have h4 : code ≠ 31 := by omega
    have h5 : code ≠ 41 := by omega
    have h6 : code ≠ 51 := by omega
    have h7 : code ≠ 98 := by omega
    refine ⟨?_, ?_, h0, h1, h2, h3, h4, h5, h6, h7⟩
    · unfold legsOf; simp [h0, h1, h2, h3, h4, h5, h6, h7]
    · unfold dimsN; simp [h0, h1, h2, h3, h4, h5, h6, h7]

def Fresh (w w' : World) (v : Value) : Prop := ∀ a n c, v = .slice (some a) n c → w.heap.size ≤ a.block ∧ a.block < w'.heap.size
set_option maxHeartbeats 2000000 in
theorem slegs_full (code : Int) (w : World) : Calls Tryz.prog 94 #[.int .i64 code] w fun e w' => ∃ v, e = .returned v ∧ Hid (Legs w' v (legsOf code)) ∧ Hid (Fresh w w' v) ∧ Below w.heap.size w w' := by
  rcases code_cases code with h | ⟨h, _, h0, h1, h2, h3, h4, h5, h6, h7⟩
  · rcases h with rfl | rfl | rfl | rfl | rfl | rfl | rfl | rfl
    all_goals
      go_enter Tryz.func94, Tryz.ntmps94
      go_wp2
      go_ret
      exact ⟨_, rfl, OwnN.fl leg_len (own_lit w 132 2 legCells (legsOf _) _ _ 0 (Nat.zero_le _) (by first | rfl | decide) (by first | rfl | decide) leg_len (by decide)), (fun a n c e => by cases e; exact ⟨Nat.le_refl _, by simp⟩), below_new _ _⟩
  · have H := Lib.hid h
    clear h
    have q0 := beq_no h0
    have q1 := beq_no h1
    have q2 := beq_no h2
    have q3 := beq_no h3
    have q4 := beq_no h4
    have q5 := beq_no h5
    have q6 := beq_no h6
    have q7 := beq_no h7
    go_enter Tryz.func94, Tryz.ntmps94
    go_wp2
    go_ret
    exact ⟨_, rfl, by rw [H.out]; exact Fl.nil _ _ _ _ _, (fun a n c e => by cases e), Below.refl _ _⟩
theorem slegs_any (code : Int) (w : World) : Calls Tryz.prog 94 #[.int .i64 code] w fun e w' => ∃ v, e = .returned v ∧ Hid (Legs w' v (legsOf code)) ∧ Below w.heap.size w w' :=
  (slegs_full code w).mono fun _ _ ⟨v, h1, h2, _, h4⟩ => ⟨v, h1, h2, h4⟩
end

section
open Go.RowKit
set_option linter.unusedVariables false
set_option linter.unusedSimpArgs false

def mxd (l : List (Nat × Nat)) : Int := l.foldl (fun m p => max m (p.1 : Int)) (-1)
theorem mxd_snoc {l : List (Nat × Nat)} {k : Nat} {p : Nat × Nat} (h : l[k]? = some p) : mxd (l.take (k + 1)) = max (mxd (l.take k)) (p.1 : Int) := by
  have hk := (List.getElem?_eq_some_iff.1 h).1
  unfold mxd
  rw [List.take_succ_eq_append_getElem hk, List.foldl_append, (List.getElem?_eq_some_iff.1 h).2]
  rfl
theorem mxd_bd (code : Int) (k : Nat) : -1 ≤ mxd ((legsOf code).take k) ∧ mxd ((legsOf code).take k) ≤ 5 ∧ ∀ p ∈ legsOf code, (p.1 : Int) ≤ 5 := by
  have key : ∀ (l : List (Nat × Nat)) (m : Int), -1 ≤ m → m ≤ 5 → (∀ p ∈ l, (p.1 : Int) ≤ 5) → -1 ≤ l.foldl (fun m p => max m (p.1 : Int)) m ∧ l.foldl (fun m p => max m (p.1 : Int)) m ≤ 5 := by
    intro l
    induction l with
    | nil => intro m h1 h2 _; exact ⟨h1, h2⟩
    | cons a l ih =>
      intro m h1 h2 h3
      have := h3 a (List.mem_cons_self ..)
      exact ih (max m (a.1 : Int)) (by omega) (by omega) (fun p hp => h3 p (List.mem_cons_of_mem _ hp))
  have h5 : ∀ p ∈ legsOf code, (p.1 : Int) ≤ 5 := by
    rcases code_cases code with h | ⟨h, _⟩
    · rcases h with rfl | rfl | rfl | rfl | rfl | rfl | rfl | rfl <;> decide
    · rw [h]; intro p hp; cases hp
  have := key ((legsOf code).take k) (-1) (by omega) (by omega) (fun p hp => h5 p (List.mem_of_mem_take hp))
  exact ⟨this.1, this.2, h5⟩
theorem legs_len6 (code : Int) : (legsOf code).length ≤ 6 := by
  rcases code_cases code with h | ⟨h, _⟩
  · rcases h with rfl | rfl | rfl | rfl | rfl | rfl | rfl | rfl <;> decide
  · rw [h]; decide
theorem mxd_dims (code : Int) : mxd (legsOf code) + 1 = dimsN code := by
  rcases code_cases code with h | ⟨h, h2, _⟩
  · rcases h with rfl | rfl | rfl | rfl | rfl | rfl | rfl | rfl <;> decide
  · rw [h, h2]; rfl

def dimsE (n : Nat) : Int := if n = 0 then 11 else 0
theorem dimsE_some {n : Nat} (h : ¬ n = 0) : dimsE n = 0 := if_neg h
theorem dimsE_none : dimsE 0 = 11 := rfl
set_option maxHeartbeats 1000000 in
theorem dims_any (code : Int) (w : World) : Calls Tryz.prog 75 #[.int .i64 code] w fun e w' => e = .returned (.tuple #[.int .i64 (dimsN code), .int .i64 (dimsE (dimsN code))]) ∧ Below w.heap.size w w' := by
  have HL := Lib.hid (fun W => slegs_any code W)
  have HD := Lib.hid (mxd_dims code)
  have HM := Lib.hid (mxd_bd code)
  have HLN := Lib.hid (legs_len6 code)
  generalize legsOf code = l at *
  generalize dimsN code = n at *
  go_enter Tryz.func75, Tryz.ntmps75
  go_wp2_with fail
  refine (HL.out _).mono ?_
  rintro e w1 ⟨v, rfl, HV, hb1⟩
  obtain ⟨ao, cap, rfl⟩ := HV.out.at_
  have HB1 := Lib.hid hb1
  clear hb1
  have hlen : l.length ≤ 6 := HLN.out
  go_wp2_with fail
  go_loopw [4, 10] (fun m i wr => ∃ k : Nat, k ≤ l.length ∧ i = .int .i64 k ∧ m = .int .i64 (mxd (l.take k)) ∧ Below w1.heap.size w1 wr) (fun _ i _ => l.length - (intOf i).toNat)
  case atStart => exact ⟨0, Nat.zero_le _, rfl, rfl, Below.refl _ _⟩
  case round =>
    obtain ⟨k, hk, rfl, rfl, hBr⟩ := hrel
    by_cases hlt : k < l.length
    · obtain ⟨p, hy⟩ : ∃ y, l[k]? = some y := ⟨_, List.getElem?_eq_getElem hlt⟩
      obtain ⟨b, off, rfl, hbl, c0, c1⟩ := legs_get (HV.out.below hBr) hy
      have HS := Lib.hid (mxd_snoc hy)
      have m1 := (HM.out k).1
      have m2 := (HM.out k).2.1
      have m3 := (HM.out k).2.2 p (List.mem_of_getElem? hy)
      generalize mxd (l.take k) = m at *
      have HB := Lib.hid hBr
      clear hy hBr
      go_wp2
      go_roundw
      case rel => exact ⟨k + 1, by omega, by go_num, by rw [HS.out]; exact val_int (by split <;> omega), HB.out.alloc HB.out.size _⟩
      case measure => simp [intOf]; omega
    · obtain rfl : k = l.length := by omega
      rw [List.take_length]
      have m1 := (HM.out l.length).1
      have m2 := (HM.out l.length).2.1
      rw [List.take_length] at m1 m2
      have HD2 := HD.out
      have HB := Lib.hid (bstep HB1.out hBr)
      clear hBr
      by_cases h0 : mxd l < 0
      · obtain rfl : n = 0 := by omega
        generalize mxd l = m at *
        clear HD2
        go_wp2
        go_ret2
        exact ⟨ret2_any rfl (val_int dimsE_none.symm), HB.out⟩
      · have hn : ¬ n = 0 := by omega
        have HN := Lib.hid hn
        have HD3 := Lib.hid HD2
        clear HD2 hn
        generalize mxd l = m at *
        go_wp2
        go_ret2
        exact ⟨ret2_any (val_int HD3.out) (val_int (dimsE_some HN.out).symm), HB.out⟩

def sumI (l : List Int) : Int := l.foldl (· + ·) 0
theorem sumI_snoc {l : List Int} {k : Nat} {x : Int} (h : l[k]? = some x) : sumI (l.take (k + 1)) = sumI (l.take k) + x := by
  have hk := (List.getElem?_eq_some_iff.1 h).1
  unfold sumI
  rw [List.take_succ_eq_append_getElem hk, List.foldl_append, (List.getElem?_eq_some_iff.1 h).2]
  rfl
def headB (x : BarD) : Bool := nameB x.mark && szB x.size && decide (1 ≤ x.count) && decide (x.count ≤ 1000) && decide ((x.dims.length : Int) = dimsN x.code) && decide (dimsN x.code ≠ 0)
def dimsB (l : List Int) : Bool := l.all (fun d => decide (1 ≤ d)) && decide (sumI l ≤ 262144)
def barOk (x : BarD) : Bool := headB x && dimsB x.dims
abbrev barv (x : BarD) (dv : Value) : Value := .agg #[.string x.mark, .int .i64 x.size, .int .i64 x.count, .int .i64 x.code, dv]

/-- Partial sums of numbers from 1 on. -/
theorem sumI_le {l : List Int} (h : ∀ d ∈ l, 1 ≤ d) : ∀ k, sumI (l.take k) ≤ sumI l := by
  have key : ∀ (l : List Int) (m : Int), (∀ d ∈ l, 1 ≤ d) → m ≤ l.foldl (· + ·) m := by
    intro l
    induction l with
    | nil => intro m _; exact Int.le_refl _
    | cons a l ih =>
      intro m h
      have h1 := h a (List.mem_cons_self ..)
      have h2 := ih (m + a) (fun d hd => h d (List.mem_cons_of_mem _ hd))
      simp only [List.foldl_cons]
      omega
  intro k
  have e : sumI l = (l.drop k).foldl (· + ·) (sumI (l.take k)) := by
    unfold sumI
    rw [← List.foldl_append, List.take_append_drop]
  rw [e]
  exact key _ _ (fun d hd => h d (List.mem_of_mem_drop hd))
theorem dimsB_yes {l : List Int} (h : dimsB l = true) : (∀ d ∈ l, 1 ≤ d) ∧ sumI l ≤ 262144 := by
  unfold dimsB at h
  rw [Bool.and_eq_true, decide_eq_true_eq, List.all_eq_true] at h
  exact ⟨fun d hd => by simpa using h.1 d hd, h.2⟩
theorem dimsB_no {l : List Int} {k : Nat} {x : Int} (hk : l[k]? = some x) (h : x < 1 ∨ 262144 < sumI (l.take (k + 1))) : dimsB l = false := by
  cases hd : dimsB l with
  | false => rfl
  | true =>
    obtain ⟨h1, h2⟩ := dimsB_yes hd
    have h3 := h1 x (List.mem_of_getElem? hk)
    have h4 := sumI_le h1 (k + 1)
    omega
theorem dimsB_end {l : List Int} (h1 : ∀ (j : Nat) y, j < l.length → l[j]? = some y → 1 ≤ y) (h2 : sumI (l.take l.length) ≤ 262144) : dimsB l = true := by
  unfold dimsB
  rw [List.take_length] at h2
  rw [Bool.and_eq_true, decide_eq_true_eq, List.all_eq_true]
  refine ⟨fun d hd => ?_, h2⟩
  obtain ⟨j, hj, rfl⟩ := List.getElem_of_mem hd
  simpa using h1 j _ hj (List.getElem?_eq_getElem hj)

set_option maxRecDepth 100000 in
set_option maxHeartbeats 2000000 in
theorem svalid_any (x : BarD) (dv : Value) (w : World) (hd : Ints w dv x.dims) (hm : x.mark.size ≤ maxLen) (hl : x.dims.length ≤ 140737488355328) :
    Calls Tryz.prog 53 #[barv x dv] w fun e w' => e = .returned (.bool (barOk x)) ∧ Below w.heap.size w w' := by
  obtain ⟨m, s, c, co, ds⟩ := x
  simp only at hd hm hl
  obtain ⟨ao, cap, rfl, hd2⟩ := hd
  have HDV := Lib.hid (show Ints w (.slice ao ds.length cap) ds from ⟨ao, cap, rfl, hd2⟩)
  have HDm := Lib.hid (fun W => dims_any co W)
  have HN := Lib.hid (fun W => name_any m W hm)
  have HZ := Lib.hid (fun W => size_any s W)
  have HO : Hid (barOk ⟨m, s, c, co, ds⟩ = (nameB m && szB s && decide (1 ≤ c) && decide (c ≤ 1000) && decide ((ds.length : Int) = dimsN co) && decide (dimsN co ≠ 0) && dimsB ds)) := rfl
  have hn5 : dimsN co ≤ 5 := by unfold dimsN; (repeat' split) <;> omega
  clear hm hd2
  generalize barOk ⟨m, s, c, co, ds⟩ = ok at *
  generalize dimsN co = n at *
  generalize nameB m = nb at *
  generalize szB s = sb at *
  by_cases hn0 : n = 0
  · subst hn0
    have HF := Lib.hid (show ok = false by rw [HO.out]; simp)
    go_enter Tryz.func53, Tryz.ntmps53
    go_wp2_with fail
    refine (HDm.out _).mono ?_
    rintro e w1 ⟨rfl, hb1⟩
    have HB1 := Lib.hid (bstep (by go_grown) hb1 : Below w.heap.size w w1)
    rw [dimsE_none]
    clear hb1
    go_wp2
    go_ret
    exact ⟨ret_bool HF.out.symm, HB1.out⟩
  · have HD0 := Lib.hid (dimsE_some hn0)
    have HN0 := Lib.hid hn0
    clear hn0
    by_cases hc1 : c < 1
    · have HF := Lib.hid (show ok = false by rw [HO.out, dec_no (p := 1 ≤ c) (by omega)]; simp)
      go_enter Tryz.func53, Tryz.ntmps53
      go_wp2_with fail
      refine (HDm.out _).mono ?_
      rintro e w1 ⟨rfl, hb1⟩
      have HB1 := Lib.hid (bstep (by go_grown) hb1 : Below w.heap.size w w1)
      have BX1 : Hid (BlkIs w1 w.heap.size 42 #[.string m, .int .i64 s, .int .i64 c, .int .i64 co, .slice ao ds.length cap]) := (BlkIs.new w _ _).below hb1
      rw [HD0.out]
      have c0 := BX1.out.cell 0
      have c1 := BX1.out.cell 1
      have c2 := BX1.out.cell 2
      have c4 := BX1.out.cell 4
      clear hb1
      go_wp2_with (first
        | (go_at_call 24; refine (HN.out _).mono ?_; rintro e w9 ⟨rfl, rfl⟩)
        | (go_at_call 76; refine (HZ.out _).mono ?_; rintro e w2 ⟨rfl, hb2⟩; have HB2 := Lib.hid (bstep HB1.out hb2); have BX2 := Lib.hid (BX1.out.below hb2); clear hb2 c0 c1 c2 c4; have c2 := BX2.out.cell 2; have c4 := BX2.out.cell 4))
      all_goals
        go_ret
        exact ⟨ret_bool HF.out.symm, by first | exact HB1.out | exact HB2.out⟩
    · by_cases hc2 : 1000 < c
      · have HF := Lib.hid (show ok = false by rw [HO.out, dec_no (p := c ≤ 1000) (by omega)]; simp)
        go_enter Tryz.func53, Tryz.ntmps53
        go_wp2_with fail
        refine (HDm.out _).mono ?_
        rintro e w1 ⟨rfl, hb1⟩
        have HB1 := Lib.hid (bstep (by go_grown) hb1 : Below w.heap.size w w1)
        have BX1 : Hid (BlkIs w1 w.heap.size 42 #[.string m, .int .i64 s, .int .i64 c, .int .i64 co, .slice ao ds.length cap]) := (BlkIs.new w _ _).below hb1
        rw [HD0.out]
        have c0 := BX1.out.cell 0
        have c1 := BX1.out.cell 1
        have c2 := BX1.out.cell 2
        have c4 := BX1.out.cell 4
        clear hb1
        go_wp2_with (first
          | (go_at_call 24; refine (HN.out _).mono ?_; rintro e w9 ⟨rfl, rfl⟩)
          | (go_at_call 76; refine (HZ.out _).mono ?_; rintro e w2 ⟨rfl, hb2⟩; have HB2 := Lib.hid (bstep HB1.out hb2); have BX2 := Lib.hid (BX1.out.below hb2); clear hb2 c0 c1 c2 c4; have c2 := BX2.out.cell 2; have c4 := BX2.out.cell 4))
        all_goals
          go_ret
          exact ⟨ret_bool HF.out.symm, by first | exact HB1.out | exact HB2.out⟩
      · by_cases hln : ds.length = n
        · have HE : Hid (ok = (nb && sb && dimsB ds)) := by
            unfold Hid
            rw [HO.out, dec_yes (p := 1 ≤ c) (by omega), dec_yes (p := c ≤ 1000) (by omega), dec_yes (p := (ds.length : Int) = n) (by omega), dec_yes HN0.out]; simp
          have hln2 : ((ds.length : Int) != (n : Int)) = false := bne_no (by omega)
          have HLN := Lib.hid hln
          clear hln
          cases nb
          · have HF := Lib.hid (show ok = false by rw [HE.out]; rfl)
            go_enter Tryz.func53, Tryz.ntmps53
            go_wp2_with fail
            refine (HDm.out _).mono ?_
            rintro e w1 ⟨rfl, hb1⟩
            have HB1 := Lib.hid (bstep (by go_grown) hb1 : Below w.heap.size w w1)
            have BX1 : Hid (BlkIs w1 w.heap.size 42 #[.string m, .int .i64 s, .int .i64 c, .int .i64 co, .slice ao ds.length cap]) := (BlkIs.new w _ _).below hb1
            rw [HD0.out]
            have c0 := BX1.out.cell 0
            have c1 := BX1.out.cell 1
            have c2 := BX1.out.cell 2
            have c4 := BX1.out.cell 4
            clear hb1
            go_wp2_with (first
              | (go_at_call 24; refine (HN.out _).mono ?_; rintro e w9 ⟨rfl, rfl⟩)
              | (go_at_call 76; refine (HZ.out _).mono ?_; rintro e w2 ⟨rfl, hb2⟩; have HB2 := Lib.hid (bstep HB1.out hb2); have BX2 := Lib.hid (BX1.out.below hb2); clear hb2 c0 c1 c2 c4; have c2 := BX2.out.cell 2; have c4 := BX2.out.cell 4))
            all_goals
              go_ret
              exact ⟨ret_bool HF.out.symm, by first | exact HB1.out | exact HB2.out⟩
          · cases sb
            · have HF := Lib.hid (show ok = false by rw [HE.out]; rfl)
              go_enter Tryz.func53, Tryz.ntmps53
              go_wp2_with fail
              refine (HDm.out _).mono ?_
              rintro e w1 ⟨rfl, hb1⟩
              have HB1 := Lib.hid (bstep (by go_grown) hb1 : Below w.heap.size w w1)
              have BX1 : Hid (BlkIs w1 w.heap.size 42 #[.string m, .int .i64 s, .int .i64 c, .int .i64 co, .slice ao ds.length cap]) := (BlkIs.new w _ _).below hb1
              rw [HD0.out]
              have c0 := BX1.out.cell 0
              have c1 := BX1.out.cell 1
              have c2 := BX1.out.cell 2
              have c4 := BX1.out.cell 4
              clear hb1
              go_wp2_with (first
                | (go_at_call 24; refine (HN.out _).mono ?_; rintro e w9 ⟨rfl, rfl⟩)
                | (go_at_call 76; refine (HZ.out _).mono ?_; rintro e w2 ⟨rfl, hb2⟩; have HB2 := Lib.hid (bstep HB1.out hb2); have BX2 := Lib.hid (BX1.out.below hb2); clear hb2 c0 c1 c2 c4; have c2 := BX2.out.cell 2; have c4 := BX2.out.cell 4))
              all_goals
                go_ret
                exact ⟨ret_bool HF.out.symm, by first | exact HB1.out | exact HB2.out⟩
            · have HF := Lib.hid (show ok = dimsB ds by rw [HE.out]; rfl)
              go_enter Tryz.func53, Tryz.ntmps53
              go_wp2_with fail
              refine (HDm.out _).mono ?_
              rintro e w1 ⟨rfl, hb1⟩
              have HB1 := Lib.hid (bstep (by go_grown) hb1 : Below w.heap.size w w1)
              have BX1 : Hid (BlkIs w1 w.heap.size 42 #[.string m, .int .i64 s, .int .i64 c, .int .i64 co, .slice ao ds.length cap]) := (BlkIs.new w _ _).below hb1
              rw [HD0.out]
              have c0 := BX1.out.cell 0
              have c1 := BX1.out.cell 1
              have c2 := BX1.out.cell 2
              have c4 := BX1.out.cell 4
              clear hb1
              go_wp2_with (first
                | (go_at_call 24; refine (HN.out _).mono ?_; rintro e w9 ⟨rfl, rfl⟩)
                | (go_at_call 76; refine (HZ.out _).mono ?_; rintro e w2 ⟨rfl, hb2⟩; have HB2 := Lib.hid (bstep HB1.out hb2); have BX2 := Lib.hid (BX1.out.below hb2); clear hb2 c0 c1 c2 c4; have c2 := BX2.out.cell 2; have c4 := BX2.out.cell 4))
              have hl6 : ds.length ≤ 5 := by rw [HLN.out]; exact hn5
              clear c2 c4 HD0 HN HZ HDm HO HE HB1 BX1 hl
              go_loop [5, 7, 48] (fun r _ i => ∃ k : Nat, k ≤ ds.length ∧ i = .int .i64 k ∧ r = .int .i64 (262144 - sumI (ds.take k)) ∧ Hid ((∀ (j : Nat) y, j < k → ds[j]? = some y → 1 ≤ y) ∧ 0 ≤ sumI (ds.take k) ∧ sumI (ds.take k) ≤ 262144)) (fun _ _ i => ds.length - (intOf i).toNat)
              case atStart => exact ⟨0, Nat.zero_le _, rfl, rfl, fun j y hj => by omega, by rw [List.take_zero]; decide, by rw [List.take_zero]; decide⟩
              case round =>
                obtain ⟨k, hk, rfl, rfl, HR⟩ := hrel
                obtain ⟨_, r1, r2⟩ := HR.out
                by_cases hlt : k < ds.length
                · obtain ⟨y, hy⟩ : ∃ y, ds[k]? = some y := ⟨_, List.getElem?_eq_getElem hlt⟩
                  have HS := Lib.hid (sumI_snoc hy)
                  have HY := Lib.hid hy
                  obtain ⟨_, _, hv, hcc⟩ := HDV.out
                  cases hv
                  obtain ⟨b, off, rfl, hbl, hcell⟩ := hcc (by omega)
                  have hck := (HB2.out.cell (p := ⟨b, off + k, none⟩) hbl).trans (hcell k y hy)
                  clear hcc hcell hy
                  by_cases hbad : y < 1 ∨ 262144 - sumI (ds.take k) < y
                  · have HX := Lib.hid (show ok = false by rw [HF.out]; exact dimsB_no HY.out (by rw [HS.out]; omega))
                    generalize sumI (ds.take k) = q at *
                    rcases hbad with hbad | hbad
                    · go_wp2
                      go_ret
                      exact ⟨ret_bool HX.out.symm, HB2.out⟩
                    · go_wp2
                      all_goals
                        go_ret
                        exact ⟨ret_bool HX.out.symm, HB2.out⟩
                  · have y1 : ¬ y < 1 := by omega
                    have y2 : ¬ 262144 - sumI (ds.take k) < y := by omega
                    clear hbad
                    generalize hq : sumI (ds.take k) = q at *
                    have HQ := Lib.hid hq
                    clear hq
                    go_wp2
                    go_round
                    case rel => exact ⟨k + 1, by omega, by go_num, by rw [HS.out]; exact val_int (by omega), fun j z hj hz => by
                      by_cases e : j = k
                      · subst e; rw [HY.out] at hz; cases hz; omega
                      · exact HR.out.1 j z (by omega) hz, by rw [HS.out]; omega, by rw [HS.out]; omega⟩
                    case measure => simp [intOf]; omega
                · obtain rfl : k = ds.length := by omega
                  have HX := Lib.hid (show ok = true by rw [HF.out]; exact dimsB_end HR.out.1 HR.out.2.2)
                  go_wp2
                  go_ret
                  exact ⟨ret_bool HX.out.symm, HB2.out⟩
        · have HF := Lib.hid (show ok = false by rw [HO.out, dec_no (p := (ds.length : Int) = n) (by omega)]; simp)
          have hln2 : ((ds.length : Int) != (n : Int)) = true := bne_yes (by omega)
          clear hln
          go_enter Tryz.func53, Tryz.ntmps53
          go_wp2_with fail
          refine (HDm.out _).mono ?_
          rintro e w1 ⟨rfl, hb1⟩
          have HB1 := Lib.hid (bstep (by go_grown) hb1 : Below w.heap.size w w1)
          have BX1 : Hid (BlkIs w1 w.heap.size 42 #[.string m, .int .i64 s, .int .i64 c, .int .i64 co, .slice ao ds.length cap]) := (BlkIs.new w _ _).below hb1
          rw [HD0.out]
          have c0 := BX1.out.cell 0
          have c1 := BX1.out.cell 1
          have c2 := BX1.out.cell 2
          have c4 := BX1.out.cell 4
          clear hb1
          go_wp2_with (first
            | (go_at_call 24; refine (HN.out _).mono ?_; rintro e w9 ⟨rfl, rfl⟩)
            | (go_at_call 76; refine (HZ.out _).mono ?_; rintro e w2 ⟨rfl, hb2⟩; have HB2 := Lib.hid (bstep HB1.out hb2); have BX2 := Lib.hid (BX1.out.below hb2); clear hb2 c0 c1 c2 c4; have c2 := BX2.out.cell 2; have c4 := BX2.out.cell 4))
          all_goals
            go_ret
            exact ⟨ret_bool HF.out.symm, by first | exact HB1.out | exact HB2.out⟩
end

section
open Go.RowKit
set_option linter.unusedVariables false
set_option linter.unusedSimpArgs false

def stepP (p : Pt) (way : Nat) (n : Int) : Pt :=
  if way = 120 then ⟨p.x + n, p.y, p.z⟩ else if way = 88 then ⟨p.x - n, p.y, p.z⟩ else if way = 121 then ⟨p.x, p.y + n, p.z⟩ else if way = 89 then ⟨p.x, p.y - n, p.z⟩ else if way = 122 then ⟨p.x, p.y, p.z + n⟩ else p
/-- Where one is after k legs. -/
def posP (d : List Int) (ls : List (Nat × Nat)) (k : Nat) : Pt := (ls.take k).foldl (fun p l => stepP p l.2 (d[l.1]?.getD 0)) ⟨0, 0, 0⟩
def pathN (d : List Int) (ls : List (Nat × Nat)) (k : Nat) : List Pt := (List.range (k + 1)).map (posP d ls)
theorem pathN_succ (d : List Int) (ls : List (Nat × Nat)) (k : Nat) : pathN d ls (k + 1) = pathN d ls k ++ [posP d ls (k + 1)] := by
  unfold pathN
  rw [List.range_succ, List.map_append]
  rfl
/-- What a valid bar's legs are like. -/
theorem legs_ok (code : Int) : ∀ l ∈ legsOf code, l.1 < dimsN code ∧ (l.2 = 120 ∨ l.2 = 88 ∨ l.2 = 121 ∨ l.2 = 89 ∨ l.2 = 122) := by
  rcases code_cases code with h | ⟨h, _⟩
  · rcases h with rfl | rfl | rfl | rfl | rfl | rfl | rfl | rfl <;> decide
  · rw [h]; intro p hp; cases hp
theorem OwnN.far {α : Type} {n : Nat} {enc : α → List Value} {w : World} {base : Nat} {e : TypeId} {v : Value} {l : List α} (h : OwnN w base e n enc v l) {A i : Nat} {u : Value} (hA : A < base) : OwnN (w.setCell ⟨A, i, none⟩ u) base e n enc v l :=
  h.kept fun g hv => heap_setCell_other _ _ _ _ (by have := (h.lt g hv).1; simp; omega)

theorem wpList_pushAt {α : Type} {P : Program} (w0 : World) (N : Nat) (hN : w0.heap.size = N) {ops : Array Oper} {rest : List Oper} {o : Oper} {a : Act} {Q : Exit → Act → World → Prop} (hgd : o.guard = none) (s x : Operand) (t : TypeId)
    (ho : o.op = .call { callee := .builtin .append, args := #[s, x], argTypes := #[t, t] })
    (e n bytes : Nat) (he : ElemN P t e n bytes) (base : Nat) (enc : α → List Value) (v : Value) (l : List α) (y : α) (cs : Array Value) (hcs : cs = (enc y).toArray) (hny : (enc y).length = n) (h1 : ∀ u ∈ enc y, u.oneCell' = true)
    (hown : OwnN w0 base e n enc v l) (hs : a.eval s = v) (hx : a.eval x = .slice (some ⟨N, 0, none⟩) 1 1)
    (h63 : l.length + 1 ≤ 1099511627776) (hby : bytes ≤ 120) (hbase : base ≤ N)
    (hK : ∀ v' w', OwnN w' base e n enc v' (l ++ [y]) → w0.grownBy w' v.ownBlock → (v'.ownBlock = v.ownBlock ∨ ∃ g, w0.heap.size ≤ g ∧ v'.ownBlock = some g) → wpList P ops Q rest (a.put o.dst v') w') :
    wpList P ops Q (o :: rest) a (w0.alloc (.cells cs e)) := by
  subst hN
  exact wpList_pushN w0 hgd s x t ho e n bytes he base enc v l y cs hcs hny h1 hown hs hx h63 hby hbase hK
end
end
end Go.Proofs.YtejcgjdfajppgaaGreatDoor
