/-
  Sizes of steel; shapes: the legs of a code, how many dimensions it has.
-/
import Derived.Test.YtpidjgljeooblaaLdF
import Derived.Test.YtpidjgljeooblaaNam
namespace Go.Proofs.Ytpidjgljeooblaa
open Go.RowKit
set_option linter.unusedVariables false
set_option linter.unusedSimpArgs false

def szs : List Int := [6, 8, 10, 12, 16, 20, 25, 32, 40]
def szB (d : Int) : Bool := decide (d ∈ szs)
def szCells : Array Value := #[.int .i64 6, .int .i64 8, .int .i64 10, .int .i64 12, .int .i64 16, .int .i64 20, .int .i64 25, .int .i64 32, .int .i64 40]
theorem szs_ints (w : World) : Ints (w.alloc (.cells szCells 3)) (.slice (some ⟨w.heap.size, 0, none⟩) 9 9) szs := by
  refine ⟨_, 9, rfl, fun _ => ⟨_, _, rfl, by simp, fun k x hx => ?_⟩⟩
  rw [World.cell?_alloc_at _ _ _ _ rfl, Nat.zero_add]
  have e : szCells = (szs.map fun x => Value.int .i64 x).toArray := rfl
  rw [e]; simp [hx]
theorem sizes_any (w : World) : Calls Try.prog 96 #[] w fun e w' =>
    e = .returned (.slice (some ⟨w.heap.size, 0, none⟩) 9 9) ∧ w.alloc (.cells szCells 3) = w' := by
  go_enter Try.func96, Try.ntmps96
  go_wp2
  go_ret
  exact ⟨rfl, rfl⟩
theorem rsizes_any (w : World) : Calls Try.prog 101 #[] w fun e w' =>
    e = .returned (.slice (some ⟨w.heap.size, 0, none⟩) 9 9) ∧ w.alloc (.cells szCells 3) = w' := by
  go_enter Try.func101, Try.ntmps101
  go_wp2
  go_ret
  exact ⟨rfl, rfl⟩
theorem size_any (d : Int) (w : World) : Calls Try.prog 76 #[.int .i64 d] w fun e w' => e = .returned (.bool (szB d)) ∧ Below w.heap.size w w' := by
  go_enter Try.func76, Try.ntmps76
  go_wp2_with (first
    | (go_at_call 96; refine (sizes_any _).mono ?_; rintro e w9 ⟨rfl, rfl⟩)
    | (go_at_call 95; refine (contains_any _ szs _ _ (szs_ints _) (by decide)).mono ?_; rintro e w9 ⟨rfl, rfl⟩))
  go_ret
  exact ⟨rfl, below_new _ _⟩
set_option maxHeartbeats 1000000 in
theorem rsize_any (d : Int) (w : World) : Calls Try.prog 82 #[.int .i64 d] w fun e w' => e = .returned (.bool (szB d)) ∧ Below w.heap.size w w' := by
  go_enter Try.func82, Try.ntmps82
  go_wp2_with fail
  refine (rsizes_any _).mono ?_
  rintro e w9 ⟨rfl, rfl⟩
  obtain ⟨W, hW⟩ : ∃ W, w.alloc (.cells szCells 3) = W := ⟨_, rfl⟩
  have HS : Hid (∀ (k : Nat) x, szs[k]? = some x → W.cell? ⟨w.heap.size, k, none⟩ = some (.int .i64 x)) := fun k x hx => by
    rw [← hW, World.cell?_alloc_at _ _ _ _ rfl]
    have e : szCells = (szs.map fun x => Value.int .i64 x).toArray := rfl
    rw [e]; simp [hx]
  have HB : Hid (Below w.heap.size w W) := by rw [← hW]; exact below_new _ _
  rw [hW]
  clear hW
  go_wp2_with fail
  go_loop [4] (fun i => ∃ k : Nat, k ≤ 9 ∧ i = .int .i64 k ∧ Hid (∀ (j : Nat) y, j < k → szs[j]? = some y → d ≠ y)) (fun i => 9 - (intOf i).toNat)
  case atStart => exact ⟨0, by omega, rfl, fun j y hj _ => by omega⟩
  case round =>
    obtain ⟨k, hk, rfl, HN⟩ := hrel
    by_cases hlt : k < 9
    · obtain ⟨y, hy⟩ : ∃ y, szs[k]? = some y := ⟨_, List.getElem?_eq_getElem (show k < szs.length from hlt)⟩
      have hc := HS.out k y hy
      have hc' : W.cell? ⟨w.heap.size, 0 + k, none⟩ = some (.int .i64 y) := by rw [Nat.zero_add]; exact hc
      have HY := Lib.hid hy
      clear hy
      by_cases hd : d = y
      · have HT := Lib.hid (show szB d = true from dec_yes (by rw [hd]; exact List.mem_of_getElem? HY.out))
        subst hd
        go_wp2
        go_ret
        exact ⟨ret_bool HT.out.symm, HB.out⟩
      · have hb := beq_no (fun e => hd e.symm : ¬ y = d)
        have HD := Lib.hid hd
        clear hd
        go_wp2
        go_round
        case rel => exact ⟨k + 1, by omega, by go_num, fun j z hj hz => by
          by_cases e : j = k
          · subst e; rw [HY.out] at hz; cases hz; exact HD.out
          · exact HN.out j z (by omega) hz⟩
        case measure => simp [intOf]; omega
    · have HF := Lib.hid (show szB d = false from dec_no (fun hm => by
        obtain ⟨j, hj⟩ := List.mem_iff_getElem?.1 hm
        have h9 : j < 9 := (List.getElem?_eq_some_iff.1 hj).1
        exact HN.out j d (by omega) hj rfl))
      go_wp2
      go_ret
      exact ⟨ret_bool HF.out.symm, HB.out⟩

/-! ### the legs of a code -/
def legsOf (code : Int) : List (Nat × Nat) :=
  if code = 0 then [(0, 120)] else if code = 11 then [(0, 120), (1, 121)] else if code = 21 then [(0, 89), (1, 120), (2, 121)] else if code = 26 then [(0, 120), (1, 121), (2, 120)]
  else if code = 31 then [(0, 120), (1, 121), (2, 122)] else if code = 41 then [(0, 120), (1, 121), (2, 120), (3, 89), (4, 120)] else if code = 51 then [(2, 89), (0, 120), (1, 121), (0, 88), (1, 89), (2, 120)]
  else if code = 98 then [(0, 122), (1, 89), (2, 120), (1, 121), (0, 122)] else []
def dimsN (code : Int) : Nat :=
  if code = 0 then 1 else if code = 11 then 2 else if code = 21 then 3 else if code = 26 then 3 else if code = 31 then 3 else if code = 41 then 5 else if code = 51 then 3 else if code = 98 then 3 else 0
def legCells (l : Nat × Nat) : List Value := [.int .i64 (l.1 : Int), .int .u8 (l.2 : Int)]
theorem leg_len (l : Nat × Nat) : (legCells l).length = 2 := rfl
abbrev Legs (w : World) (v : Value) (l : List (Nat × Nat)) : Prop := Fl 2 legCells w v l
theorem legs_get {w : World} {ao : Option Addr} {len cap k : Nat} {l : List (Nat × Nat)} {p : Nat × Nat} (h : Legs w (.slice ao len cap) l) (hk : l[k]? = some p) :
    ∃ b off, ao = some ⟨b, off, none⟩ ∧ b < w.heap.size ∧ w.cell? ⟨b, off + k * 2, none⟩ = some (.int .i64 (p.1 : Int)) ∧ w.cell? ⟨b, off + k * 2 + 1, none⟩ = some (.int .u8 (p.2 : Int)) := by
  obtain ⟨b, off, rfl, hlt, hc⟩ := h.get hk
  exact ⟨b, off, rfl, hlt, hc 0 _ rfl, hc 1 _ rfl⟩

theorem code_cases (code : Int) : (code = 0 ∨ code = 11 ∨ code = 21 ∨ code = 26 ∨ code = 31 ∨ code = 41 ∨ code = 51 ∨ code = 98) ∨ (legsOf code = [] ∧ dimsN code = 0 ∧ code ≠ 0 ∧ code ≠ 11 ∧ code ≠ 21 ∧ code ≠ 26 ∧ code ≠ 31 ∧ code ≠ 41 ∧ code ≠ 51 ∧ code ≠ 98) := by
  by_cases h : code = 0 ∨ code = 11 ∨ code = 21 ∨ code = 26 ∨ code = 31 ∨ code = 41 ∨ code = 51 ∨ code = 98
  · exact .inl h
  · right
    have h0 : code ≠ 0 := by omega
    have h1 : code ≠ 11 := by omega
    have h2 : code ≠ 21 := by omega
    have h3 : code ≠ 26 := by omega
    have h4 : code ≠ 31 := by omega
    have h5 : code ≠ 41 := by omega
    have h6 : code ≠ 51 := by omega
    have h7 : code ≠ 98 := by omega
    refine ⟨?_, ?_, h0, h1, h2, h3, h4, h5, h6, h7⟩
    · unfold legsOf; simp [h0, h1, h2, h3, h4, h5, h6, h7]
    · unfold dimsN; simp [h0, h1, h2, h3, h4, h5, h6, h7]

def Fresh (w w' : World) (v : Value) : Prop := ∀ a n c, v = .slice (some a) n c → w.heap.size ≤ a.block ∧ a.block < w'.heap.size
set_option maxHeartbeats 2000000 in
theorem slegs_full (code : Int) (w : World) : Calls Try.prog 60 #[.int .i64 code] w fun e w' => ∃ v, e = .returned v ∧ Hid (Legs w' v (legsOf code)) ∧ Hid (Fresh w w' v) ∧ Below w.heap.size w w' := by
  rcases code_cases code with h | ⟨h, _, h0, h1, h2, h3, h4, h5, h6, h7⟩
  · rcases h with rfl | rfl | rfl | rfl | rfl | rfl | rfl | rfl
    all_goals
      go_enter Try.func60, Try.ntmps60
      go_wp2
      go_ret
      exact ⟨_, rfl, OwnN.fl leg_len (own_lit w 101 2 legCells (legsOf _) _ _ 0 (Nat.zero_le _) (by first | rfl | decide) (by first | rfl | decide) leg_len (by decide)), (fun a n c e => by cases e; exact ⟨Nat.le_refl _, by simp⟩), below_new _ _⟩
  · have H := Lib.hid h
    clear h
    have q0 := beq_no h0
    have q1 := beq_no h1
    have q2 := beq_no h2
    have q3 := beq_no h3
    have q4 := beq_no h4
    have q5 := beq_no h5
    have q6 := beq_no h6
    have q7 := beq_no h7
    go_enter Try.func60, Try.ntmps60
    go_wp2
    go_ret
    exact ⟨_, rfl, by rw [H.out]; exact Fl.nil _ _ _ _ _, (fun a n c e => by cases e), Below.refl _ _⟩
theorem slegs_any (code : Int) (w : World) : Calls Try.prog 60 #[.int .i64 code] w fun e w' => ∃ v, e = .returned v ∧ Hid (Legs w' v (legsOf code)) ∧ Below w.heap.size w w' :=
  (slegs_full code w).mono fun _ _ ⟨v, h1, h2, _, h4⟩ => ⟨v, h1, h2, h4⟩
end Go.Proofs.Ytpidjgljeooblaa
