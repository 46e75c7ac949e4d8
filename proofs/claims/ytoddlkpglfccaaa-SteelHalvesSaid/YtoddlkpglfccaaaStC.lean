/-
  Steel: the reference, Equal at []int, awake.
-/
import Derived.Test.YtoddlkpglfccaaaStB
namespace Go.Proofs.Ytoddlkpglfccaaa
open Go.RowKit

theorem rsizes_any (w : World) : Calls Try.prog 23 #[] w fun e w' =>
    e = .returned (.slice (some ⟨w.heap.size, 0, none⟩) 9 9) ∧ w.alloc (.cells szCells 3) = w' := by
  go_enter Try.func23, Try.ntmps23
  go_wp2
  go_ret
  exact ⟨rfl, rfl⟩

theorem szB_hit {d : Int} {k : Nat} (hk : k < 9) (h : szs.getD k 0 = d) : szB d = true := by
  match k, hk with
  | 0, _ => subst h; decide
  | 1, _ => subst h; decide
  | 2, _ => subst h; decide
  | 3, _ => subst h; decide
  | 4, _ => subst h; decide
  | 5, _ => subst h; decide
  | 6, _ => subst h; decide
  | 7, _ => subst h; decide
  | 8, _ => subst h; decide
theorem szB_miss {d : Int} (h : ∀ j, j < 9 → szs.getD j 0 ≠ d) : szB d = false := by
  have := idxOf_miss szs d h
  unfold szB
  rw [this]
  rfl

set_option maxHeartbeats 400000 in
theorem rsize_any (d : Int) (w : World) : Calls Try.prog 12 #[.int .i64 d] w fun e w' => e = .returned (.bool (szB d)) ∧ Below w.heap.size w w' := by
  go_enter Try.func12, Try.ntmps12
  go_wp2_with (go_at_call 23; refine (rsizes_any _).mono ?_; rintro e w' ⟨rfl, rfl⟩)
  go_loop [4] (fun i => ∃ k : Nat, k ≤ 9 ∧ i = .int .i64 k ∧ Hid (∀ j, j < k → szs.getD j 0 ≠ d)) (fun i => 9 - (intOf i).toNat)
  case atStart => exact ⟨0, Nat.zero_le _, rfl, fun j hj => by omega⟩
  case round =>
    obtain ⟨k, hk, rfl, hno⟩ := hrel
    by_cases hlt : k < 9
    · have hck := szs_cell w k hlt
      obtain ⟨y, hy⟩ : ∃ y, szs.getD k 0 = y := ⟨_, rfl⟩
      rw [hy] at hck
      have HY := Lib.hid hy
      clear hy
      go_wp2
      · have hx : y = d := by simpa using ‹(y == d) = true›
        go_ret
        exact ⟨ret_bool (szB_hit hlt (by rw [HY.out, hx])).symm, below_new _ _⟩
      · have hx : ¬ y = d := by simpa using ‹(y == d) = false›
        go_round
        case rel => exact ⟨k + 1, by omega, by go_num, fun j hj => by
          by_cases e : j = k
          · subst e; rw [HY.out]; exact hx
          · exact hno j (by omega)⟩
        case measure => simp [intOf]; omega
    · go_wp2
      go_ret
      exact ⟨ret_bool (szB_miss (fun j hj => hno j (by omega))).symm, below_new _ _⟩

theorem rarea_in (d : Int) (w : World) (h0 : 0 ≤ d) (h1 : d ≤ 40) : Calls Try.prog 24 #[.int .i64 d] w fun e w' => e = .returned (.int .i64 (areaOf d)) ∧ w = w' := by
  obtain ⟨b1, b2, b3, b4, _, _⟩ := area_bd d h0 h1
  go_enter Try.func24, Try.ntmps24
  go_wp2
  go_ret
  exact ⟨rfl, rfl⟩

theorem rmass_in (d n : Int) (w : World) (hd0 : 0 ≤ d) (hd : d ≤ 40) (h0 : 0 ≤ n) (h1 : n ≤ 1048576) : Calls Try.prog 13 #[.int .i64 d, .int .i64 n] w fun e w' => e = .returned (.int .i64 (massOf d n)) ∧ w = w' := by
  obtain ⟨b1, b2, b3, b4, b5, b6, _, _⟩ := mass_bd d n hd0 hd h0 h1
  go_enter Try.func13, Try.ntmps13
  go_wp2
  go_ret
  exact ⟨rfl, rfl⟩

theorem rbend_in (d : Int) (w : World) (h0 : 0 ≤ d) (h1 : d ≤ 40) : Calls Try.prog 25 #[.int .i64 d] w fun e w' => e = .returned (.int .i64 (bendOf d)) ∧ w = w' := by
  by_cases h16 : d ≤ 16
  · go_enter Try.func25, Try.ntmps25
    go_wp2
    go_ret
    exact ⟨ret_int (by rw [bendOf, if_pos h16]), rfl⟩
  · go_enter Try.func25, Try.ntmps25
    go_wp2
    go_ret
    exact ⟨ret_int (by rw [bendOf, if_neg (by omega)]), rfl⟩

theorem rround_in (d : Int) (w : World) (h0 : 0 ≤ d) (h1 : d ≤ 40) : Calls Try.prog 26 #[.int .i64 d] w fun e w' => e = .returned (.int .i64 (roundOf d)) ∧ w = w' := by
  go_enter Try.func26, Try.ntmps26
  go_wp2
  go_ret
  exact ⟨rfl, rfl⟩

set_option maxHeartbeats 400000 in
theorem rleast_any (a c : Int) (w : World) : Calls Try.prog 15 #[.int .i64 a, .int .i64 c] w fun e w' => e = .returned (.tuple #[.int .i64 (leastOf a c).1, .int .i64 (leastOf a c).2]) ∧ Below w.heap.size w w' := by
  by_cases h : a < 0 ∨ 1099511627776 < a ∨ c < 1 ∨ 1000 < c
  · have E := Lib.hid (show leastOf a c = (0, 2) by rw [leastOf, if_pos h])
    rw [E.out]
    by_cases h1 : a < 0
    · clear h
      go_enter Try.func15, Try.ntmps15
      go_wp2
      go_ret2
      exact ⟨rfl, Below.refl _ _⟩
    by_cases h2 : 1099511627776 < a
    · clear h
      go_enter Try.func15, Try.ntmps15
      go_wp2
      go_ret2
      exact ⟨rfl, Below.refl _ _⟩
    by_cases h3 : c < 1
    · clear h
      go_enter Try.func15, Try.ntmps15
      go_wp2
      go_ret2
      exact ⟨rfl, Below.refl _ _⟩
    have h4 : 1000 < c := by omega
    clear h
    go_enter Try.func15, Try.ntmps15
    go_wp2
    go_ret2
    exact ⟨rfl, Below.refl _ _⟩
  · have E := Lib.hid (show leastOf a c = (match leastFrom a c szs with | some d => (d, 0) | none => (0, 12)) by rw [leastOf, if_neg h]; rfl)
    have hh : 0 ≤ a ∧ a ≤ 1099511627776 ∧ 1 ≤ c ∧ c ≤ 1000 := by omega
    obtain ⟨q1, q2, q3, q4⟩ := hh
    clear h
    go_enter Try.func15, Try.ntmps15
    go_wp2_with (go_at_call 23; refine (rsizes_any _).mono ?_; rintro e w' ⟨rfl, rfl⟩)
    go_loop [7] (fun i => ∃ k : Nat, k ≤ 9 ∧ i = .int .i64 k ∧ Hid (∀ j, j < k → areaOf (szs.getD j 0) * c < a)) (fun i => 9 - (intOf i).toNat)
    case atStart => exact ⟨0, Nat.zero_le _, rfl, fun j hj => by omega⟩
    case round =>
      obtain ⟨k, hk, rfl, hno⟩ := hrel
      by_cases hlt : k < 9
      · have hck := szs_cell w k hlt
        have hbd := szs_bd k hlt
        obtain ⟨y, hy⟩ : ∃ y, szs.getD k 0 = y := ⟨_, rfl⟩
        rw [hy] at hck hbd
        have HY := Lib.hid hy
        clear hy
        obtain ⟨_, _, _, _, m1, m2⟩ := area_bd y (by omega) hbd.2
        have hp := mul_bd (show (0:Int) ≤ c by omega) q4 m1 m2
        by_cases hx : a ≤ c * areaOf y
        · have hb := le_b hx
          go_wp2_with (go_at_call 24; refine (rarea_in _ _ (by omega) hbd.2).mono ?_; rintro e w' ⟨rfl, rfl⟩)
          go_ret2
          have R := leastFrom_hit a c szs k hlt hno (by rw [HY.out, Int.mul_comm]; exact hx)
          rw [HY.out] at R
          have E' := E.out
          rw [R] at E'
          exact ⟨by rw [E']; rfl, below_new _ _⟩
        · have hb := lt_b (Int.not_le.1 hx)
          go_wp2_with (go_at_call 24; refine (rarea_in _ _ (by omega) hbd.2).mono ?_; rintro e w' ⟨rfl, rfl⟩)
          go_round
          case rel => exact ⟨k + 1, by omega, by go_num, fun j hj => by
            by_cases e : j = k
            · subst e; rw [HY.out, Int.mul_comm]; omega
            · exact hno j (by omega)⟩
          case measure => simp [intOf]; omega
      · go_wp2
        go_ret2
        have R := leastFrom_none a c szs (fun j hj => hno j (by have : j < 9 := hj; omega))
        have E' := E.out
        rw [R] at E'
        exact ⟨by rw [E']; rfl, below_new _ _⟩

theorem below_drewN' {B : Nat} {a w : World} (h : Below B a w) (n : Nat) : Below B a (w.drewN n) := ⟨h.os, h.tape, h.output, h.size, h.block⟩

set_option maxHeartbeats 400000 in
theorem equal_any (v v' : Value) (l l' : List Int) (w : World) (h : Ints w v l) (h' : Ints w v' l') (hl : l.length ≤ 140737488355328) (hl' : l'.length ≤ 140737488355328) :
    Calls Try.prog 22 #[v, v'] w fun e w' => e = .returned (.bool (decide (l = l'))) ∧ Below w.heap.size w w' := by
  obtain ⟨ao, cap, rfl, h⟩ := h
  obtain ⟨ao', cap', rfl, h'⟩ := h'
  by_cases hle : l.length = l'.length
  · have hne : ((l.length : Int) != (l'.length : Int)) = false := by rw [hle]; simp
    have HL := Lib.hid hle
    clear hle
    go_enter Try.func22, Try.ntmps22
    go_wp2
    go_loopw [5, 13] (fun _ i wr => ∃ k : Nat, k ≤ l.length ∧ i = .int .i64 k ∧ Below w.heap.size w wr ∧ Hid (∀ j, j < k → l.getD j 0 = l'.getD j 0)) (fun _ i _ => l.length - (intOf i).toNat)
    case atStart => exact ⟨0, Nat.zero_le _, rfl, Below.refl _ _, fun j hj => by omega⟩
    case round =>
      obtain ⟨k, hk, rfl, hB, hno⟩ := hrel
      by_cases hlt : k < l.length
      · have hlt' : k < l'.length := by rw [← HL.out]; exact hlt
        obtain ⟨b, off, rfl, hbs, hc⟩ := h (by omega)
        obtain ⟨b', off', rfl, hbs', hc'⟩ := h' (by omega)
        have hck := (hB.cell (p := ⟨b, off + k, none⟩) hbs).trans (hc k hlt)
        have hck' := (hB.cell (p := ⟨b', off' + k, none⟩) hbs').trans (hc' k hlt')
        clear hc hc' h h'
        obtain ⟨y, hy⟩ : ∃ y, l.getD k 0 = y := ⟨_, rfl⟩
        obtain ⟨y', hy'⟩ : ∃ y, l'.getD k 0 = y := ⟨_, rfl⟩
        rw [hy] at hck
        rw [hy'] at hck'
        have HY := Lib.hid hy
        have HY' := Lib.hid hy'
        clear hy hy'
        have i1 : (k : Int) < (l.length : Int) := by omega
        have i2 : (k : Int) < (l'.length : Int) := by omega
        by_cases hx : y = y'
        · have hxb : (y != y') = false := by simp [hx]
          have HX := Lib.hid hx
          clear hx
          go_wp2
          go_quiet (fail)
          go_wp2
          go_roundw
          case rel => exact ⟨k + 1, by omega, by go_num, below_drewN' hB _, fun j hj => by
            by_cases e : j = k
            · subst e; rw [HY.out, HY'.out, HX.out]
            · exact hno j (by omega)⟩
          case measure => simp [intOf]; omega
        · have hxb : (y != y') = true := by simp [hx]
          have HX := Lib.hid hx
          clear hx
          go_wp2
          go_quiet (fail)
          go_wp2
          go_ret
          exact ⟨ret_bool (by
            refine (decide_eq_false fun e => HX.out ?_).symm
            rw [← HY.out, ← HY'.out, e]), below_drewN' hB _⟩
      · clear h h'
        go_wp2
        go_ret
        exact ⟨ret_bool (by
          refine (decide_eq_true ?_).symm
          refine List.ext_getElem HL.out fun j h1 h2 => ?_
          have := hno j (by omega)
          simpa [List.getD, h1, h2] using this), hB⟩
  · have hne : ((l.length : Int) != (l'.length : Int)) = true := by rw [bne_iff_ne]; omega
    clear h h'
    have HL := Lib.hid hle
    clear hle
    go_enter Try.func22, Try.ntmps22
    go_wp2
    go_ret
    exact ⟨ret_bool (decide_eq_false fun e => HL.out (by rw [e])).symm, Below.refl _ _⟩

end Go.Proofs.Ytoddlkpglfccaaa
