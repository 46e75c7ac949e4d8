/-
  Steel: contracts of Area, Mass, Bend, Round.
-/
import Derived.Test.YtoddlkpglfccaaaStA
namespace Go.Proofs.Ytoddlkpglfccaaa
open Go.RowKit

theorem bcell {W w1 : World} (hb : Below W.heap.size W w1) : (∀ b o, b < W.heap.size → w1.cell? ⟨b, o, none⟩ = W.cell? ⟨b, o, none⟩) ∧ (∀ b o, b < W.heap.size → w1.frozen? ⟨b, o, none⟩ = W.frozen? ⟨b, o, none⟩) :=
  ⟨fun b o h => hb.cell (p := ⟨b, o, none⟩) h, fun b o h => hb.frozen (p := ⟨b, o, none⟩) h⟩

theorem below_one {w w1 : World} {o : Obj} (hb : Below (w.alloc o).heap.size (w.alloc o) w1) : Below w.heap.size w w1 :=
  (below_new w o).trans (hb.mono (by simp))
theorem below_two {w w1 : World} {o o' : Obj} (hb : Below ((w.alloc o).alloc o').heap.size ((w.alloc o).alloc o') w1) : Below w.heap.size w w1 :=
  (below_new w o).trans ((below_one hb).mono (by simp))

theorem bstep {w W w1 : World} (h : Below w.heap.size w W) (hb : Below W.heap.size W w1) : Below w.heap.size w w1 := h.trans (hb.mono h.size)

theorem ret2_int {k k' : IntKind} {a b a' b' : Int} (h : a = b) (h' : a' = b') : Ending.returned (.tuple #[.int k a, .int k' a']) = .returned (.tuple #[.int k b, .int k' b']) := by rw [h, h']

theorem area_ok (d : Int) (w : World) (hs : szB d = true) : Calls Try.prog 17 #[.int .i64 d] w fun e w' => e = .returned (.tuple #[.int .i64 (areaOf d), .int .i64 0]) ∧ Below w.heap.size w w' := by
  have HS := Lib.hid hs
  have hb : 0 ≤ d ∧ d ≤ 40 := by have := szB_cases hs; omega
  clear hs
  go_enter Try.func17, Try.ntmps17
  go_wp2_with (first
    | (go_at_call 19; refine (size_any _ _).mono ?_; rw [HS.out]; rintro e w1 ⟨rfl, hb1⟩; obtain ⟨hc1, hf1⟩ := bcell hb1)
    | (go_at_call 29; refine (area_in _ _ hb.1 hb.2).mono ?_; rintro e w' ⟨rfl, rfl⟩)
    | go_in)
  go_ret2
  exact ⟨rfl, below_one ‹_›⟩

theorem area_no (d : Int) (w : World) (hs : szB d = false) : Calls Try.prog 17 #[.int .i64 d] w fun e w' => e = .returned (.tuple #[.int .i64 0, .int .i64 1]) ∧ Below w.heap.size w w' := by
  have HS := Lib.hid hs
  clear hs
  go_enter Try.func17, Try.ntmps17
  go_wp2_with (first
    | (go_at_call 19; refine (size_any _ _).mono ?_; rw [HS.out]; rintro e w1 ⟨rfl, hb1⟩; obtain ⟨hc1, hf1⟩ := bcell hb1)
    | go_in)
  go_ret2
  exact ⟨rfl, below_one ‹_›⟩

theorem bend_no (d : Int) (w : World) (hs : szB d = false) : Calls Try.prog 18 #[.int .i64 d] w fun e w' => e = .returned (.tuple #[.int .i64 0, .int .i64 1]) ∧ Below w.heap.size w w' := by
  have HS := Lib.hid hs
  clear hs
  go_enter Try.func18, Try.ntmps18
  go_wp2_with (first
    | (go_at_call 19; refine (size_any _ _).mono ?_; rw [HS.out]; rintro e w1 ⟨rfl, hb1⟩; obtain ⟨hc1, hf1⟩ := bcell hb1)
    | go_in)
  go_ret2
  exact ⟨rfl, below_one ‹_›⟩

theorem round_no (d : Int) (w : World) (hs : szB d = false) : Calls Try.prog 21 #[.int .i64 d] w fun e w' => e = .returned (.tuple #[.int .i64 0, .int .i64 1]) ∧ Below w.heap.size w w' := by
  have HS := Lib.hid hs
  clear hs
  go_enter Try.func21, Try.ntmps21
  go_wp2_with (first
    | (go_at_call 19; refine (size_any _ _).mono ?_; rw [HS.out]; rintro e w1 ⟨rfl, hb1⟩; obtain ⟨hc1, hf1⟩ := bcell hb1)
    | go_in)
  go_ret2
  exact ⟨rfl, below_one ‹_›⟩

theorem bend_ok (d : Int) (w : World) (hs : szB d = true) : Calls Try.prog 18 #[.int .i64 d] w fun e w' => e = .returned (.tuple #[.int .i64 (bendOf d), .int .i64 0]) ∧ Below w.heap.size w w' := by
  have HS := Lib.hid hs
  have hb : 0 ≤ d ∧ d ≤ 40 := by have := szB_cases hs; omega
  clear hs
  by_cases h16 : d ≤ 16
  · go_enter Try.func18, Try.ntmps18
    go_wp2_with (first
      | (go_at_call 19; refine (size_any _ _).mono ?_; rw [HS.out]; rintro e w1 ⟨rfl, hb1⟩; obtain ⟨hc1, hf1⟩ := bcell hb1)
      | go_in)
    go_ret2
    exact ⟨ret2_int (by simp [bendOf, h16]) rfl, below_one ‹_›⟩
  · go_enter Try.func18, Try.ntmps18
    go_wp2_with (first
      | (go_at_call 19; refine (size_any _ _).mono ?_; rw [HS.out]; rintro e w1 ⟨rfl, hb1⟩; obtain ⟨hc1, hf1⟩ := bcell hb1)
      | go_in)
    go_ret2
    exact ⟨ret2_int (by rw [bendOf, if_neg (by omega)]) rfl, below_one ‹_›⟩

theorem round_ok (d : Int) (w : World) (hs : szB d = true) : Calls Try.prog 21 #[.int .i64 d] w fun e w' => e = .returned (.tuple #[.int .i64 (roundOf d), .int .i64 0]) ∧ Below w.heap.size w w' := by
  have HS := Lib.hid hs
  have hb : 0 ≤ d ∧ d ≤ 40 := by have := szB_cases hs; omega
  clear hs
  go_enter Try.func21, Try.ntmps21
  go_wp2_with (first
    | (go_at_call 19; refine (size_any _ _).mono ?_; rw [HS.out]; rintro e w1 ⟨rfl, hb1⟩; obtain ⟨hc1, hf1⟩ := bcell hb1)
    | go_in)
  go_ret2
  exact ⟨rfl, below_one ‹_›⟩

theorem mass_bd (d n : Int) (hd0 : 0 ≤ d) (hd : d ≤ 40) (h0 : 0 ≤ n) (h1 : n ≤ 1048576) : 0 ≤ 6165 * d ∧ 6165 * d ≤ 246600 ∧ 0 ≤ 6165 * d * d ∧ 6165 * d * d ≤ 9864000 ∧ 0 ≤ 6165 * d * d * n ∧ 6165 * d * d * n ≤ 10343153664000 ∧ 0 ≤ massOf d n ∧ massOf d n ≤ 10343154 := by
  have h2 := mul_bd (a := 6165 * d) (b := d) (A := 246600) (B := 40) (by omega) (by omega) hd0 hd
  have h3 := mul_bd (a := 6165 * d * d) (b := n) (A := 9864000) (B := 1048576) (by omega) (by omega) h0 h1
  unfold massOf
  omega

theorem mass_ok (d n : Int) (w : World) (hs : szB d = true) (h0 : 0 ≤ n) (h1 : n ≤ 1048576) : Calls Try.prog 11 #[.int .i64 d, .int .i64 n] w fun e w' => e = .returned (.tuple #[.int .i64 (massOf d n), .int .i64 0]) ∧ Below w.heap.size w w' := by
  have HS := Lib.hid hs
  have hb : 0 ≤ d ∧ d ≤ 40 := by have := szB_cases hs; omega
  clear hs
  obtain ⟨b1, b2, b3, b4, b5, b6, _, _⟩ := mass_bd d n hb.1 hb.2 h0 h1
  go_enter Try.func11, Try.ntmps11
  go_wp2_with (first
    | (go_at_call 19; refine (size_any _ _).mono ?_; rw [HS.out]; rintro e w1 ⟨rfl, hb1⟩; have hB := bstep (w := w) (by go_grown) hb1; have hz1 : w.heap.size + 2 ≤ w1.heap.size := (by (have := hb1.size; (try simp at this); omega)); have hd1 : w1.cell? ⟨w.heap.size, 0, none⟩ = some (.int .i64 d) := (hb1.cell (p := ⟨w.heap.size, 0, none⟩) (by first | omega | (simp; done) | (simp; omega))).trans (by first | assumption | (simp [go_sem]; done)); have hn1 : w1.cell? ⟨w.heap.size + 1, 0, none⟩ = some (.int .i64 n) := (hb1.cell (p := ⟨w.heap.size + 1, 0, none⟩) (by first | omega | (simp; done) | (simp; omega))).trans (by first | assumption | (simp [go_sem]; done)))
    | go_in)
  go_ret2
  exact ⟨rfl, by go_grown⟩

theorem mass_range (d n : Int) (w : World) (hs : szB d = true) (h0 : n < 0 ∨ 1048576 < n) : Calls Try.prog 11 #[.int .i64 d, .int .i64 n] w fun e w' => e = .returned (.tuple #[.int .i64 0, .int .i64 2]) ∧ Below w.heap.size w w' := by
  have HS := Lib.hid hs
  clear hs
  rcases h0 with h0 | h0
  all_goals
    go_enter Try.func11, Try.ntmps11
    go_wp2_with (first
      | (go_at_call 19; refine (size_any _ _).mono ?_; rw [HS.out]; rintro e w1 ⟨rfl, hb1⟩; have hB := bstep (w := w) (by go_grown) hb1; have hz1 : w.heap.size + 2 ≤ w1.heap.size := (by (have := hb1.size; (try simp at this); omega)); have hd1 : w1.cell? ⟨w.heap.size, 0, none⟩ = some (.int .i64 d) := (hb1.cell (p := ⟨w.heap.size, 0, none⟩) (by first | omega | (simp; done) | (simp; omega))).trans (by first | assumption | (simp [go_sem]; done)); have hn1 : w1.cell? ⟨w.heap.size + 1, 0, none⟩ = some (.int .i64 n) := (hb1.cell (p := ⟨w.heap.size + 1, 0, none⟩) (by first | omega | (simp; done) | (simp; omega))).trans (by first | assumption | (simp [go_sem]; done)))
      | go_in)
    go_ret2
    exact ⟨rfl, below_two ‹_›⟩

theorem mass_no (d n : Int) (w : World) (hs : szB d = false) : Calls Try.prog 11 #[.int .i64 d, .int .i64 n] w fun e w' => e = .returned (.tuple #[.int .i64 0, .int .i64 1]) ∧ Below w.heap.size w w' := by
  have HS := Lib.hid hs
  clear hs
  go_enter Try.func11, Try.ntmps11
  go_wp2_with (first
    | (go_at_call 19; refine (size_any _ _).mono ?_; rw [HS.out]; rintro e w1 ⟨rfl, hb1⟩; have hB := bstep (w := w) (by go_grown) hb1; have hz1 : w.heap.size + 2 ≤ w1.heap.size := (by (have := hb1.size; (try simp at this); omega)); have hd1 : w1.cell? ⟨w.heap.size, 0, none⟩ = some (.int .i64 d) := (hb1.cell (p := ⟨w.heap.size, 0, none⟩) (by first | omega | (simp; done) | (simp; omega))).trans (by first | assumption | (simp [go_sem]; done)); have hn1 : w1.cell? ⟨w.heap.size + 1, 0, none⟩ = some (.int .i64 n) := (hb1.cell (p := ⟨w.heap.size + 1, 0, none⟩) (by first | omega | (simp; done) | (simp; omega))).trans (by first | assumption | (simp [go_sem]; done)))
    | go_in)
  go_ret2
  exact ⟨rfl, by go_grown⟩

def leastFrom (a c : Int) : List Int → Option Int
  | [] => none
  | d :: r => if a ≤ areaOf d * c then some d else leastFrom a c r

def leastOf (a c : Int) : Int × Int :=
  if a < 0 ∨ 1099511627776 < a ∨ c < 1 ∨ 1000 < c then (0, 2) else match leastFrom a c szs with | some d => (d, 0) | none => (0, 12)

theorem leastFrom_hit (a c : Int) (l : List Int) (k : Nat) (hk : k < l.length) (hno : ∀ j, j < k → areaOf (l.getD j 0) * c < a) (hy : a ≤ areaOf (l.getD k 0) * c) : leastFrom a c l = some (l.getD k 0) := by
  induction l generalizing k with
  | nil => simp at hk
  | cons d r ih =>
    cases k with
    | zero => simp only [List.getD_cons_zero] at hy ⊢; simp [leastFrom, hy]
    | succ k =>
      have h0 := hno 0 (by omega)
      simp only [List.getD_cons_zero] at h0
      rw [leastFrom, if_neg (by omega)]
      simp only [List.getD_cons_succ] at hy ⊢
      exact ih k (by simpa using hk) (fun j hj => by have := hno (j + 1) (by omega); simpa only [List.getD_cons_succ] using this) hy
theorem leastFrom_none (a c : Int) (l : List Int) (hno : ∀ j, j < l.length → areaOf (l.getD j 0) * c < a) : leastFrom a c l = none := by
  induction l with
  | nil => rfl
  | cons d r ih =>
    have h0 := hno 0 (by simp)
    simp only [List.getD_cons_zero] at h0
    rw [leastFrom, if_neg (by omega)]
    exact ih (fun j hj => by have := hno (j + 1) (by simpa using hj); simpa only [List.getD_cons_succ] using this)

theorem szs_bd (k : Nat) (hk : k < 9) : 6 ≤ szs.getD k 0 ∧ szs.getD k 0 ≤ 40 := by
  match k, hk with
  | 0, _ => decide
  | 1, _ => decide
  | 2, _ => decide
  | 3, _ => decide
  | 4, _ => decide
  | 5, _ => decide
  | 6, _ => decide
  | 7, _ => decide
  | 8, _ => decide

theorem szs_cell (w : World) (k : Nat) (hk : k < 9) : (w.alloc (.cells szCells 3)).cell? ⟨w.heap.size, k, none⟩ = some (.int .i64 (szs.getD k 0)) := by
  obtain ⟨ao, cap, hv, h⟩ := szs_ints w _ rfl
  obtain ⟨b, off, e, _, hc⟩ := h (by decide)
  have := hc k hk
  cases hv
  cases e
  simpa using this

theorem lt_b {a b : Int} (h : b < a) : decide (a ≤ b) = false := by simp; omega
theorem le_b {a b : Int} (h : a ≤ b) : decide (a ≤ b) = true := by simp; omega

set_option maxHeartbeats 400000 in
theorem least_any (a c : Int) (w : World) : Calls Try.prog 14 #[.int .i64 a, .int .i64 c] w fun e w' => e = .returned (.tuple #[.int .i64 (leastOf a c).1, .int .i64 (leastOf a c).2]) ∧ Below w.heap.size w w' := by
  by_cases h : a < 0 ∨ 1099511627776 < a ∨ c < 1 ∨ 1000 < c
  · have E := Lib.hid (show leastOf a c = (0, 2) by rw [leastOf, if_pos h])
    rw [E.out]
    by_cases h1 : a < 0
    · clear h
      go_enter Try.func14, Try.ntmps14
      go_wp2
      go_ret2
      exact ⟨rfl, Below.refl _ _⟩
    by_cases h2 : 1099511627776 < a
    · clear h
      go_enter Try.func14, Try.ntmps14
      go_wp2
      go_ret2
      exact ⟨rfl, Below.refl _ _⟩
    by_cases h3 : c < 1
    · clear h
      go_enter Try.func14, Try.ntmps14
      go_wp2
      go_ret2
      exact ⟨rfl, Below.refl _ _⟩
    have h4 : 1000 < c := by omega
    clear h
    go_enter Try.func14, Try.ntmps14
    go_wp2
    go_ret2
    exact ⟨rfl, Below.refl _ _⟩
  · have E := Lib.hid (show leastOf a c = (match leastFrom a c szs with | some d => (d, 0) | none => (0, 12)) by rw [leastOf, if_neg h])
    have hh : 0 ≤ a ∧ a ≤ 1099511627776 ∧ 1 ≤ c ∧ c ≤ 1000 := by omega
    obtain ⟨q1, q2, q3, q4⟩ := hh
    clear h
    go_enter Try.func14, Try.ntmps14
    go_wp2_with (go_at_call 16; refine (sizes_any _).mono ?_; rintro e w' ⟨rfl, rfl⟩)
    go_loop [7, 24] (fun _ i => ∃ k : Nat, k ≤ 9 ∧ i = .int .i64 k ∧ Hid (∀ j, j < k → areaOf (szs.getD j 0) * c < a)) (fun _ i => 9 - (intOf i).toNat)
    case atStart => exact ⟨0, Nat.zero_le _, rfl, fun j hj => by omega⟩
    case round =>
      obtain ⟨k, hk, rfl, hno⟩ := hrel
      by_cases hlt : k < 9
      · have hck := szs_cell w k hlt
        have hbd := szs_bd k hlt
        obtain ⟨y, hy⟩ : ∃ y, szs.getD k 0 = y := ⟨_, rfl⟩
        rw [hy] at hck hbd
        have HY := Lib.hid hy
        clear hy
        obtain ⟨_, _, _, _, m1, m2⟩ := area_bd y (by omega) hbd.2
        have hp := mul_bd m1 m2 (show (0:Int) ≤ c by omega) q4
        by_cases hx : a ≤ areaOf y * c
        · have hb := le_b hx
          go_wp2_with (go_at_call 29; refine (area_in _ _ (by omega) hbd.2).mono ?_; rintro e w' ⟨rfl, rfl⟩)
          go_ret2
          have R := leastFrom_hit a c szs k hlt hno (by rw [HY.out]; exact hx)
          rw [HY.out] at R
          have E' := E.out
          rw [R] at E'
          exact ⟨by rw [E']; rfl, below_new _ _⟩
        · have hb := lt_b (Int.not_le.1 hx)
          go_wp2_with (go_at_call 29; refine (area_in _ _ (by omega) hbd.2).mono ?_; rintro e w' ⟨rfl, rfl⟩)
          go_round
          case rel => exact ⟨k + 1, by omega, by go_num, fun j hj => by
            by_cases e : j = k
            · subst e; rw [HY.out]; omega
            · exact hno j (by omega)⟩
          case measure => simp [intOf]; omega
      · go_wp2
        go_ret2
        have R := leastFrom_none a c szs (fun j hj => hno j (by have : j < 9 := hj; omega))
        have E' := E.out
        rw [R] at E'
        exact ⟨by rw [E']; rfl, below_new _ _⟩

end Go.Proofs.Ytoddlkpglfccaaa
