/-
  Steel: the law that the least size is enough.
-/
import Derived.Test.YtoddlkpglfccaaaStG
namespace Go.Proofs.Ytoddlkpglfccaaa
open Go.RowKit

theorem leastFrom_some (a c : Int) (l : List Int) (d : Int) (h : leastFrom a c l = some d) : ∃ k, k < l.length ∧ l.getD k 0 = d ∧ (∀ j, j < k → areaOf (l.getD j 0) * c < a) ∧ a ≤ areaOf d * c := by
  induction l with
  | nil => simp [leastFrom] at h
  | cons x r ih =>
    rw [leastFrom] at h
    by_cases hx : a ≤ areaOf x * c
    · rw [if_pos hx] at h
      cases h
      exact ⟨0, by simp, by simp, fun j hj => by omega, hx⟩
    · rw [if_neg hx] at h
      obtain ⟨k, hk, h1, h2, h3⟩ := ih h
      refine ⟨k + 1, by simpa using hk, by simpa only [List.getD_cons_succ] using h1, fun j hj => ?_, h3⟩
      cases j with
      | zero => simp only [List.getD_cons_zero]; omega
      | succ j => simp only [List.getD_cons_succ]; exact h2 j (by omega)

theorem leastFrom_low (a c : Int) (l : List Int) (k : Nat) (hk : k < l.length) (h : a ≤ areaOf (l.getD k 0) * c) : ∃ j, j ≤ k ∧ leastFrom a c l = some (l.getD j 0) := by
  induction l generalizing k with
  | nil => simp at hk
  | cons x r ih =>
    by_cases hx : a ≤ areaOf x * c
    · exact ⟨0, Nat.zero_le _, by rw [leastFrom, if_pos hx]; simp⟩
    · cases k with
      | zero => simp only [List.getD_cons_zero] at h; exact absurd h hx
      | succ k =>
        simp only [List.getD_cons_succ] at h
        obtain ⟨j, hj, hl⟩ := ih k (by simpa using hk) h
        exact ⟨j + 1, by omega, by rw [leastFrom, if_neg hx]; simpa only [List.getD_cons_succ] using hl⟩

theorem leastFrom_none' (a c : Int) (l : List Int) (h : leastFrom a c l = none) (j : Nat) (hj : j < l.length) : areaOf (l.getD j 0) * c < a := by
  rcases Int.lt_or_le (areaOf (l.getD j 0) * c) a with h1 | h1
  · exact h1
  · obtain ⟨_, _, h2⟩ := leastFrom_low a c l j hj h1
    rw [h] at h2
    cases h2

theorem szs_mono (i j : Nat) (hj : j < 9) (hij : i ≤ j) : szs.getD i 0 ≤ szs.getD j 0 := by
  have : ∀ j, j < 9 → ∀ i, i ≤ j → szs.getD i 0 ≤ szs.getD j 0 := by decide
  exact this j hj i hij

theorem szs_idx (k : Nat) (hk : k < 9) : idxOf szs (szs.getD k 0) = k := by
  have : ∀ k, k < 9 → idxOf szs (szs.getD k 0) = k := by decide
  exact this k hk

theorem leastOf_in {a c : Int} (h : 0 ≤ a ∧ a ≤ 1099511627776 ∧ 1 ≤ c ∧ c ≤ 1000) : leastOf a c = (match leastFrom a c szs with | some d => (d, 0) | none => (0, 12)) := by
  rw [leastOf, if_neg (by omega)]; rfl

/-- What the three least sizes are where the first one is there. -/
theorem enough_facts (a n a2 n2 : Int) (d : Int) (ha : 0 ≤ a ∧ a ≤ 4294967295) (hn : 1 ≤ n ∧ n ≤ 1000) (ha2 : 0 ≤ a2 ∧ a2 ≤ a) (hn2 : n ≤ n2 ∧ n2 ≤ 1000) (h : leastFrom a n szs = some d) :
    ∃ k x y, k < 9 ∧ szs.getD k 0 = d ∧ leastOf a n = (d, 0) ∧ leastOf a n2 = (x, 0) ∧ leastOf a2 n = (y, 0) ∧ x ≤ d ∧ y ≤ d ∧ a ≤ n * areaOf d ∧ (∀ j, j < k → n * areaOf (szs.getD j 0) < a) := by
  obtain ⟨k, hk, hd, hlo, hhi⟩ := leastFrom_some a n szs d h
  have hk9 : k < 9 := hk
  have hbd := szs_bd k hk9
  rw [hd] at hbd
  obtain ⟨_, _, _, _, m1, m2⟩ := area_bd d (by omega) hbd.2
  have hx : a ≤ areaOf d * n2 := Int.le_trans hhi (Int.mul_le_mul_of_nonneg_left hn2.1 m1)
  have hy : a2 ≤ areaOf d * n := by omega
  obtain ⟨i, hi, hX⟩ := leastFrom_low a n2 szs k hk (by rw [hd]; exact hx)
  obtain ⟨i', hi', hY⟩ := leastFrom_low a2 n szs k hk (by rw [hd]; exact hy)
  refine ⟨k, szs.getD i 0, szs.getD i' 0, hk9, hd, ?_, ?_, ?_, ?_, ?_, ?_, ?_⟩
  · rw [leastOf_in (by omega), h]
  · rw [leastOf_in (by omega), hX]
  · rw [leastOf_in (by omega), hY]
  · rw [← hd]; exact szs_mono i k hk9 hi
  · rw [← hd]; exact szs_mono i' k hk9 hi'
  · rw [Int.mul_comm]; exact hhi
  · intro j hj; rw [Int.mul_comm]; exact hlo j hj

theorem max0_cases (a b : Int) : (a ≤ b ∧ max a b = b) ∨ (b < a ∧ max a b = a) := by
  rcases Int.lt_or_le b a with h | h
  · exact .inr ⟨h, Int.max_eq_left (by omega)⟩
  · exact .inl ⟨h, Int.max_eq_right h⟩


set_option maxRecDepth 100000 in
set_option maxHeartbeats 800000 in
theorem enough_some1 (a c m : Int) (d : Int) (ha : 0 ≤ a ∧ a ≤ 4294967295) (hc : 0 ≤ c ∧ c ≤ 65535) (hm : 0 ≤ m ∧ m ≤ 65535) (h : leastFrom a (1 + c % 1000) szs = some d) (h1 : 1 + c % 1000 + m < 1000) (h2 : m < a) (w : World) :
    Calls Try.prog 7 #[.int .u32 a, .int .u16 c, .int .u16 m] w fun e w' => e = .returned (.bool true) ∧ Below w.heap.size w w' := by
  have hn : 1 ≤ 1 + c % 1000 ∧ 1 + c % 1000 ≤ 1000 := by omega
  obtain ⟨k, x, y, hk, hd, e1, e2, e3, hx, hy, f1, f2⟩ := enough_facts a (1 + c % 1000) (a - m) (1 + c % 1000 + m) d ha hn (by omega) (by omega) h
  have hs := szB_hit hk hd
  have hbd := szs_bd k hk
  have hidx := szs_idx k hk
  rw [hd] at hidx hbd
  have HD := Lib.hid hd
  obtain ⟨_, _, _, _, m1, m2⟩ := area_bd d (by omega) hbd.2
  have p1 := mul_bd (A := 1000) (B := 125664) (show 0 ≤ 1 + c % 1000 by omega) hn.2 m1 m2
  have hid' := szs_idx k hk
  clear h hd hid'
  by_cases hk0 : k = 0
  · subst hk0
    clear f2
    go_enter Try.func7, Try.ntmps7
    go_wp2_with (first
      | (go_at_call 10; refine (awake_any _).mono ?_; rintro e w9 ⟨rfl, hb1⟩; have hB := bstep (w := w) (by go_grown) hb1; have hz := hB.size; obtain ⟨w1, rfl⟩ : ∃ w1, w1 = w9 := ⟨_, rfl⟩)
      | (go_at_call 16; refine (sizes_any _).mono ?_; rintro e w2 ⟨rfl, rfl⟩)
      | (go_at_call 14; refine (least_any _ _ _).mono ?_; rintro e w9 ⟨rfl, hb1⟩; have hB := bstep (w := w) (by go_grown) hb1; have hz := hB.size; have hB2 := bstep (w := w1.alloc (.cells szCells 3)) (by go_grown) hb1; have c8 := szs_below hB2 8 (by decide); rw [show szs.getD 8 0 = 40 from rfl] at c8)
      | (go_at_call 20; refine (index_any _ szs _ _ ((szs_ints w1 _ rfl).below (by assumption)) (by decide)).mono ?_; rintro e w9 ⟨rfl, rfl⟩)
      | (go_at_call 17; refine (area_ok _ _ hs).mono ?_; rintro e w9 ⟨rfl, hb1⟩; have hB := bstep (w := w) (by go_grown) hb1; have hz := hB.size; have hB2 := bstep (w := w1.alloc (.cells szCells 3)) (by go_grown) hb1; have c8 := szs_below hB2 8 (by decide); rw [show szs.getD 8 0 = 40 from rfl] at c8))
    go_ret
    exact ⟨rfl, by go_grown⟩
  · obtain ⟨j, rfl⟩ : ∃ j, k = j + 1 := ⟨k - 1, by omega⟩
    have f3 := f2 j (by omega)
    have hj : j < 9 := by omega
    clear f2
    obtain ⟨z, hz0⟩ : ∃ z, szs.getD j 0 = z := ⟨_, rfl⟩
    have hs2 := szB_hit hj hz0
    have hbz := szs_bd j hj
    rw [hz0] at f3 hbz
    have HZ := Lib.hid hz0
    clear hz0
    obtain ⟨_, _, _, _, m3, m4⟩ := area_bd z (by omega) hbz.2
    have p2 := mul_bd (A := 1000) (B := 125664) (show 0 ≤ 1 + c % 1000 by omega) hn.2 m3 m4
    go_enter Try.func7, Try.ntmps7
    go_wp2_with (first
      | (go_at_call 10; refine (awake_any _).mono ?_; rintro e w9 ⟨rfl, hb1⟩; have hB := bstep (w := w) (by go_grown) hb1; have hz := hB.size; obtain ⟨w1, rfl⟩ : ∃ w1, w1 = w9 := ⟨_, rfl⟩)
      | (go_at_call 16; refine (sizes_any _).mono ?_; rintro e w2 ⟨rfl, rfl⟩)
      | (go_at_call 14; refine (least_any _ _ _).mono ?_; rintro e w9 ⟨rfl, hb1⟩; have hB := bstep (w := w) (by go_grown) hb1; have hz := hB.size; have hB2 := bstep (w := w1.alloc (.cells szCells 3)) (by go_grown) hb1; have c8 := szs_below hB2 8 (by decide); rw [show szs.getD 8 0 = 40 from rfl] at c8)
      | (go_at_call 20; refine (index_any _ szs _ _ ((szs_ints w1 _ rfl).below (by assumption)) (by decide)).mono ?_; rintro e w9 ⟨rfl, rfl⟩)
      | (go_at_call 17; refine (area_ok _ _ (by assumption)).mono ?_; rintro e w9 ⟨rfl, hb1⟩; have hB := bstep (w := w) (by go_grown) hb1; have hz := hB.size; have hB2 := bstep (w := w1.alloc (.cells szCells 3)) (by go_grown) hb1; have c8 := szs_below hB2 8 (by decide); rw [show szs.getD 8 0 = 40 from rfl] at c8; have cj := szs_below hB2 j hj; rw [HZ.out] at cj))
    go_ret
    exact ⟨rfl, by go_grown⟩

set_option maxRecDepth 100000 in
set_option maxHeartbeats 800000 in
theorem enough_none1 (a c m : Int) (ha : 0 ≤ a ∧ a ≤ 4294967295) (hc : 0 ≤ c ∧ c ≤ 65535) (hm : 0 ≤ m ∧ m ≤ 65535) (h : leastFrom a (1 + c % 1000) szs = none) (h1 : 1 + c % 1000 + m < 1000) (h2 : m < a) (w : World) :
    Calls Try.prog 7 #[.int .u32 a, .int .u16 c, .int .u16 m] w fun e w' => e = .returned (.bool true) ∧ Below w.heap.size w w' := by
  have hn : 1 ≤ 1 + c % 1000 ∧ 1 + c % 1000 ≤ 1000 := by omega
  have e1 : leastOf a (1 + c % 1000) = (0, 12) := by rw [leastOf_in (by omega), h]
  have f1 := leastFrom_none' _ _ _ h 8 (by decide)
  rw [Int.mul_comm, show szs.getD 8 0 = 40 from rfl] at f1
  have hs : szB 40 = true := by decide
  have hk8 : (8 : Nat) < 9 := by omega
  obtain ⟨_, _, _, _, m1, m2⟩ := area_bd 40 (by omega) (by omega)
  have p1 := mul_bd (A := 1000) (B := 125664) (show 0 ≤ 1 + c % 1000 by omega) hn.2 m1 m2
  clear h
  go_enter Try.func7, Try.ntmps7
  go_wp2_with (first
    | (go_at_call 10; refine (awake_any _).mono ?_; rintro e w9 ⟨rfl, hb1⟩; have hB := bstep (w := w) (by go_grown) hb1; have hz := hB.size; obtain ⟨w1, rfl⟩ : ∃ w1, w1 = w9 := ⟨_, rfl⟩)
    | (go_at_call 16; refine (sizes_any _).mono ?_; rintro e w2 ⟨rfl, rfl⟩)
    | (go_at_call 14; refine (least_any _ _ _).mono ?_; rintro e w9 ⟨rfl, hb1⟩; have hB := bstep (w := w) (by go_grown) hb1; have hz := hB.size; have hB2 := bstep (w := w1.alloc (.cells szCells 3)) (by go_grown) hb1; have c8 := szs_below hB2 8 (by decide); rw [show szs.getD 8 0 = 40 from rfl] at c8)
    | (go_at_call 17; refine (area_ok _ _ hs).mono ?_; rintro e w9 ⟨rfl, hb1⟩; have hB := bstep (w := w) (by go_grown) hb1; have hz := hB.size; have hB2 := bstep (w := w1.alloc (.cells szCells 3)) (by go_grown) hb1; have c8 := szs_below hB2 8 (by decide); rw [show szs.getD 8 0 = 40 from rfl] at c8))
  go_ret
  exact ⟨rfl, by go_grown⟩

set_option maxRecDepth 100000 in
set_option maxHeartbeats 800000 in
theorem enough_some2 (a c m : Int) (d : Int) (ha : 0 ≤ a ∧ a ≤ 4294967295) (hc : 0 ≤ c ∧ c ≤ 65535) (hm : 0 ≤ m ∧ m ≤ 65535) (h : leastFrom a (1 + c % 1000) szs = some d) (h1 : 1000 ≤ 1 + c % 1000 + m) (h2 : m < a) (w : World) :
    Calls Try.prog 7 #[.int .u32 a, .int .u16 c, .int .u16 m] w fun e w' => e = .returned (.bool true) ∧ Below w.heap.size w w' := by
  have hn : 1 ≤ 1 + c % 1000 ∧ 1 + c % 1000 ≤ 1000 := by omega
  obtain ⟨k, x, y, hk, hd, e1, e2, e3, hx, hy, f1, f2⟩ := enough_facts a (1 + c % 1000) (a - m) (1000) d ha hn (by omega) (by omega) h
  have hs := szB_hit hk hd
  have hbd := szs_bd k hk
  have hidx := szs_idx k hk
  rw [hd] at hidx hbd
  have HD := Lib.hid hd
  obtain ⟨_, _, _, _, m1, m2⟩ := area_bd d (by omega) hbd.2
  have p1 := mul_bd (A := 1000) (B := 125664) (show 0 ≤ 1 + c % 1000 by omega) hn.2 m1 m2
  have hid' := szs_idx k hk
  clear h hd hid'
  by_cases hk0 : k = 0
  · subst hk0
    clear f2
    go_enter Try.func7, Try.ntmps7
    go_wp2_with (first
      | (go_at_call 10; refine (awake_any _).mono ?_; rintro e w9 ⟨rfl, hb1⟩; have hB := bstep (w := w) (by go_grown) hb1; have hz := hB.size; obtain ⟨w1, rfl⟩ : ∃ w1, w1 = w9 := ⟨_, rfl⟩)
      | (go_at_call 16; refine (sizes_any _).mono ?_; rintro e w2 ⟨rfl, rfl⟩)
      | (go_at_call 14; refine (least_any _ _ _).mono ?_; rintro e w9 ⟨rfl, hb1⟩; have hB := bstep (w := w) (by go_grown) hb1; have hz := hB.size; have hB2 := bstep (w := w1.alloc (.cells szCells 3)) (by go_grown) hb1; have c8 := szs_below hB2 8 (by decide); rw [show szs.getD 8 0 = 40 from rfl] at c8)
      | (go_at_call 20; refine (index_any _ szs _ _ ((szs_ints w1 _ rfl).below (by assumption)) (by decide)).mono ?_; rintro e w9 ⟨rfl, rfl⟩)
      | (go_at_call 17; refine (area_ok _ _ hs).mono ?_; rintro e w9 ⟨rfl, hb1⟩; have hB := bstep (w := w) (by go_grown) hb1; have hz := hB.size; have hB2 := bstep (w := w1.alloc (.cells szCells 3)) (by go_grown) hb1; have c8 := szs_below hB2 8 (by decide); rw [show szs.getD 8 0 = 40 from rfl] at c8))
    go_ret
    exact ⟨rfl, by go_grown⟩
  · obtain ⟨j, rfl⟩ : ∃ j, k = j + 1 := ⟨k - 1, by omega⟩
    have f3 := f2 j (by omega)
    have hj : j < 9 := by omega
    clear f2
    obtain ⟨z, hz0⟩ : ∃ z, szs.getD j 0 = z := ⟨_, rfl⟩
    have hs2 := szB_hit hj hz0
    have hbz := szs_bd j hj
    rw [hz0] at f3 hbz
    have HZ := Lib.hid hz0
    clear hz0
    obtain ⟨_, _, _, _, m3, m4⟩ := area_bd z (by omega) hbz.2
    have p2 := mul_bd (A := 1000) (B := 125664) (show 0 ≤ 1 + c % 1000 by omega) hn.2 m3 m4
    go_enter Try.func7, Try.ntmps7
    go_wp2_with (first
      | (go_at_call 10; refine (awake_any _).mono ?_; rintro e w9 ⟨rfl, hb1⟩; have hB := bstep (w := w) (by go_grown) hb1; have hz := hB.size; obtain ⟨w1, rfl⟩ : ∃ w1, w1 = w9 := ⟨_, rfl⟩)
      | (go_at_call 16; refine (sizes_any _).mono ?_; rintro e w2 ⟨rfl, rfl⟩)
      | (go_at_call 14; refine (least_any _ _ _).mono ?_; rintro e w9 ⟨rfl, hb1⟩; have hB := bstep (w := w) (by go_grown) hb1; have hz := hB.size; have hB2 := bstep (w := w1.alloc (.cells szCells 3)) (by go_grown) hb1; have c8 := szs_below hB2 8 (by decide); rw [show szs.getD 8 0 = 40 from rfl] at c8)
      | (go_at_call 20; refine (index_any _ szs _ _ ((szs_ints w1 _ rfl).below (by assumption)) (by decide)).mono ?_; rintro e w9 ⟨rfl, rfl⟩)
      | (go_at_call 17; refine (area_ok _ _ (by assumption)).mono ?_; rintro e w9 ⟨rfl, hb1⟩; have hB := bstep (w := w) (by go_grown) hb1; have hz := hB.size; have hB2 := bstep (w := w1.alloc (.cells szCells 3)) (by go_grown) hb1; have c8 := szs_below hB2 8 (by decide); rw [show szs.getD 8 0 = 40 from rfl] at c8; have cj := szs_below hB2 j hj; rw [HZ.out] at cj))
    go_ret
    exact ⟨rfl, by go_grown⟩

set_option maxRecDepth 100000 in
set_option maxHeartbeats 800000 in
theorem enough_none2 (a c m : Int) (ha : 0 ≤ a ∧ a ≤ 4294967295) (hc : 0 ≤ c ∧ c ≤ 65535) (hm : 0 ≤ m ∧ m ≤ 65535) (h : leastFrom a (1 + c % 1000) szs = none) (h1 : 1000 ≤ 1 + c % 1000 + m) (h2 : m < a) (w : World) :
    Calls Try.prog 7 #[.int .u32 a, .int .u16 c, .int .u16 m] w fun e w' => e = .returned (.bool true) ∧ Below w.heap.size w w' := by
  have hn : 1 ≤ 1 + c % 1000 ∧ 1 + c % 1000 ≤ 1000 := by omega
  have e1 : leastOf a (1 + c % 1000) = (0, 12) := by rw [leastOf_in (by omega), h]
  have f1 := leastFrom_none' _ _ _ h 8 (by decide)
  rw [Int.mul_comm, show szs.getD 8 0 = 40 from rfl] at f1
  have hs : szB 40 = true := by decide
  have hk8 : (8 : Nat) < 9 := by omega
  obtain ⟨_, _, _, _, m1, m2⟩ := area_bd 40 (by omega) (by omega)
  have p1 := mul_bd (A := 1000) (B := 125664) (show 0 ≤ 1 + c % 1000 by omega) hn.2 m1 m2
  clear h
  go_enter Try.func7, Try.ntmps7
  go_wp2_with (first
    | (go_at_call 10; refine (awake_any _).mono ?_; rintro e w9 ⟨rfl, hb1⟩; have hB := bstep (w := w) (by go_grown) hb1; have hz := hB.size; obtain ⟨w1, rfl⟩ : ∃ w1, w1 = w9 := ⟨_, rfl⟩)
    | (go_at_call 16; refine (sizes_any _).mono ?_; rintro e w2 ⟨rfl, rfl⟩)
    | (go_at_call 14; refine (least_any _ _ _).mono ?_; rintro e w9 ⟨rfl, hb1⟩; have hB := bstep (w := w) (by go_grown) hb1; have hz := hB.size; have hB2 := bstep (w := w1.alloc (.cells szCells 3)) (by go_grown) hb1; have c8 := szs_below hB2 8 (by decide); rw [show szs.getD 8 0 = 40 from rfl] at c8)
    | (go_at_call 17; refine (area_ok _ _ hs).mono ?_; rintro e w9 ⟨rfl, hb1⟩; have hB := bstep (w := w) (by go_grown) hb1; have hz := hB.size; have hB2 := bstep (w := w1.alloc (.cells szCells 3)) (by go_grown) hb1; have c8 := szs_below hB2 8 (by decide); rw [show szs.getD 8 0 = 40 from rfl] at c8))
  go_ret
  exact ⟨rfl, by go_grown⟩

set_option maxRecDepth 100000 in
set_option maxHeartbeats 800000 in
theorem enough_some3 (a c m : Int) (d : Int) (ha : 0 ≤ a ∧ a ≤ 4294967295) (hc : 0 ≤ c ∧ c ≤ 65535) (hm : 0 ≤ m ∧ m ≤ 65535) (h : leastFrom a (1 + c % 1000) szs = some d) (h1 : 1 + c % 1000 + m < 1000) (h2 : a ≤ m) (w : World) :
    Calls Try.prog 7 #[.int .u32 a, .int .u16 c, .int .u16 m] w fun e w' => e = .returned (.bool true) ∧ Below w.heap.size w w' := by
  have hn : 1 ≤ 1 + c % 1000 ∧ 1 + c % 1000 ≤ 1000 := by omega
  obtain ⟨k, x, y, hk, hd, e1, e2, e3, hx, hy, f1, f2⟩ := enough_facts a (1 + c % 1000) (0) (1 + c % 1000 + m) d ha hn (by omega) (by omega) h
  have hs := szB_hit hk hd
  have hbd := szs_bd k hk
  have hidx := szs_idx k hk
  rw [hd] at hidx hbd
  have HD := Lib.hid hd
  obtain ⟨_, _, _, _, m1, m2⟩ := area_bd d (by omega) hbd.2
  have p1 := mul_bd (A := 1000) (B := 125664) (show 0 ≤ 1 + c % 1000 by omega) hn.2 m1 m2
  have hid' := szs_idx k hk
  clear h hd hid'
  by_cases hk0 : k = 0
  · subst hk0
    clear f2
    go_enter Try.func7, Try.ntmps7
    go_wp2_with (first
      | (go_at_call 10; refine (awake_any _).mono ?_; rintro e w9 ⟨rfl, hb1⟩; have hB := bstep (w := w) (by go_grown) hb1; have hz := hB.size; obtain ⟨w1, rfl⟩ : ∃ w1, w1 = w9 := ⟨_, rfl⟩)
      | (go_at_call 16; refine (sizes_any _).mono ?_; rintro e w2 ⟨rfl, rfl⟩)
      | (go_at_call 14; refine (least_any _ _ _).mono ?_; rintro e w9 ⟨rfl, hb1⟩; have hB := bstep (w := w) (by go_grown) hb1; have hz := hB.size; have hB2 := bstep (w := w1.alloc (.cells szCells 3)) (by go_grown) hb1; have c8 := szs_below hB2 8 (by decide); rw [show szs.getD 8 0 = 40 from rfl] at c8)
      | (go_at_call 20; refine (index_any _ szs _ _ ((szs_ints w1 _ rfl).below (by assumption)) (by decide)).mono ?_; rintro e w9 ⟨rfl, rfl⟩)
      | (go_at_call 17; refine (area_ok _ _ hs).mono ?_; rintro e w9 ⟨rfl, hb1⟩; have hB := bstep (w := w) (by go_grown) hb1; have hz := hB.size; have hB2 := bstep (w := w1.alloc (.cells szCells 3)) (by go_grown) hb1; have c8 := szs_below hB2 8 (by decide); rw [show szs.getD 8 0 = 40 from rfl] at c8))
    go_ret
    exact ⟨rfl, by go_grown⟩
  · obtain ⟨j, rfl⟩ : ∃ j, k = j + 1 := ⟨k - 1, by omega⟩
    have f3 := f2 j (by omega)
    have hj : j < 9 := by omega
    clear f2
    obtain ⟨z, hz0⟩ : ∃ z, szs.getD j 0 = z := ⟨_, rfl⟩
    have hs2 := szB_hit hj hz0
    have hbz := szs_bd j hj
    rw [hz0] at f3 hbz
    have HZ := Lib.hid hz0
    clear hz0
    obtain ⟨_, _, _, _, m3, m4⟩ := area_bd z (by omega) hbz.2
    have p2 := mul_bd (A := 1000) (B := 125664) (show 0 ≤ 1 + c % 1000 by omega) hn.2 m3 m4
    go_enter Try.func7, Try.ntmps7
    go_wp2_with (first
      | (go_at_call 10; refine (awake_any _).mono ?_; rintro e w9 ⟨rfl, hb1⟩; have hB := bstep (w := w) (by go_grown) hb1; have hz := hB.size; obtain ⟨w1, rfl⟩ : ∃ w1, w1 = w9 := ⟨_, rfl⟩)
      | (go_at_call 16; refine (sizes_any _).mono ?_; rintro e w2 ⟨rfl, rfl⟩)
      | (go_at_call 14; refine (least_any _ _ _).mono ?_; rintro e w9 ⟨rfl, hb1⟩; have hB := bstep (w := w) (by go_grown) hb1; have hz := hB.size; have hB2 := bstep (w := w1.alloc (.cells szCells 3)) (by go_grown) hb1; have c8 := szs_below hB2 8 (by decide); rw [show szs.getD 8 0 = 40 from rfl] at c8)
      | (go_at_call 20; refine (index_any _ szs _ _ ((szs_ints w1 _ rfl).below (by assumption)) (by decide)).mono ?_; rintro e w9 ⟨rfl, rfl⟩)
      | (go_at_call 17; refine (area_ok _ _ (by assumption)).mono ?_; rintro e w9 ⟨rfl, hb1⟩; have hB := bstep (w := w) (by go_grown) hb1; have hz := hB.size; have hB2 := bstep (w := w1.alloc (.cells szCells 3)) (by go_grown) hb1; have c8 := szs_below hB2 8 (by decide); rw [show szs.getD 8 0 = 40 from rfl] at c8; have cj := szs_below hB2 j hj; rw [HZ.out] at cj))
    go_ret
    exact ⟨rfl, by go_grown⟩

set_option maxRecDepth 100000 in
set_option maxHeartbeats 800000 in
theorem enough_none3 (a c m : Int) (ha : 0 ≤ a ∧ a ≤ 4294967295) (hc : 0 ≤ c ∧ c ≤ 65535) (hm : 0 ≤ m ∧ m ≤ 65535) (h : leastFrom a (1 + c % 1000) szs = none) (h1 : 1 + c % 1000 + m < 1000) (h2 : a ≤ m) (w : World) :
    Calls Try.prog 7 #[.int .u32 a, .int .u16 c, .int .u16 m] w fun e w' => e = .returned (.bool true) ∧ Below w.heap.size w w' := by
  have hn : 1 ≤ 1 + c % 1000 ∧ 1 + c % 1000 ≤ 1000 := by omega
  have e1 : leastOf a (1 + c % 1000) = (0, 12) := by rw [leastOf_in (by omega), h]
  have f1 := leastFrom_none' _ _ _ h 8 (by decide)
  rw [Int.mul_comm, show szs.getD 8 0 = 40 from rfl] at f1
  have hs : szB 40 = true := by decide
  have hk8 : (8 : Nat) < 9 := by omega
  obtain ⟨_, _, _, _, m1, m2⟩ := area_bd 40 (by omega) (by omega)
  have p1 := mul_bd (A := 1000) (B := 125664) (show 0 ≤ 1 + c % 1000 by omega) hn.2 m1 m2
  clear h
  go_enter Try.func7, Try.ntmps7
  go_wp2_with (first
    | (go_at_call 10; refine (awake_any _).mono ?_; rintro e w9 ⟨rfl, hb1⟩; have hB := bstep (w := w) (by go_grown) hb1; have hz := hB.size; obtain ⟨w1, rfl⟩ : ∃ w1, w1 = w9 := ⟨_, rfl⟩)
    | (go_at_call 16; refine (sizes_any _).mono ?_; rintro e w2 ⟨rfl, rfl⟩)
    | (go_at_call 14; refine (least_any _ _ _).mono ?_; rintro e w9 ⟨rfl, hb1⟩; have hB := bstep (w := w) (by go_grown) hb1; have hz := hB.size; have hB2 := bstep (w := w1.alloc (.cells szCells 3)) (by go_grown) hb1; have c8 := szs_below hB2 8 (by decide); rw [show szs.getD 8 0 = 40 from rfl] at c8)
    | (go_at_call 17; refine (area_ok _ _ hs).mono ?_; rintro e w9 ⟨rfl, hb1⟩; have hB := bstep (w := w) (by go_grown) hb1; have hz := hB.size; have hB2 := bstep (w := w1.alloc (.cells szCells 3)) (by go_grown) hb1; have c8 := szs_below hB2 8 (by decide); rw [show szs.getD 8 0 = 40 from rfl] at c8))
  go_ret
  exact ⟨rfl, by go_grown⟩

set_option maxRecDepth 100000 in
set_option maxHeartbeats 800000 in
theorem enough_some4 (a c m : Int) (d : Int) (ha : 0 ≤ a ∧ a ≤ 4294967295) (hc : 0 ≤ c ∧ c ≤ 65535) (hm : 0 ≤ m ∧ m ≤ 65535) (h : leastFrom a (1 + c % 1000) szs = some d) (h1 : 1000 ≤ 1 + c % 1000 + m) (h2 : a ≤ m) (w : World) :
    Calls Try.prog 7 #[.int .u32 a, .int .u16 c, .int .u16 m] w fun e w' => e = .returned (.bool true) ∧ Below w.heap.size w w' := by
  have hn : 1 ≤ 1 + c % 1000 ∧ 1 + c % 1000 ≤ 1000 := by omega
  obtain ⟨k, x, y, hk, hd, e1, e2, e3, hx, hy, f1, f2⟩ := enough_facts a (1 + c % 1000) (0) (1000) d ha hn (by omega) (by omega) h
  have hs := szB_hit hk hd
  have hbd := szs_bd k hk
  have hidx := szs_idx k hk
  rw [hd] at hidx hbd
  have HD := Lib.hid hd
  obtain ⟨_, _, _, _, m1, m2⟩ := area_bd d (by omega) hbd.2
  have p1 := mul_bd (A := 1000) (B := 125664) (show 0 ≤ 1 + c % 1000 by omega) hn.2 m1 m2
  have hid' := szs_idx k hk
  clear h hd hid'
  by_cases hk0 : k = 0
  · subst hk0
    clear f2
    go_enter Try.func7, Try.ntmps7
    go_wp2_with (first
      | (go_at_call 10; refine (awake_any _).mono ?_; rintro e w9 ⟨rfl, hb1⟩; have hB := bstep (w := w) (by go_grown) hb1; have hz := hB.size; obtain ⟨w1, rfl⟩ : ∃ w1, w1 = w9 := ⟨_, rfl⟩)
      | (go_at_call 16; refine (sizes_any _).mono ?_; rintro e w2 ⟨rfl, rfl⟩)
      | (go_at_call 14; refine (least_any _ _ _).mono ?_; rintro e w9 ⟨rfl, hb1⟩; have hB := bstep (w := w) (by go_grown) hb1; have hz := hB.size; have hB2 := bstep (w := w1.alloc (.cells szCells 3)) (by go_grown) hb1; have c8 := szs_below hB2 8 (by decide); rw [show szs.getD 8 0 = 40 from rfl] at c8)
      | (go_at_call 20; refine (index_any _ szs _ _ ((szs_ints w1 _ rfl).below (by assumption)) (by decide)).mono ?_; rintro e w9 ⟨rfl, rfl⟩)
      | (go_at_call 17; refine (area_ok _ _ hs).mono ?_; rintro e w9 ⟨rfl, hb1⟩; have hB := bstep (w := w) (by go_grown) hb1; have hz := hB.size; have hB2 := bstep (w := w1.alloc (.cells szCells 3)) (by go_grown) hb1; have c8 := szs_below hB2 8 (by decide); rw [show szs.getD 8 0 = 40 from rfl] at c8))
    go_ret
    exact ⟨rfl, by go_grown⟩
  · obtain ⟨j, rfl⟩ : ∃ j, k = j + 1 := ⟨k - 1, by omega⟩
    have f3 := f2 j (by omega)
    have hj : j < 9 := by omega
    clear f2
    obtain ⟨z, hz0⟩ : ∃ z, szs.getD j 0 = z := ⟨_, rfl⟩
    have hs2 := szB_hit hj hz0
    have hbz := szs_bd j hj
    rw [hz0] at f3 hbz
    have HZ := Lib.hid hz0
    clear hz0
    obtain ⟨_, _, _, _, m3, m4⟩ := area_bd z (by omega) hbz.2
    have p2 := mul_bd (A := 1000) (B := 125664) (show 0 ≤ 1 + c % 1000 by omega) hn.2 m3 m4
    go_enter Try.func7, Try.ntmps7
    go_wp2_with (first
      | (go_at_call 10; refine (awake_any _).mono ?_; rintro e w9 ⟨rfl, hb1⟩; have hB := bstep (w := w) (by go_grown) hb1; have hz := hB.size; obtain ⟨w1, rfl⟩ : ∃ w1, w1 = w9 := ⟨_, rfl⟩)
      | (go_at_call 16; refine (sizes_any _).mono ?_; rintro e w2 ⟨rfl, rfl⟩)
      | (go_at_call 14; refine (least_any _ _ _).mono ?_; rintro e w9 ⟨rfl, hb1⟩; have hB := bstep (w := w) (by go_grown) hb1; have hz := hB.size; have hB2 := bstep (w := w1.alloc (.cells szCells 3)) (by go_grown) hb1; have c8 := szs_below hB2 8 (by decide); rw [show szs.getD 8 0 = 40 from rfl] at c8)
      | (go_at_call 20; refine (index_any _ szs _ _ ((szs_ints w1 _ rfl).below (by assumption)) (by decide)).mono ?_; rintro e w9 ⟨rfl, rfl⟩)
      | (go_at_call 17; refine (area_ok _ _ (by assumption)).mono ?_; rintro e w9 ⟨rfl, hb1⟩; have hB := bstep (w := w) (by go_grown) hb1; have hz := hB.size; have hB2 := bstep (w := w1.alloc (.cells szCells 3)) (by go_grown) hb1; have c8 := szs_below hB2 8 (by decide); rw [show szs.getD 8 0 = 40 from rfl] at c8; have cj := szs_below hB2 j hj; rw [HZ.out] at cj))
    go_ret
    exact ⟨rfl, by go_grown⟩

set_option maxRecDepth 100000 in
set_option maxHeartbeats 800000 in
theorem enough_none4 (a c m : Int) (ha : 0 ≤ a ∧ a ≤ 4294967295) (hc : 0 ≤ c ∧ c ≤ 65535) (hm : 0 ≤ m ∧ m ≤ 65535) (h : leastFrom a (1 + c % 1000) szs = none) (h1 : 1000 ≤ 1 + c % 1000 + m) (h2 : a ≤ m) (w : World) :
    Calls Try.prog 7 #[.int .u32 a, .int .u16 c, .int .u16 m] w fun e w' => e = .returned (.bool true) ∧ Below w.heap.size w w' := by
  have hn : 1 ≤ 1 + c % 1000 ∧ 1 + c % 1000 ≤ 1000 := by omega
  have e1 : leastOf a (1 + c % 1000) = (0, 12) := by rw [leastOf_in (by omega), h]
  have f1 := leastFrom_none' _ _ _ h 8 (by decide)
  rw [Int.mul_comm, show szs.getD 8 0 = 40 from rfl] at f1
  have hs : szB 40 = true := by decide
  have hk8 : (8 : Nat) < 9 := by omega
  obtain ⟨_, _, _, _, m1, m2⟩ := area_bd 40 (by omega) (by omega)
  have p1 := mul_bd (A := 1000) (B := 125664) (show 0 ≤ 1 + c % 1000 by omega) hn.2 m1 m2
  clear h
  go_enter Try.func7, Try.ntmps7
  go_wp2_with (first
    | (go_at_call 10; refine (awake_any _).mono ?_; rintro e w9 ⟨rfl, hb1⟩; have hB := bstep (w := w) (by go_grown) hb1; have hz := hB.size; obtain ⟨w1, rfl⟩ : ∃ w1, w1 = w9 := ⟨_, rfl⟩)
    | (go_at_call 16; refine (sizes_any _).mono ?_; rintro e w2 ⟨rfl, rfl⟩)
    | (go_at_call 14; refine (least_any _ _ _).mono ?_; rintro e w9 ⟨rfl, hb1⟩; have hB := bstep (w := w) (by go_grown) hb1; have hz := hB.size; have hB2 := bstep (w := w1.alloc (.cells szCells 3)) (by go_grown) hb1; have c8 := szs_below hB2 8 (by decide); rw [show szs.getD 8 0 = 40 from rfl] at c8)
    | (go_at_call 17; refine (area_ok _ _ hs).mono ?_; rintro e w9 ⟨rfl, hb1⟩; have hB := bstep (w := w) (by go_grown) hb1; have hz := hB.size; have hB2 := bstep (w := w1.alloc (.cells szCells 3)) (by go_grown) hb1; have c8 := szs_below hB2 8 (by decide); rw [show szs.getD 8 0 = 40 from rfl] at c8))
  go_ret
  exact ⟨rfl, by go_grown⟩

theorem enough_any (a c m : Int) (ha : 0 ≤ a ∧ a ≤ 4294967295) (hc : 0 ≤ c ∧ c ≤ 65535) (hm : 0 ≤ m ∧ m ≤ 65535) (w : World) :
    Calls Try.prog 7 #[.int .u32 a, .int .u16 c, .int .u16 m] w fun e w' => e = .returned (.bool true) ∧ Below w.heap.size w w' := by
  cases h : leastFrom a (1 + c % 1000) szs with
  | some d =>
    by_cases h1 : 1 + c % 1000 + m < 1000 <;> by_cases h2 : m < a
    · exact enough_some1 a c m d ha hc hm h h1 h2 w
    · exact enough_some3 a c m d ha hc hm h h1 (by omega) w
    · exact enough_some2 a c m d ha hc hm h (by omega) h2 w
    · exact enough_some4 a c m d ha hc hm h (by omega) (by omega) w
  | none =>
    by_cases h1 : 1 + c % 1000 + m < 1000 <;> by_cases h2 : m < a
    · exact enough_none1 a c m ha hc hm h h1 h2 w
    · exact enough_none3 a c m ha hc hm h h1 (by omega) w
    · exact enough_none2 a c m ha hc hm h (by omega) h2 w
    · exact enough_none4 a c m ha hc hm h (by omega) (by omega) w
end Go.Proofs.Ytoddlkpglfccaaa
