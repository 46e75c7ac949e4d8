/-
  Steel: the laws of halves, of sums, of the sizes.
-/
import Derived.Test.YtoddlkpglfccaaaStC
import Derived.Test.YtoddlkpglfccaaaStD
namespace Go.Proofs.Ytoddlkpglfccaaa
open Go.RowKit

theorem round_bd (d : Int) : d ≤ 2 * roundOf d ∧ 2 * roundOf d ≤ d + 1 := by unfold roundOf; omega

theorem u8_bd {a : Int} (h : (Lit.int .u8 a).wf = true) : 0 ≤ a ∧ a ≤ 255 := by simpa [Lit.wf, IntKind.min, IntKind.max, IntKind.signed, IntKind.bits] using h
theorem u16_bd {a : Int} (h : (Lit.int .u16 a).wf = true) : 0 ≤ a ∧ a ≤ 65535 := by simpa [Lit.wf, IntKind.min, IntKind.max, IntKind.signed, IntKind.bits] using h
theorem u32_bd {a : Int} (h : (Lit.int .u32 a).wf = true) : 0 ≤ a ∧ a ≤ 4294967295 := by simpa [Lit.wf, IntKind.min, IntKind.max, IntKind.signed, IntKind.bits] using h

set_option maxHeartbeats 800000 in
theorem halves_any (a : Int) (ha : 0 ≤ a ∧ a ≤ 255) (w : World) : Calls Try.prog 8 #[.int .u8 a] w fun e w' => e = .returned (.bool true) ∧ Below w.heap.size w w' := by
  obtain ⟨m, rfl⟩ := Int.eq_ofNat_of_zero_le ha.1
  have hm : m % 9 < 9 := by omega
  obtain ⟨y, hy⟩ : ∃ y, szs.getD (m % 9) 0 = y := ⟨_, rfl⟩
  have hs := szB_hit hm hy
  have hbd := szs_bd _ hm
  rw [hy] at hbd
  have HY := Lib.hid hy
  clear hy
  obtain ⟨r1, r2⟩ := round_bd y
  go_enter Try.func8, Try.ntmps8
  go_wp2_with (first
    | (go_at_call 10; refine (awake_any _).mono ?_; rintro e w1 ⟨rfl, hb1⟩; have hB := bstep (w := w) (by go_grown) hb1; have hz := hB.size)
    | (go_at_call 16; refine (sizes_any _).mono ?_; rintro e w2 ⟨rfl, rfl⟩; have hck := szs_cell w1 _ hm; rw [HY.out] at hck)
    | (go_at_call 21; refine (round_ok _ _ hs).mono ?_; rintro e w1 ⟨rfl, hb1⟩; have hB := bstep (w := w) (by go_grown) hb1; have hz := hB.size))
  go_ret
  exact ⟨by simp, by go_grown⟩

theorem mass_adds (d x y : Int) (k : Nat) (hk : k < 9) (hd : szs.getD k 0 = d) : massOf d (x + y) - massOf d x - massOf d y ≤ 1 ∧ massOf d x + massOf d y - massOf d (x + y) ≤ 1 := by
  subst hd
  unfold massOf
  match k, hk with
  | 0, _ => simp [szs]; omega
  | 1, _ => simp [szs]; omega
  | 2, _ => simp [szs]; omega
  | 3, _ => simp [szs]; omega
  | 4, _ => simp [szs]; omega
  | 5, _ => simp [szs]; omega
  | 6, _ => simp [szs]; omega
  | 7, _ => simp [szs]; omega
  | 8, _ => simp [szs]; omega

set_option maxHeartbeats 800000 in
theorem adds_any (a b c : Int) (ha : 0 ≤ a ∧ a ≤ 255) (hb : 0 ≤ b ∧ b ≤ 4294967295) (hc : 0 ≤ c ∧ c ≤ 4294967295) (w : World) : Calls Try.prog 6 #[.int .u8 a, .int .u32 b, .int .u32 c] w fun e w' => e = .returned (.bool true) ∧ Below w.heap.size w w' := by
  obtain ⟨m, rfl⟩ := Int.eq_ofNat_of_zero_le ha.1
  have hm : m % 9 < 9 := by omega
  obtain ⟨d, hy⟩ : ∃ y, szs.getD (m % 9) 0 = y := ⟨_, rfl⟩
  have hs := szB_hit hm hy
  have hbd := szs_bd _ hm
  rw [hy] at hbd
  have HY := Lib.hid hy
  clear hy
  have x0 : 0 ≤ b % 524289 ∧ b % 524289 ≤ 524288 := by omega
  have y0 : 0 ≤ c % 524289 ∧ c % 524289 ≤ 524288 := by omega
  obtain ⟨s1, s2⟩ := mass_adds d (b % 524289) (c % 524289) _ hm HY.out
  obtain ⟨_, _, _, _, _, _, p1, p2⟩ := mass_bd d (b % 524289) (by omega) hbd.2 x0.1 (by omega)
  obtain ⟨_, _, _, _, _, _, p3, p4⟩ := mass_bd d (c % 524289) (by omega) hbd.2 y0.1 (by omega)
  obtain ⟨_, _, _, _, _, _, p5, p6⟩ := mass_bd d (b % 524289 + c % 524289) (by omega) hbd.2 (by omega) (by omega)
  go_enter Try.func6, Try.ntmps6
  go_wp2_with (first
    | (go_at_call 10; refine (awake_any _).mono ?_; rintro e w1 ⟨rfl, hb1⟩; have hB := bstep (w := w) (by go_grown) hb1; have hz := hB.size)
    | (go_at_call 16; refine (sizes_any _).mono ?_; rintro e w2 ⟨rfl, rfl⟩; have hck := szs_cell w1 _ hm; rw [HY.out] at hck)
    | (go_at_call 11; refine (mass_ok _ _ _ hs (by omega) (by omega)).mono ?_; rintro e w1 ⟨rfl, hb1⟩; have hB := bstep (w := w) (by go_grown) hb1; have hz := hB.size))
  all_goals (go_ret; exact ⟨rfl, by go_grown⟩)
end Go.Proofs.Ytoddlkpglfccaaa
