/-
  Reference 19: Clear, Need, Right, Laid.
-/
import Derived.Test.YtpiigmhbbcjamaaGreatCsi
import Derived.Test.YtpiigmhbbcjamaaGreatRfx
namespace Go.Proofs.YtpiigmhbbcjamaaGreat
section
open Go.RowKit
set_option linter.unusedVariables false
set_option linter.unusedSimpArgs false
attribute [local go_sem ↓] Go.wp_at_zero Go.wp_at_succ

theorem rclear19_any (c : Int) (w : World) : Calls Tryz.prog 18 #[.int .i64 c] w fun e w' => e = .returned (.bool (clrB c)) ∧ w' = w := by
  by_cases h0 : 0 ≤ c
  · by_cases h1 : c ≤ 1000
    · have HE : Hid (clrB c = true) := by unfold Hid clrB; exact dec_yes ⟨h0, h1⟩
      rw [HE.out]
      go_enter Tryz.func18, Tryz.ntmps18
      go_wp2
      go_ret
      exact ⟨rfl, rfl⟩
    · have HE : Hid (clrB c = false) := by unfold Hid clrB; exact dec_no (fun h => h1 h.2)
      rw [HE.out]
      go_enter Tryz.func18, Tryz.ntmps18
      go_wp2
      go_ret
      exact ⟨rfl, rfl⟩
  · have HE : Hid (clrB c = false) := by unfold Hid clrB; exact dec_no (fun h => h0 h.1)
    rw [HE.out]
    go_enter Tryz.func18, Tryz.ntmps18
    go_wp2
    go_ret
    exact ⟨rfl, rfl⟩
theorem rneed19_any (d e c : Int) (w : World) (hd : 0 ≤ d ∧ d ≤ 10000) (he : 0 ≤ e ∧ e ≤ 10000) (hc : 0 ≤ c ∧ c ≤ 1000) :
    Calls Tryz.prog 12 #[.int .i64 d, .int .i64 e, .int .i64 c] w fun en w' => en = .returned (.int .i64 (needN d e c)) ∧ Below w.heap.size w w' := by
  have hb := need_bd hd he hc
  have HN : Hid (needN d e c = (d + e + 2 * c) * (d + e + 2 * c)) := rfl
  rw [HN.out] at hb ⊢
  obtain ⟨n0, n1⟩ := hb
  have s1 : IntKind.i64.wrap (d + e) = d + e := IntWalk.i64_in _ (by omega)
  have s2 : IntKind.i64.wrap (2 * c) = 2 * c := IntWalk.i64_in _ (by omega)
  have s3 : IntKind.i64.wrap (d + e + 2 * c) = d + e + 2 * c := IntWalk.i64_in _ (by omega)
  have s4 : IntKind.i64.wrap ((d + e + 2 * c) * (d + e + 2 * c)) = (d + e + 2 * c) * (d + e + 2 * c) := IntWalk.i64_in _ (by omega)
  clear hd he hc
  go_enter Tryz.func12, Tryz.ntmps12
  go_wp2
  go_ret
  exact ⟨rfl, Below.refl _ _⟩
/-- Right answers the error number that clash.Need answers. -/
theorem neE_one {d e c : Int} (h : ¬ (szB d = true ∧ szB e = true)) : neE d e c = 1 := if_neg h
theorem neE_two {d e c : Int} (h : szB d = true ∧ szB e = true) (hc : clrB c = false) : neE d e c = 2 := (if_pos h).trans (if_neg (by rw [hc]; simp))
theorem neE_ok {d e c : Int} (h : szB d = true ∧ szB e = true) (hc : clrB c = true) : neE d e c = 0 := (if_pos h).trans (if_pos hc)
theorem rright19_any (d e c : Int) (w : World) : Calls Tryz.prog 11 #[.int .i64 d, .int .i64 e, .int .i64 c] w fun en w' => en = .returned (.int .i64 (neE d e c)) ∧ Below w.heap.size w w' := by
  have HD := Lib.hid (fun W => rsize_any d W)
  have HE := Lib.hid (fun W => rsize_any e W)
  have HC := Lib.hid (fun W => rclear19_any c W)
  have H1 := Lib.hid (neE_one (d := d) (e := e) (c := c))
  have H2 := Lib.hid (neE_two (d := d) (e := e) (c := c))
  have H3 := Lib.hid (neE_ok (d := d) (e := e) (c := c))
  generalize neE d e c = r at *
  generalize szB d = p at *
  generalize szB e = q at *
  generalize clrB c = t at *
  cases p
  · obtain rfl : r = 1 := H1.out (by simp)
    go_enter Tryz.func11, Tryz.ntmps11
    go_wp2_with fail
    refine (HD.out _).mono ?_
    rintro e w1 ⟨rfl, hb1⟩
    have HB1 := Lib.hid hb1
    clear hb1 HD
    go_wp2
    go_ret
    exact ⟨rfl, HB1.out⟩
  · cases q
    · obtain rfl : r = 1 := H1.out (by simp)
      go_enter Tryz.func11, Tryz.ntmps11
      go_wp2_with fail
      refine (HD.out _).mono ?_
      rintro e w1 ⟨rfl, hb1⟩
      have HB1 := Lib.hid hb1
      clear hb1 HD
      go_wp2_with fail
      refine (HE.out _).mono ?_
      rintro e w2 ⟨rfl, hb2⟩
      have HB2 := Lib.hid (bstep HB1.out hb2)
      clear hb2 HE
      go_wp2
      go_ret
      exact ⟨rfl, HB2.out⟩
    · cases t
      · obtain rfl : r = 2 := H2.out (by simp) rfl
        go_enter Tryz.func11, Tryz.ntmps11
        go_wp2_with fail
        refine (HD.out _).mono ?_
        rintro e w1 ⟨rfl, hb1⟩
        have HB1 := Lib.hid hb1
        clear hb1 HD
        go_wp2_with fail
        refine (HE.out _).mono ?_
        rintro e w2 ⟨rfl, hb2⟩
        have HB2 := Lib.hid (bstep HB1.out hb2)
        clear hb2 HE
        go_wp2_with fail
        refine (HC.out _).mono ?_
        rintro e w3 ⟨rfl, rfl⟩
        go_wp2
        go_ret
        exact ⟨rfl, HB2.out⟩
      · obtain rfl : r = 0 := H3.out (by simp) rfl
        go_enter Tryz.func11, Tryz.ntmps11
        go_wp2_with fail
        refine (HD.out _).mono ?_
        rintro e w1 ⟨rfl, hb1⟩
        have HB1 := Lib.hid hb1
        clear hb1 HD
        go_wp2_with fail
        refine (HE.out _).mono ?_
        rintro e w2 ⟨rfl, hb2⟩
        have HB2 := Lib.hid (bstep HB1.out hb2)
        clear hb2 HE
        go_wp2_with fail
        refine (HC.out _).mono ?_
        rintro e w3 ⟨rfl, rfl⟩
        go_wp2
        go_ret
        exact ⟨rfl, HB2.out⟩
def ldB (rs : List RunD) (i : Int) : Bool := decide (0 ≤ i ∧ i < sumC rs)
theorem rlaid19_any (v : Value) (rs : List RunD) (i : Int) (w : World) (hr : Runs w v rs) (hl : rs.length ≤ 1000000) (hs : SmallC rs) :
    Calls Tryz.prog 14 #[v, .int .i64 i] w fun e w' => e = .returned (.bool (ldB rs i)) ∧ w' = w := by
  have HC := Lib.hid (rcount_any v rs w hr hl hs)
  have HE : Hid (ldB rs i = decide (0 ≤ i ∧ i < sumC rs)) := rfl
  rw [HE.out]
  clear hr hl hs HE
  generalize sumC rs = n at *
  by_cases h0 : 0 ≤ i
  · by_cases h1 : i < n
    · have HE : Hid (decide (0 ≤ i ∧ i < n) = true) := dec_yes ⟨h0, h1⟩
      rw [HE.out]
      go_enter Tryz.func14, Tryz.ntmps14
      go_wp2_with fail
      refine HC.out.mono ?_
      rintro e w1 ⟨rfl, rfl⟩
      clear HC
      go_wp2
      go_ret
      exact ⟨rfl, rfl⟩
    · have HE : Hid (decide (0 ≤ i ∧ i < n) = false) := dec_no (fun h => h1 h.2)
      have d1 : decide (i < n) = false := dec_no h1
      rw [HE.out]
      go_enter Tryz.func14, Tryz.ntmps14
      go_wp2_with fail
      refine HC.out.mono ?_
      rintro e w1 ⟨rfl, rfl⟩
      clear HC
      go_wp2
      go_ret
      exact ⟨rfl, rfl⟩
  · have HE : Hid (decide (0 ≤ i ∧ i < n) = false) := dec_no (fun h => h0 h.1)
    rw [HE.out]
    go_enter Tryz.func14, Tryz.ntmps14
    go_wp2
    go_ret
    exact ⟨rfl, rfl⟩
end
end Go.Proofs.YtpiigmhbbcjamaaGreat
