/-
  clash.given, Square, Pairs, Free.
-/
import Derived.Test.YtpiigmhbbcjamaaGreatCsn
namespace Go.Proofs.YtpiigmhbbcjamaaGreat
section
open Go.RowKit
set_option linter.unusedVariables false
set_option linter.unusedSimpArgs false
attribute [local go_sem ↓] Go.wp_at_zero Go.wp_at_succ

theorem Spc.head {w : World} {T : Nat} {L : List (List Bx)} {Z : List Int} (h : Spc w T L Z) : ∃ ao cap, T < w.heap.size ∧ w.cell? ⟨T, 0, none⟩ = some (.slice ao L.length cap) := by
  obtain ⟨V, U, h1, ⟨ao, cap, rfl, h2⟩, h3⟩ := h
  exact ⟨ao, cap, h1.lt, h1.cell 0⟩
def clrB (c : Int) : Bool := decide (0 ≤ c ∧ c ≤ 1000)
theorem clr_yes {c : Int} (h : clrB c = true) : 0 ≤ c ∧ c ≤ 1000 := by unfold clrB at h; exact of_decide_eq_true h
theorem clr_no {c : Int} (h : clrB c = false) : c < 0 ∨ 1000 < c := by unfold clrB at h; have := of_decide_eq_false h; omega
theorem given_bad (v vr : Value) (c : Int) (l : List BarD) (rs : List RunD) (w : World) (hp : Bars w v l) (hr : Runs w vr rs) (hl : l.length ≤ 140737488355328) (hlr : rs.length ≤ 140737488355328) (hf : FitB l) (h : laidOk l rs = false) :
    Calls Tryz.prog 42 #[v, vr, .int .i64 c] w fun e w' => e = .returned (.tuple #[.pointer none, .int .i64 1]) ∧ Below w.heap.size w w' := by
  have HB := Lib.hid (of_bad v vr l rs w hp hr hl hlr hf h)
  clear hp hr h
  go_enter Tryz.func42, Tryz.ntmps42
  go_wp2_with fail
  refine HB.out.mono ?_
  rintro e w1 ⟨rfl, hb1⟩
  have HB1 := Lib.hid hb1
  clear hb1
  go_wp2
  go_ret2
  exact ⟨rfl, HB1.out⟩
theorem given_far (v vr : Value) (c : Int) (l : List BarD) (rs : List RunD) (w : World) (hp : Bars w v l) (hr : Runs w vr rs) (hl : l.length ≤ 140737488355328) (hlr : rs.length ≤ 140737488355328) (hf : FitB l) (h : laidOk l rs = true) (hc : clrB c = false) :
    Calls Tryz.prog 42 #[v, vr, .int .i64 c] w fun e w' => e = .returned (.tuple #[.pointer none, .int .i64 2]) ∧ Below w.heap.size w w' := by
  have HB := Lib.hid (of_good v vr l rs w hp hr hl hlr hf h)
  have hcc := clr_no hc
  clear hp hr h hc
  by_cases h1 : c < 0
  · have d1 : decide (c < 0) = true := dec_yes h1
    clear hcc
    go_enter Tryz.func42, Tryz.ntmps42
    go_wp2_with fail
    refine HB.out.mono ?_
    rintro e w1 ⟨T, rfl, _, hb1⟩
    have HB1 := Lib.hid hb1
    clear hb1
    go_wp2
    go_ret2
    exact ⟨rfl, HB1.out⟩
  · have d1 : decide (c < 0) = false := dec_no h1
    have h2 : 1000 < c := by omega
    have d2 : decide (1000 < c) = true := dec_yes h2
    clear hcc
    go_enter Tryz.func42, Tryz.ntmps42
    go_wp2_with fail
    refine HB.out.mono ?_
    rintro e w1 ⟨T, rfl, _, hb1⟩
    have HB1 := Lib.hid hb1
    clear hb1
    go_wp2
    go_ret2
    exact ⟨rfl, HB1.out⟩
theorem given_ok (v vr : Value) (c : Int) (l : List BarD) (rs : List RunD) (w : World) (hp : Bars w v l) (hr : Runs w vr rs) (hl : l.length ≤ 140737488355328) (hlr : rs.length ≤ 140737488355328) (hf : FitB l) (h : laidOk l rs = true) (hc : clrB c = true) :
    Calls Tryz.prog 42 #[v, vr, .int .i64 c] w fun e w' => ∃ T, e = .returned (.tuple #[.pointer (some ⟨T, 0, none⟩), .int .i64 0]) ∧ Spc w' T (lgsOf l rs) (szsOf l rs) ∧ Below w.heap.size w w' := by
  have HB := Lib.hid (of_good v vr l rs w hp hr hl hlr hf h)
  obtain ⟨h1, h2⟩ := clr_yes hc
  have d1 : decide (c < 0) = false := dec_no (by omega)
  have d2 : decide (1000 < c) = false := dec_no (by omega)
  have k1 : ¬ c < 0 := by omega
  have k2 : ¬ 1000 < c := by omega
  generalize lgsOf l rs = L at *
  generalize szsOf l rs = Z at *
  clear hp hr h hc h1 h2
  go_enter Tryz.func42, Tryz.ntmps42
  go_wp2_with fail
  refine HB.out.mono ?_
  rintro e w1 ⟨T, rfl, hs, hb1⟩
  have HB1 := Lib.hid hb1
  have HS := Lib.hid hs
  clear hb1 hs
  go_wp2
  go_ret2
  exact ⟨T, rfl, HS.out, HB1.out⟩

/-! ### Square -/
def sqE (n i k : Int) : Int := if i < 0 ∨ n ≤ i ∨ k < 0 ∨ n ≤ k then 2 else if i = k then 10 else 0
def sqV (L : List (List Bx)) (i k : Int) : Int := if sqE L.length i k = 0 then (sqAt L i.toNat k.toNat).n else 0
theorem sqE_range {n i k : Int} (h : i < 0 ∨ n ≤ i ∨ k < 0 ∨ n ≤ k) : sqE n i k = 2 := if_pos h
theorem sqE_twice {n i k : Int} (h : ¬ (i < 0 ∨ n ≤ i ∨ k < 0 ∨ n ≤ k)) (hik : i = k) : sqE n i k = 10 := (if_neg h).trans (if_pos hik)
theorem sqE_ok {n i k : Int} (h : ¬ (i < 0 ∨ n ≤ i ∨ k < 0 ∨ n ≤ k)) (hik : i ≠ k) : sqE n i k = 0 := (if_neg h).trans (if_neg hik)
theorem sqV_no {L : List (List Bx)} {i k : Int} (h : sqE L.length i k ≠ 0) : sqV L i k = 0 := if_neg h
theorem csqI_bad (v vr : Value) (i k : Int) (l : List BarD) (rs : List RunD) (w : World) (hp : Bars w v l) (hr : Runs w vr rs) (hl : l.length ≤ 140737488355328) (hlr : rs.length ≤ 140737488355328) (hf : FitB l) (h : laidOk l rs = false) :
    Calls Tryz.prog 9 #[v, vr, .int .i64 i, .int .i64 k] w fun e w' => e = .returned (.tuple #[.int .i64 0, .int .i64 1]) ∧ Below w.heap.size w w' := by
  have HB := Lib.hid (of_bad v vr l rs w hp hr hl hlr hf h)
  clear hp hr h
  go_enter Tryz.func9, Tryz.ntmps9
  go_wp2_with fail
  refine HB.out.mono ?_
  rintro e w1 ⟨rfl, hb1⟩
  have HB1 := Lib.hid hb1
  clear hb1
  go_wp2
  go_ret2
  exact ⟨rfl, HB1.out⟩
set_option maxHeartbeats 4000000 in
theorem csqI_good (v vr : Value) (i k : Int) (l : List BarD) (rs : List RunD) (w : World) (hp : Bars w v l) (hr : Runs w vr rs) (hl : l.length ≤ 140737488355328) (hlr : rs.length ≤ 140737488355328) (hf : FitB l) (h : laidOk l rs = true) :
    Calls Tryz.prog 9 #[v, vr, .int .i64 i, .int .i64 k] w fun e w' => e = .returned (.tuple #[.int .i64 (sqV (lgsOf l rs) i k), .int .i64 (sqE (lgsOf l rs).length i k)]) ∧ Below w.heap.size w w' := by
  have HB := Lib.hid (of_good v vr l rs w hp hr hl hlr hf h)
  have HLZ := Lib.hid (lzOk_of h)
  have HSQ := Lib.hid (fun T (i k : Nat) W (hs : Spc W T (lgsOf l rs) (szsOf l rs)) (hi : i < (lgsOf l rs).length) (hk : k < (lgsOf l rs).length) => csquare_any T (lgsOf l rs) (szsOf l rs) i k W hs (lzOk_of h) hi hk)
  generalize lgsOf l rs = L at *
  generalize szsOf l rs = Z at *
  clear hp hr h hf
  by_cases hlt : i < k
  · skip
    have m0 : ¬ k < i := by omega
    have m1 : ¬ k ≤ i := by omega
    have m2 : i ≤ k := by omega
    by_cases h1 : i < 0
    · have HE := Lib.hid (sqE_range (n := (L.length : Int)) (i := i) (k := k) (by omega))
      have HV := Lib.hid (sqV_no (L := L) (i := i) (k := k) (by rw [HE.out]; omega))
      have d1 : decide (i < 0) = true := dec_yes h1
      go_enter Tryz.func9, Tryz.ntmps9
      go_wp2_with fail
      refine HB.out.mono ?_
      rintro e w1 ⟨T, rfl, hs, hb1⟩
      obtain ⟨ao, cap, hT, c0⟩ := hs.head
      have HS := Lib.hid hs
      have HB1 := Lib.hid hb1
      clear hb1 hs HB
      go_wp2
      go_ret2
      exact ⟨by rw [HE.out, HV.out]; rfl, HB1.out⟩
    · have d1 : decide (i < 0) = false := dec_no h1
      by_cases h2 : (L.length : Int) ≤ k
      · have HE := Lib.hid (sqE_range (n := (L.length : Int)) (i := i) (k := k) (by omega))
        have HV := Lib.hid (sqV_no (L := L) (i := i) (k := k) (by rw [HE.out]; omega))
        have d2 : decide ((L.length : Int) ≤ k) = true := dec_yes h2
        go_enter Tryz.func9, Tryz.ntmps9
        go_wp2_with fail
        refine HB.out.mono ?_
        rintro e w1 ⟨T, rfl, hs, hb1⟩
        obtain ⟨ao, cap, hT, c0⟩ := hs.head
        have HS := Lib.hid hs
        have HB1 := Lib.hid hb1
        clear hb1 hs HB
        go_wp2
        go_ret2
        exact ⟨by rw [HE.out, HV.out]; rfl, HB1.out⟩
      · have d2 : decide ((L.length : Int) ≤ k) = false := dec_no h2
        obtain ⟨a, rfl⟩ : ∃ n : Nat, i = (n : Int) := ⟨i.toNat, by omega⟩
        obtain ⟨b, rfl⟩ : ∃ n : Nat, k = (n : Int) := ⟨k.toNat, by omega⟩
        have HE := Lib.hid (sqE_ok (n := (L.length : Int)) (i := (a : Int)) (k := (b : Int)) (by omega) (by omega))
        have HV : Hid (sqV L a b = (sqAt L a b).n) := by
          unfold Hid sqV
          rw [if_pos HE.out]
          rfl
        have d3 : ((a : Int) == (b : Int)) = false := beq_no (by omega)
        have na : a < L.length := by omega
        have nb : b < L.length := by omega
        go_enter Tryz.func9, Tryz.ntmps9
        go_wp2_with fail
        refine HB.out.mono ?_
        rintro e w1 ⟨T, rfl, hs, hb1⟩
        obtain ⟨ao, cap, hT, c0⟩ := hs.head
        have HS := Lib.hid hs
        have HB1 := Lib.hid hb1
        clear hb1 hs HB
        have HC := Lib.hid (HSQ.out T a b w1 HS.out na nb)
        generalize sqAt L a b = st at *
        go_wp2_with fail
        refine HC.out.mono ?_
        rintro e w2 ⟨rfl, hb2⟩
        have HB2 := Lib.hid (bstep (bstep HB1.out hb2) (by go_grown : Below w2.heap.size w2 ((w2.alloc (.cells #[.int .i64 st.p.x, .int .i64 st.p.y, .int .i64 st.p.z] 43)).alloc (.cells #[.int .i64 st.q.x, .int .i64 st.q.y, .int .i64 st.q.z] 43))))
        clear hb2 HC
        go_wp2
        go_ret2
        exact ⟨by rw [HE.out, HV.out]; rfl, HB2.out⟩
  · by_cases hgt : k < i
    · skip
      have m0 : ¬ i < k := by omega
      have m1 : ¬ i ≤ k := by omega
      have m2 : k ≤ i := by omega
      by_cases h1 : k < 0
      · have HE := Lib.hid (sqE_range (n := (L.length : Int)) (i := i) (k := k) (by omega))
        have HV := Lib.hid (sqV_no (L := L) (i := i) (k := k) (by rw [HE.out]; omega))
        have d1 : decide (k < 0) = true := dec_yes h1
        go_enter Tryz.func9, Tryz.ntmps9
        go_wp2_with fail
        refine HB.out.mono ?_
        rintro e w1 ⟨T, rfl, hs, hb1⟩
        obtain ⟨ao, cap, hT, c0⟩ := hs.head
        have HS := Lib.hid hs
        have HB1 := Lib.hid hb1
        clear hb1 hs HB
        go_wp2
        go_ret2
        exact ⟨by rw [HE.out, HV.out]; rfl, HB1.out⟩
      · have d1 : decide (k < 0) = false := dec_no h1
        by_cases h2 : (L.length : Int) ≤ i
        · have HE := Lib.hid (sqE_range (n := (L.length : Int)) (i := i) (k := k) (by omega))
          have HV := Lib.hid (sqV_no (L := L) (i := i) (k := k) (by rw [HE.out]; omega))
          have d2 : decide ((L.length : Int) ≤ i) = true := dec_yes h2
          go_enter Tryz.func9, Tryz.ntmps9
          go_wp2_with fail
          refine HB.out.mono ?_
          rintro e w1 ⟨T, rfl, hs, hb1⟩
          obtain ⟨ao, cap, hT, c0⟩ := hs.head
          have HS := Lib.hid hs
          have HB1 := Lib.hid hb1
          clear hb1 hs HB
          go_wp2
          go_ret2
          exact ⟨by rw [HE.out, HV.out]; rfl, HB1.out⟩
        · have d2 : decide ((L.length : Int) ≤ i) = false := dec_no h2
          obtain ⟨a, rfl⟩ : ∃ n : Nat, i = (n : Int) := ⟨i.toNat, by omega⟩
          obtain ⟨b, rfl⟩ : ∃ n : Nat, k = (n : Int) := ⟨k.toNat, by omega⟩
          have HE := Lib.hid (sqE_ok (n := (L.length : Int)) (i := (a : Int)) (k := (b : Int)) (by omega) (by omega))
          have HV : Hid (sqV L a b = (sqAt L a b).n) := by
            unfold Hid sqV
            rw [if_pos HE.out]
            rfl
          have d3 : ((a : Int) == (b : Int)) = false := beq_no (by omega)
          have na : a < L.length := by omega
          have nb : b < L.length := by omega
          go_enter Tryz.func9, Tryz.ntmps9
          go_wp2_with fail
          refine HB.out.mono ?_
          rintro e w1 ⟨T, rfl, hs, hb1⟩
          obtain ⟨ao, cap, hT, c0⟩ := hs.head
          have HS := Lib.hid hs
          have HB1 := Lib.hid hb1
          clear hb1 hs HB
          have HC := Lib.hid (HSQ.out T a b w1 HS.out na nb)
          generalize sqAt L a b = st at *
          go_wp2_with fail
          refine HC.out.mono ?_
          rintro e w2 ⟨rfl, hb2⟩
          have HB2 := Lib.hid (bstep (bstep HB1.out hb2) (by go_grown : Below w2.heap.size w2 ((w2.alloc (.cells #[.int .i64 st.p.x, .int .i64 st.p.y, .int .i64 st.p.z] 43)).alloc (.cells #[.int .i64 st.q.x, .int .i64 st.q.y, .int .i64 st.q.z] 43))))
          clear hb2 HC
          go_wp2
          go_ret2
          exact ⟨by rw [HE.out, HV.out]; rfl, HB2.out⟩
    · obtain rfl : i = k := by omega
      clear hlt hgt
      have m0 : ¬ i < i := by omega
      have m2 : i ≤ i := by omega
      by_cases h1 : i < 0
      · have HE := Lib.hid (sqE_range (n := (L.length : Int)) (i := i) (k := i) (by omega))
        have HV := Lib.hid (sqV_no (L := L) (i := i) (k := i) (by rw [HE.out]; omega))
        have d1 : decide (i < 0) = true := dec_yes h1
        go_enter Tryz.func9, Tryz.ntmps9
        go_wp2_with fail
        refine HB.out.mono ?_
        rintro e w1 ⟨T, rfl, hs, hb1⟩
        obtain ⟨ao, cap, hT, c0⟩ := hs.head
        have HS := Lib.hid hs
        have HB1 := Lib.hid hb1
        clear hb1 hs HB
        go_wp2
        go_ret2
        exact ⟨by rw [HE.out, HV.out]; rfl, HB1.out⟩
      · have d1 : decide (i < 0) = false := dec_no h1
        by_cases h2 : (L.length : Int) ≤ i
        · have HE := Lib.hid (sqE_range (n := (L.length : Int)) (i := i) (k := i) (by omega))
          have HV := Lib.hid (sqV_no (L := L) (i := i) (k := i) (by rw [HE.out]; omega))
          have d2 : decide ((L.length : Int) ≤ i) = true := dec_yes h2
          go_enter Tryz.func9, Tryz.ntmps9
          go_wp2_with fail
          refine HB.out.mono ?_
          rintro e w1 ⟨T, rfl, hs, hb1⟩
          obtain ⟨ao, cap, hT, c0⟩ := hs.head
          have HS := Lib.hid hs
          have HB1 := Lib.hid hb1
          clear hb1 hs HB
          go_wp2
          go_ret2
          exact ⟨by rw [HE.out, HV.out]; rfl, HB1.out⟩
        · have d2 : decide ((L.length : Int) ≤ i) = false := dec_no h2
          have HE := Lib.hid (sqE_twice (n := (L.length : Int)) (i := i) (k := i) (by omega) rfl)
          have HV := Lib.hid (sqV_no (L := L) (i := i) (k := i) (by rw [HE.out]; omega))
          go_enter Tryz.func9, Tryz.ntmps9
          go_wp2_with fail
          refine HB.out.mono ?_
          rintro e w1 ⟨T, rfl, hs, hb1⟩
          obtain ⟨ao, cap, hT, c0⟩ := hs.head
          have HS := Lib.hid hs
          have HB1 := Lib.hid hb1
          clear hb1 hs HB
          go_wp2
          go_ret2
          exact ⟨by rw [HE.out, HV.out]; rfl, HB1.out⟩
/-! ### Pairs -/
set_option maxRecDepth 100000 in
set_option maxHeartbeats 8000000 in
theorem cpairs_good (v vr : Value) (c : Int) (l : List BarD) (rs : List RunD) (w : World) (hp : Bars w v l) (hr : Runs w vr rs) (hl : l.length ≤ 140737488355328) (hlr : rs.length ≤ 140737488355328) (hf : FitB l) (h : laidOk l rs = true) (hc : clrB c = true) (h14 : (lgsOf l rs).length ≤ 14) :
    Calls Tryz.prog 16 #[v, vr, .int .i64 c] w fun e w' => ∃ o, e = .returned (.tuple #[o, .int .i64 0]) ∧ OwnCl w' w.heap.size o (allC (lgsOf l rs) (szsOf l rs) c (lgsOf l rs).length (lgsOf l rs).length) ∧ Below w.heap.size w w' := by
  have HB := Lib.hid (given_ok v vr c l rs w hp hr hl hlr hf h hc)
  have HNE := Lib.hid (fun T (i k : Nat) W (hs : Spc W T (lgsOf l rs) (szsOf l rs)) (hi : i < (lgsOf l rs).length) (hk : k < (lgsOf l rs).length) => cnear_any T (lgsOf l rs) (szsOf l rs) i k c W hs (lzOk_of h) hi hk (clr_yes hc))
  generalize lgsOf l rs = L at *
  generalize szsOf l rs = Z at *
  clear hp hr h hf hc
  go_enter Tryz.func16, Tryz.ntmps16
  go_wp2_with fail
  refine HB.out.mono ?_
  rintro e w1 ⟨T, rfl, hs, hb1⟩
  obtain ⟨ao, cap, hT, c0⟩ := hs.head
  have HC0 := Lib.hid (fun W (hW : Below w1.heap.size w1 W) => (hW.cell (p := ⟨T, 0, none⟩) hT).trans c0)
  have HS := Lib.hid hs
  have HB1 := Lib.hid hb1
  clear hb1 hs HB
  go_wp2_with fail
  clear c0
  go_loopw [10, 30] (fun o x wr => ∃ i : Nat, i ≤ L.length ∧ x = .int .i64 (i : Int) ∧ Below w1.heap.size w1 wr ∧ OwnCl wr w1.heap.size o (allC L Z c L.length i)) (fun _ x _ => L.length - (intOf x).toNat)
  case atStart => exact ⟨0, Nat.zero_le _, rfl, Below.refl _ _, OwnN.nil _ _ _ _ _⟩
  case round =>
    obtain ⟨i, hi, rfl, hBr, hown⟩ := hrel
    obtain ⟨wo, rfl⟩ : ∃ wo : World, wo = wr := ⟨_, rfl⟩
    have HBo := Lib.hid hBr
    have HWo := Lib.hid hown
    clear hBr hown
    by_cases hi2 : i < L.length
    · have HES := Lib.hid (allC_succ L Z c L.length i)
      have HEL := allC_len L Z c L.length i
      have HE0 := Lib.hid (rowC_low L Z c i (i + 1) (Nat.le_refl _))
      generalize allC L Z c L.length i = E0 at *
      have hE0 : E0.length ≤ 196 := by
        have : i * L.length ≤ 14 * 14 := Nat.mul_le_mul (by omega) (by omega)
        omega
      have hw1 : IntKind.i64.wrap ((i : Int) + 1) = (i : Int) + 1 := IntWalk.i64_in _ (by omega)
      clear HEL
      go_wp2_with fail
      go_loopw [10, 12] (fun o x wr => ∃ k : Nat, i + 1 ≤ k ∧ k ≤ L.length ∧ x = .int .i64 (k : Int) ∧ Below w1.heap.size w1 wr ∧ OwnCl wr w1.heap.size o (E0 ++ rowC L Z c i k)) (fun _ x _ => L.length - (intOf x).toNat)
      case atStart => exact ⟨i + 1, by omega, by omega, by go_num, HBo.out, by rw [HE0.out, List.append_nil]; exact HWo.out⟩
      case round =>
        clear HBo HWo HE0
        obtain ⟨k, hik, hk, rfl, hBr, hown⟩ := hrel
        have HB := Lib.hid hBr
        have HW := Lib.hid hown
        clear hBr hown
        have c0 := HC0.out wr HB.out
        have hTr : T < wr.heap.size := by have := HB.out.size; omega
        by_cases hk2 : k < L.length
        · have HSN := Lib.hid (rowC_succ L Z c i k (by omega))
          have hRl := rowC_len L Z c i k
          have HC := Lib.hid (HNE.out T i k wr (HS.out.below HB.out) hi2 hk2)
          generalize clOf L i k = cl at *
          generalize hitC L Z c i k = q at *
          obtain ⟨ca, cb, ⟨px, py, pz⟩, ⟨qx, qy, qz⟩⟩ := cl
          go_wp2_with fail
          refine HC.out.mono ?_
          rintro e w2 ⟨rfl, hb2⟩
          have HB2 := Lib.hid ((bstep HB.out hb2).alloc (bstep HB.out hb2).size (.cells #[.int .i64 ca, .int .i64 cb, .int .i64 px, .int .i64 py, .int .i64 pz, .int .i64 qx, .int .i64 qy, .int .i64 qz] 45))
          have HW2 := Lib.hid (OwnN.below HW.out hb2)
          have HW3 := Lib.hid (OwnN.alloc HW2.out (.cells #[.int .i64 ca, .int .i64 cb, .int .i64 px, .int .i64 py, .int .i64 pz, .int .i64 qx, .int .i64 qy, .int .i64 qz] 45))
          have hbase : w1.heap.size ≤ w2.heap.size := (bstep HB.out hb2).size
          have hTw2 : T < w2.heap.size := by have := hb2.size; omega
          clear hb2 HC c0 HW2
          cases q
          · rw [if_neg (by simp), List.append_nil] at HSN
            go_wp2
            go_roundw
            case rel => exact ⟨k + 1, by omega, by omega, by go_num, HB2.out, by rw [HSN.out]; exact HW3.out⟩
            case measure => simp [intOf]; omega
          · rw [if_pos rfl] at HSN
            have hln : (E0 ++ rowC L Z c i k).length + 1 ≤ 1099511627776 := by rw [List.length_append]; omega
            have hne : (((E0 ++ rowC L Z c i k).length : Int) == 1000) = false := beq_no (by rw [List.length_append]; omega)
            obtain ⟨oo, oc, ho⟩ := OwnN.shape HW3.out
            subst ho
            generalize hE1 : E0 ++ rowC L Z c i k = E1 at *
            have HE1 := Lib.hid hE1
            clear hE1
            go_wp2_with (at_builtin; refine wpList_pushAt _ (w2.heap.size + 1) (by simp) rfl _ _ 34 rfl 45 8 64 elemCl w1.heap.size clCells _ _ (⟨ca, cb, ⟨px, py, pz⟩, ⟨qx, qy, qz⟩⟩ : ClD) _ rfl rfl (cl_one _) HW3.out rfl rfl hln (by omega) (by omega) ?_; intro v' w' hown' hg' hat'; have HW9 := Lib.hid hown'; have HB9 := Lib.hid (HB2.out.grown hg' (by simp; omega) (fun j hj => (HW3.out.lt j hj).1)); clear hown' hg' hat')
            go_roundw
            case rel => exact ⟨k + 1, by omega, by omega, by go_num, HB9.out, by rw [HSN.out, ← List.append_assoc, HE1.out]; exact HW9.out⟩
            case measure => simp [intOf]; omega
        · obtain rfl : k = L.length := by omega
          go_wp2
          go_roundw
          case rel => exact ⟨i + 1, by omega, by go_num, HB.out, by rw [HES.out]; exact HW.out⟩
          case measure => simp [intOf]; omega
    · obtain rfl : i = L.length := by omega
      have hz : w.heap.size ≤ w1.heap.size := HB1.out.size
      go_wp2
      go_ret2
      exact ⟨_, rfl, OwnN.mono HWo.out hz, bstep HB1.out HBo.out⟩
theorem cpairs_bad (v vr : Value) (c : Int) (l : List BarD) (rs : List RunD) (w : World) (hp : Bars w v l) (hr : Runs w vr rs) (hl : l.length ≤ 140737488355328) (hlr : rs.length ≤ 140737488355328) (hf : FitB l) (n : Int) (h : (laidOk l rs = false ∧ n = 1) ∨ (laidOk l rs = true ∧ clrB c = false ∧ n = 2)) :
    Calls Tryz.prog 16 #[v, vr, .int .i64 c] w fun e w' => e = .returned (.tuple #[.slice none 0 0, .int .i64 n]) ∧ Below w.heap.size w w' := by
  have HB : Hid (Calls Tryz.prog 42 #[v, vr, .int .i64 c] w fun e w' => e = .returned (.tuple #[.pointer none, .int .i64 n]) ∧ Below w.heap.size w w') := by
    rcases h with ⟨h, rfl⟩ | ⟨h, hc, rfl⟩
    · exact given_bad v vr c l rs w hp hr hl hlr hf h
    · exact given_far v vr c l rs w hp hr hl hlr hf h hc
  have hn : (n != 0) = true := bne_yes (by omega)
  clear hp hr h
  go_enter Tryz.func16, Tryz.ntmps16
  go_wp2_with fail
  refine HB.out.mono ?_
  rintro e w1 ⟨rfl, hb1⟩
  have HB1 := Lib.hid hb1
  clear hb1
  go_wp2
  go_ret2
  exact ⟨rfl, HB1.out⟩
theorem cfree_bad (v vr : Value) (c : Int) (l : List BarD) (rs : List RunD) (w : World) (hp : Bars w v l) (hr : Runs w vr rs) (hl : l.length ≤ 140737488355328) (hlr : rs.length ≤ 140737488355328) (hf : FitB l) (n : Int) (h : (laidOk l rs = false ∧ n = 1) ∨ (laidOk l rs = true ∧ clrB c = false ∧ n = 2)) :
    Calls Tryz.prog 17 #[v, vr, .int .i64 c] w fun e w' => e = .returned (.tuple #[.bool false, .int .i64 n]) ∧ Below w.heap.size w w' := by
  have HB : Hid (Calls Tryz.prog 42 #[v, vr, .int .i64 c] w fun e w' => e = .returned (.tuple #[.pointer none, .int .i64 n]) ∧ Below w.heap.size w w') := by
    rcases h with ⟨h, rfl⟩ | ⟨h, hc, rfl⟩
    · exact given_bad v vr c l rs w hp hr hl hlr hf h
    · exact given_far v vr c l rs w hp hr hl hlr hf h hc
  have hn : (n != 0) = true := bne_yes (by omega)
  clear hp hr h
  go_enter Tryz.func17, Tryz.ntmps17
  go_wp2_with fail
  refine HB.out.mono ?_
  rintro e w1 ⟨rfl, hb1⟩
  have HB1 := Lib.hid hb1
  clear hb1
  go_wp2
  go_ret2
  exact ⟨rfl, HB1.out⟩
def freeB (L : List (List Bx)) (Z : List Int) (c : Int) : Bool := (allC L Z c L.length L.length).isEmpty
theorem free_no {L : List (List Bx)} {Z : List Int} {c : Int} {i k : Nat} (h1 : i < k) (h2 : k < L.length) (h : hitC L Z c i k = true) : freeB L Z c = false := by
  cases hf : freeB L Z c with
  | false => rfl
  | true =>
    unfold freeB at hf
    rw [List.isEmpty_iff, free_iff] at hf
    rw [hf i k h1 h2] at h
    cases h
theorem free_yes {L : List (List Bx)} {Z : List Int} {c : Int} (h : ∀ i k : Nat, i < k → k < L.length → hitC L Z c i k = false) : freeB L Z c = true := by
  unfold freeB
  rw [List.isEmpty_iff, free_iff]
  exact h
set_option maxRecDepth 100000 in
set_option maxHeartbeats 8000000 in
theorem cfree_good (v vr : Value) (c : Int) (l : List BarD) (rs : List RunD) (w : World) (hp : Bars w v l) (hr : Runs w vr rs) (hl : l.length ≤ 140737488355328) (hlr : rs.length ≤ 140737488355328) (hf : FitB l) (h : laidOk l rs = true) (hc : clrB c = true) :
    Calls Tryz.prog 17 #[v, vr, .int .i64 c] w fun e w' => e = .returned (.tuple #[.bool (freeB (lgsOf l rs) (szsOf l rs) c), .int .i64 0]) ∧ Below w.heap.size w w' := by
  have HB := Lib.hid (given_ok v vr c l rs w hp hr hl hlr hf h hc)
  have HNE := Lib.hid (fun T (i k : Nat) W (hs : Spc W T (lgsOf l rs) (szsOf l rs)) (hi : i < (lgsOf l rs).length) (hk : k < (lgsOf l rs).length) => cnear_any T (lgsOf l rs) (szsOf l rs) i k c W hs (lzOk_of h) hi hk (clr_yes hc))
  have hLs := (lzOk_of h).small
  generalize lgsOf l rs = L at *
  generalize szsOf l rs = Z at *
  have HNO := Lib.hid (fun (i k : Nat) (h1 : i < k) (h2 : k < L.length) (h : hitC L Z c i k = true) => free_no h1 h2 h)
  have HYE := Lib.hid (free_yes (L := L) (Z := Z) (c := c))
  generalize freeB L Z c = fb at *
  clear hp hr h hf hc
  go_enter Tryz.func17, Tryz.ntmps17
  go_wp2_with fail
  refine HB.out.mono ?_
  rintro e w1 ⟨T, rfl, hs, hb1⟩
  obtain ⟨ao, cap, hT, c0⟩ := hs.head
  have HS := Lib.hid hs
  have HB1 := Lib.hid hb1
  clear hb1 hs HB
  go_wp2_with fail
  clear c0
  go_loopw [29] (fun x wr => ∃ i : Nat, i ≤ L.length ∧ x = .int .i64 (i : Int) ∧ Below w1.heap.size w1 wr ∧ Hid (∀ a b : Nat, a < b → b < i → hitC L Z c a b = false)) (fun x _ => L.length - (intOf x).toNat)
  case atStart => exact ⟨0, Nat.zero_le _, rfl, Below.refl _ _, fun a b _ hb => by omega⟩
  case round =>
    obtain ⟨i, hi, rfl, hBr, HA⟩ := hrel
    obtain ⟨wo, rfl⟩ : ∃ wo : World, wo = wr := ⟨_, rfl⟩
    have HBo := Lib.hid hBr
    clear hBr
    by_cases hi2 : i < L.length
    · go_wp2_with fail
      go_loopw [33] (fun x wr => ∃ k : Nat, k ≤ i ∧ x = .int .i64 (k : Int) ∧ Below w1.heap.size w1 wr ∧ Hid (∀ a : Nat, a < k → hitC L Z c a i = false)) (fun x _ => i - (intOf x).toNat)
      case atStart => exact ⟨0, Nat.zero_le _, rfl, HBo.out, fun a ha => by omega⟩
      case round =>
        clear HBo
        obtain ⟨k, hk, rfl, hBr, HD⟩ := hrel
        have HB := Lib.hid hBr
        clear hBr
        by_cases hk2 : k < i
        · have HC := Lib.hid (HNE.out T k i wr (HS.out.below HB.out) (by omega) hi2)
          obtain ⟨q, hq⟩ : ∃ q, hitC L Z c k i = q := ⟨_, rfl⟩
          have HQ := Lib.hid hq
          rw [hq] at HC
          generalize clOf L k i = cl at *
          obtain ⟨ca, cb, ⟨px, py, pz⟩, ⟨qx, qy, qz⟩⟩ := cl
          clear hq
          go_wp2_with fail
          refine HC.out.mono ?_
          rintro e w2 ⟨rfl, hb2⟩
          have HB2 := Lib.hid ((bstep HB.out hb2).alloc (bstep HB.out hb2).size (.cells #[.int .i64 ca, .int .i64 cb, .int .i64 px, .int .i64 py, .int .i64 pz, .int .i64 qx, .int .i64 qy, .int .i64 qz] 45))
          clear hb2 HC
          cases q
          · go_wp2
            go_roundw
            case rel => exact ⟨k + 1, by omega, by go_num, HB2.out, fun a ha => by
              by_cases e : a = k
              · subst e; exact HQ.out
              · exact HD.out a (by omega)⟩
            case measure => simp [intOf]; omega
          · have HF := Lib.hid (HNO.out k i hk2 hi2 HQ.out)
            go_wp2
            (try rw [Exit.noGoto_ret])
            go_ret2
            exact ⟨by rw [HF.out]; rfl, bstep HB1.out HB2.out⟩
        · obtain rfl : k = i := by omega
          go_wp2
          go_roundw
          case rel => exact ⟨k + 1, by omega, by go_num, HB.out, fun a b hab hb => by
            by_cases e : b = k
            · subst e; exact HD.out a hab
            · exact HA.out a b hab (by omega)⟩
          case measure => simp [intOf]; omega
    · obtain rfl : i = L.length := by omega
      have HT := Lib.hid (HYE.out (fun a b hab hb => HA.out a b hab hb))
      go_wp2
      go_ret2
      exact ⟨by rw [HT.out]; rfl, bstep HB1.out HBo.out⟩
end
end Go.Proofs.YtpiigmhbbcjamaaGreat
