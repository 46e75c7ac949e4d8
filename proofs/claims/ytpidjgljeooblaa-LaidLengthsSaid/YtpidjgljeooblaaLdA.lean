/-
  Points: sums, bounds; turns that are valid.
-/
import Derived.Test.YtpidjgljeooblaaLdD
import Derived.WalkLawsBesides
namespace Go.Proofs.Ytpidjgljeooblaa
open Go.RowKit
set_option linter.unusedVariables false

/-- Coordinates up to n. -/
def PtIn (n : Int) (p : Pt) : Prop := -n ≤ p.x ∧ p.x ≤ n ∧ -n ≤ p.y ∧ p.y ≤ n ∧ -n ≤ p.z ∧ p.z ≤ n
def ptIn (n : Int) (p : Pt) : Bool := decide (-n ≤ p.x ∧ p.x ≤ n ∧ -n ≤ p.y ∧ p.y ≤ n ∧ -n ≤ p.z ∧ p.z ≤ n)
theorem ptIn_iff {n : Int} {p : Pt} : ptIn n p = true ↔ PtIn n p := by unfold ptIn PtIn; rw [decide_eq_true_eq]
def padd (p q : Pt) : Pt := ⟨p.x + q.x, p.y + q.y, p.z + q.z⟩
def pmul (k : Int) (p : Pt) : Pt := ⟨k * p.x, k * p.y, k * p.z⟩
abbrev ptv (p : Pt) : Value := .agg #[.int .i64 p.x, .int .i64 p.y, .int .i64 p.z]
abbrev bxv (b : Bx) : Value := .agg #[.int .i64 b.lo.x, .int .i64 b.lo.y, .int .i64 b.lo.z, .int .i64 b.hi.x, .int .i64 b.hi.y, .int .i64 b.hi.z]

set_option maxHeartbeats 400000 in
theorem lplus_any (p s : Pt) (k : Int) (w : World) (hp : PtIn 1099511627776 p) (hs : PtIn 1099511627776 (pmul k s)) :
    Calls Try.prog 55 #[ptv p, ptv s, .int .i64 k] w fun e w' => e = .returned (ptv (padd p (pmul k s))) ∧ Below w.heap.size w w' := by
  obtain ⟨a1, a2, a3, a4, a5, a6⟩ := hp
  obtain ⟨b1, b2, b3, b4, b5, b6⟩ := hs
  obtain ⟨x, y, z⟩ := p
  obtain ⟨sx, sy, sz⟩ := s
  simp only [pmul, padd] at *
  go_enter Try.func55, Try.ntmps55
  go_wp2
  exact bodyPost_ret (v := ptv _) (by simp [results, Try.results55, go_sem]) rfl ⟨rfl, by go_grown⟩

set_option maxHeartbeats 400000 in
theorem isPlace_any (p : Pt) (m : Int) (w : World) (h0 : 0 ≤ m) (h1 : m ≤ 1099511627776) :
    Calls Try.prog 53 #[ptv p, .int .i64 m] w fun e w' => e = .returned (.bool (ptIn m p)) ∧ Below w.heap.size w w' := by
  obtain ⟨x, y, z⟩ := p
  go_enter Try.func53, Try.ntmps53
  go_wp2
  all_goals
    go_ret
    refine ⟨ret_bool ?_, by go_grown⟩
    unfold ptIn
    rw [Bool.eq_iff_iff]; simp only [decide_eq_true_eq, Bool.false_eq_true, false_iff]
    first | omega | (split <;> omega)
set_option maxHeartbeats 400000 in
theorem rplus_any (p s : Pt) (w : World) (hp : PtIn 1099511627776 p) (hs : PtIn 1099511627776 s) :
    Calls Try.prog 58 #[ptv p, ptv s] w fun e w' => e = .returned (ptv (padd p s)) ∧ Below w.heap.size w w' := by
  obtain ⟨a1, a2, a3, a4, a5, a6⟩ := hp
  obtain ⟨b1, b2, b3, b4, b5, b6⟩ := hs
  obtain ⟨x, y, z⟩ := p
  obtain ⟨sx, sy, sz⟩ := s
  simp only [padd] at *
  go_enter Try.func58, Try.ntmps58
  go_wp2
  exact bodyPost_ret (v := ptv _) (by simp [results, Try.results58, go_sem]) rfl ⟨rfl, by go_grown⟩
set_option maxHeartbeats 400000 in
theorem wplus_any (p s : Pt) (w : World) (hp : PtIn 1099511627776 p) (hs : PtIn 1099511627776 s) :
    Calls Try.prog 27 #[ptv p, ptv s] w fun e w' => e = .returned (ptv (padd p s)) ∧ Below w.heap.size w w' := by
  obtain ⟨a1, a2, a3, a4, a5, a6⟩ := hp
  obtain ⟨b1, b2, b3, b4, b5, b6⟩ := hs
  obtain ⟨x, y, z⟩ := p
  obtain ⟨sx, sy, sz⟩ := s
  simp only [padd] at *
  go_enter Try.func27, Try.ntmps27
  go_wp2
  exact bodyPost_ret (v := ptv _) (by simp [results, Try.results27, go_sem]) rfl ⟨rfl, by go_grown⟩

def inB (n : Int) : Bool := decide (-1048576 ≤ n ∧ n ≤ 1048576)
theorem within_any (n : Int) (w : World) : Calls Try.prog 73 #[.int .i64 n] w fun e w' => e = .returned (.bool (inB n)) ∧ w = w' := by
  by_cases h1 : n < -1048576
  · have E := Lib.hid (show inB n = false from dec_no (by omega))
    go_enter Try.func73, Try.ntmps73
    go_wp2
    go_ret
    exact ⟨ret_bool E.out.symm, rfl⟩
  · have E := Lib.hid (show inB n = decide (n ≤ 1048576) from decide_eq_decide.2 (by omega))
    go_enter Try.func73, Try.ntmps73
    go_wp2
    go_ret
    exact ⟨ret_bool E.out.symm, rfl⟩

theorem near_eq (p : Pt) : ptIn 1048576 p = (inB p.x && inB p.y && inB p.z) := by
  unfold ptIn inB
  rw [Bool.eq_iff_iff]; simp only [Bool.and_eq_true, decide_eq_true_eq]; omega

theorem near_any (p : Pt) (w : World) : Calls Try.prog 57 #[ptv p] w fun e w' => e = .returned (.bool (ptIn 1048576 p)) ∧ Below w.heap.size w w' := by
  have H := near_eq p
  obtain ⟨x, y, z⟩ := p
  simp only at H
  obtain ⟨a, ha⟩ : ∃ a, inB x = a := ⟨_, rfl⟩
  obtain ⟨b, hb⟩ : ∃ a, inB y = a := ⟨_, rfl⟩
  obtain ⟨c, hc⟩ : ∃ a, inB z = a := ⟨_, rfl⟩
  have A := within_any x
  have B := within_any y
  have C := within_any z
  rw [ha] at A H
  rw [hb] at B H
  rw [hc] at C H
  have HA := Lib.hid A
  have HB := Lib.hid B
  have HC := Lib.hid C
  have E := Lib.hid H
  clear A B C H ha hb hc
  cases a
  · skip
    go_enter Try.func57, Try.ntmps57
    go_wp2_with fail
    refine (HA.out _).mono ?_
    rintro e w9 ⟨rfl, rfl⟩
    go_wp2
    go_ret
    exact ⟨ret_bool E.out.symm, by go_grown⟩
  · cases b
    · skip
      go_enter Try.func57, Try.ntmps57
      go_wp2_with fail
      refine (HA.out _).mono ?_
      rintro e w9 ⟨rfl, rfl⟩
      go_wp2_with fail
      refine (HB.out _).mono ?_
      rintro e w9 ⟨rfl, rfl⟩
      go_wp2
      go_ret
      exact ⟨ret_bool E.out.symm, by go_grown⟩
    · skip
      go_enter Try.func57, Try.ntmps57
      go_wp2_with fail
      refine (HA.out _).mono ?_
      rintro e w9 ⟨rfl, rfl⟩
      go_wp2_with fail
      refine (HB.out _).mono ?_
      rintro e w9 ⟨rfl, rfl⟩
      go_wp2_with fail
      refine (HC.out _).mono ?_
      rintro e w9 ⟨rfl, rfl⟩
      go_wp2
      go_ret
      exact ⟨ret_bool E.out.symm, by go_grown⟩

end Go.Proofs.Ytpidjgljeooblaa
