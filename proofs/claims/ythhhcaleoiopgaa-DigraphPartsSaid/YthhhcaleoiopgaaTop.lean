/-
  Directed graphs: Order, and the answers to what is no graph.
-/
import Derived.Test.YthhhcaleoiopgaaLpA
namespace Go.Proofs.Ythhhcaleoiopgaa
open Go.RowKit
set_option linter.unusedVariables false
attribute [local go_sem ↓] Go.wp_at_zero Go.wp_at_succ

def TopPost (w : World) (n : Nat) (es : List (Nat × Nat)) (e : Ending) (w' : World) : Prop :=
  (match orderOf n es with
    | some D => ∃ v, e = .returned (.tuple #[v, .int .i64 0]) ∧ Own w' w.heap.size 3 natf v D
    | none => e = .returned (.tuple #[.slice none 0 0, .int .i64 23])) ∧ Below w.heap.size w w'

set_option maxHeartbeats 400000 in
theorem ordTop_bad (n : Int) (v : Value) (l : List (Int × Int)) (w : World) (hp : Pairs w v l) (hl : l.length ≤ 140737488355328) (h : vldD n l = false) :
    Calls Try.prog 22 #[.int .i64 n, v] w fun e w' => e = .returned (.tuple #[.slice none 0 0, .int .i64 1]) ∧ Below w.heap.size w w' := by
  have HV := Lib.hid (dvalid_any n v l w hp hl)
  rw [h] at HV
  clear hp h
  go_enter Try.func22, Try.ntmps22
  go_wp2_with fail
  refine HV.out.mono ?_
  rintro e w1 ⟨rfl, hb⟩
  go_wp2
  go_ret2
  exact ⟨rfl, hb⟩

set_option maxHeartbeats 400000 in
theorem loopTop_bad (n : Int) (v : Value) (l : List (Int × Int)) (w : World) (hp : Pairs w v l) (hl : l.length ≤ 140737488355328) (h : vldD n l = false) :
    Calls Try.prog 29 #[.int .i64 n, v] w fun e w' => e = .returned (.tuple #[.slice none 0 0, .int .i64 1]) ∧ Below w.heap.size w w' := by
  have HV := Lib.hid (dvalid_any n v l w hp hl)
  rw [h] at HV
  clear hp h
  go_enter Try.func29, Try.ntmps29
  go_wp2_with fail
  refine HV.out.mono ?_
  rintro e w1 ⟨rfl, hb⟩
  go_wp2
  go_ret2
  exact ⟨rfl, hb⟩

set_option maxHeartbeats 400000 in
theorem ordTop_ok (n : Nat) (v : Value) (es : List (Nat × Nat)) (w : World) (hg : Dg w n v es) :
    Calls Try.prog 22 #[.int .i64 (n : Int), v] w (TopPost w n es) := by
  have HV := Lib.hid (dvalid_any (n : Int) v (cst es) w hg.pairs (by rw [cst_len]; have := hg.m_le; omega))
  rw [hg.ok] at HV
  have HG := Lib.hid hg
  clear hg
  go_enter Try.func22, Try.ntmps22
  go_wp2_with fail
  refine HV.out.mono ?_
  rintro e w1 ⟨rfl, hb⟩
  have HO := Lib.hid (order_any n v es w1 (HG.out.below hb))
  clear HV
  go_wp2_with fail
  refine HO.out.mono ?_
  rintro e w2 ⟨h1, hb2⟩
  have HB := Lib.hid (bstep hb hb2)
  have hsz := hb.size
  clear HO hb hb2
  cases ho : orderOf n es with
  | none =>
    rw [ho] at h1
    have HE := Lib.hid ho
    simp only at h1
    subst h1
    clear ho
    go_wp2
    go_ret2
    exact ⟨by rw [HE.out]; rfl, HB.out⟩
  | some D =>
    rw [ho] at h1
    have HE := Lib.hid ho
    obtain ⟨u, rfl, hu⟩ := h1
    have HU := Lib.hid (hu.mono hsz)
    clear ho hu
    go_wp2
    go_ret2
    exact ⟨by rw [HE.out]; exact ⟨_, rfl, HU.out⟩, HB.out⟩
end Go.Proofs.Ythhhcaleoiopgaa
