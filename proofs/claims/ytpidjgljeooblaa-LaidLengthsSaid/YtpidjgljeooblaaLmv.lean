/-
  The walk of LaidMoves.
-/
import Derived.Test.YtpidjgljeooblaaMvd
import Derived.Test.YtpidjgljeooblaaLlg
namespace Go.Proofs.Ytpidjgljeooblaa
open Go.RowKit
set_option linter.unusedVariables false
set_option linter.unusedSimpArgs false
attribute [local go_sem ↓] Go.wp_at_zero Go.wp_at_succ

theorem long1_any (r : RunD) (w : World) : Calls Try.prog 30 #[runv r] w (SomeB w) := by
  go_enter Try.func30, Try.ntmps30
  go_wp2
  go_ret
  exact ⟨_, rfl, by go_grown⟩
def SomeI (w : World) (e : Ending) (w' : World) : Prop := ∃ i : Int, e = .returned (.int .i64 i) ∧ Below w.heap.size w w'
set_option maxHeartbeats 1000000 in
theorem indexRun_any (v : Value) (l : List RunD) (w : World) (hp : Runs w v l) (hl : l.length ≤ 140737488355328) :
    Calls Try.prog 52 #[v, .func (.func 30) #[] #[]] w (SomeI w) := by
  obtain ⟨ao, cap, rfl⟩ := hp.at_
  have HP := Lib.hid hp
  clear hp
  go_enter Try.func52, Try.ntmps52
  go_wp2
  go_loopw [5, 8] (fun _ i wr => ∃ k : Nat, k ≤ l.length ∧ i = .int .i64 k ∧ Below w.heap.size w wr) (fun _ i _ => l.length - (intOf i).toNat)
  case atStart => exact ⟨0, Nat.zero_le _, rfl, Below.refl _ _⟩
  case round =>
    obtain ⟨k, hk, rfl, hBr⟩ := hrel
    by_cases hk2 : k < l.length
    · obtain ⟨r, hy⟩ : ∃ y, l[k]? = some y := ⟨_, List.getElem?_eq_getElem hk2⟩
      obtain ⟨b, off, rfl, hbl, c0, c1, c2, c3, c4, c5, c6, c7, c8, c9⟩ := runs_get (HP.out.below hBr) hy
      have HK := Lib.hid (long1_any r wr)
      have HB := Lib.hid hBr
      clear hy hBr
      go_wp2_with fail
      refine HK.out.mono ?_
      rintro e w9 ⟨q, rfl, hb9⟩
      have HB9 := Lib.hid (bstep HB.out hb9)
      clear hb9
      cases q
      · go_wp2
        go_roundw
        case rel => exact ⟨k + 1, by omega, by go_num, HB9.out⟩
        case measure => simp [intOf]; omega
      · go_wp2
        go_ret
        exact ⟨_, rfl, HB9.out⟩
    · have HB := Lib.hid hBr
      clear hBr
      go_wp2
      go_ret
      exact ⟨_, rfl, HB.out⟩
theorem contRun_any (v : Value) (l : List RunD) (w : World) (hp : Runs w v l) (hl : l.length ≤ 140737488355328) :
    Calls Try.prog 29 #[v, .func (.func 30) #[] #[]] w (SomeB w) := by
  have HI := Lib.hid (indexRun_any v l w hp hl)
  clear hp
  go_enter Try.func29, Try.ntmps29
  go_wp2_with fail
  refine HI.out.mono ?_
  rintro e w9 ⟨i, rfl, hb1⟩
  have HB := Lib.hid hb1
  clear hb1
  go_wp2
  go_ret
  exact ⟨_, rfl, HB.out⟩

theorem eq_run (r : RunD) (W : World) : (Op.equalIn 10000 60 (.agg #[.string r.mark, .int .i64 r.tx, .int .i64 r.ty, .int .i64 r.at_.x, .int .i64 r.at_.y, .int .i64 r.at_.z, .int .i64 r.step.x, .int .i64 r.step.y, .int .i64 r.step.z, .int .i64 r.count]) (.agg #[.string r.mark, .int .i64 r.tx, .int .i64 r.ty, .int .i64 r.at_.x, .int .i64 r.at_.y, .int .i64 r.at_.z, .int .i64 r.step.x, .int .i64 r.step.y, .int .i64 r.step.z, .int .i64 r.count])).run Try.prog W = .ok true W := by
  go_simp

set_option maxHeartbeats 2000000 in
theorem sameR_any (va vb : Value) (l : List RunD) (w : World) (ha : Runs w va l) (hb : Runs w vb l) (hl : l.length ≤ 140737488355328) :
    Calls Try.prog 33 #[va, vb] w fun e w' => e = .returned (.bool true) ∧ Below w.heap.size w w' := by
  obtain ⟨ao, acap, rfl⟩ := ha.at_
  obtain ⟨bo, bcap, rfl⟩ := hb.at_
  have HA := Lib.hid ha
  have HB := Lib.hid hb
  clear ha hb
  go_enter Try.func33, Try.ntmps33
  go_wp2_with fail
  go_loopw [5] (fun i wr => ∃ k : Nat, k ≤ l.length ∧ i = .int .i64 k ∧ Below w.heap.size w wr) (fun i _ => l.length - (intOf i).toNat)
  case atStart => exact ⟨0, Nat.zero_le _, rfl, Below.refl _ _⟩
  case round =>
    obtain ⟨k, hk, rfl, hBr⟩ := hrel
    by_cases hk2 : k < l.length
    · obtain ⟨r, hx⟩ : ∃ y, l[k]? = some y := ⟨_, List.getElem?_eq_getElem hk2⟩
      obtain ⟨b, off, rfl, hbl, a0, a1, a2, a3, a4, a5, a6, a7, a8, a9⟩ := runs_get (HA.out.below hBr) hx
      obtain ⟨b', off', rfl, hbl', b0, b1, b2, b3, b4, b5, b6, b7, b8, b9⟩ := runs_get (HB.out.below hBr) hx
      have c0 := fun d os => cell_regrown a0 d os
      have c1 := fun d os => cell_regrown a1 d os
      have c2 := fun d os => cell_regrown a2 d os
      have c3 := fun d os => cell_regrown a3 d os
      have c4 := fun d os => cell_regrown a4 d os
      have c5 := fun d os => cell_regrown a5 d os
      have c6 := fun d os => cell_regrown a6 d os
      have c7 := fun d os => cell_regrown a7 d os
      have c8 := fun d os => cell_regrown a8 d os
      have c9 := fun d os => cell_regrown a9 d os
      have d0 := fun d os => cell_regrown b0 d os
      have d1 := fun d os => cell_regrown b1 d os
      have d2 := fun d os => cell_regrown b2 d os
      have d3 := fun d os => cell_regrown b3 d os
      have d4 := fun d os => cell_regrown b4 d os
      have d5 := fun d os => cell_regrown b5 d os
      have d6 := fun d os => cell_regrown b6 d os
      have d7 := fun d os => cell_regrown b7 d os
      have d8 := fun d os => cell_regrown b8 d os
      have d9 := fun d os => cell_regrown b9 d os
      have HBR := Lib.hid hBr
      have hq := eq_run r
      have k0 : (0 : Int) ≤ (k : Int) := by omega
      have k1 : (k : Int) < (l.length : Int) := by omega
      clear hx hBr a0 a1 a2 a3 a4 a5 a6 a7 a8 a9 b0 b1 b2 b3 b4 b5 b6 b7 b8 b9 hbl hbl'
      go_upto_region 6 with fail
      refine wp_region_quiet_below (by kernel_rfl) (by kernel_rfl) ?_
      repeat (go_big_quiet_step ((first
        | fail)))
      refine wpQuiet_nil ?_
      intro _ hw'
      obtain ⟨⟨nq, osq⟩, hw''⟩ := hw'
      subst hw''
      have HB9 := Lib.hid (bstep HBR.out (below_regrown wr nq osq))
      clear c0 c1 c2 c3 c4 c5 c6 c7 c8 c9 d0 d1 d2 d3 d4 d5 d6 d7 d8 d9 hq
      generalize Go.Sort.grow (redrawn wr nq) osq = W9 at *
      go_wp2_with fail
      go_roundw
      case rel => exact ⟨k + 1, by omega, by go_num, HB9.out⟩
      case measure => simp [intOf]; omega
    · have HBR := Lib.hid hBr
      clear hBr
      go_wp2
      go_ret
      exact ⟨rfl, HBR.out⟩

set_option maxRecDepth 100000 in
set_option maxHeartbeats 4000000 in
theorem laidMoves_walk (w : World) (vr : Value) (rs : List RunD) (hr : Runs w vr rs) (hm : ∀ r ∈ rs, r.mark.size ≤ maxLen) (hlr : rs.length * 88 ≤ 140737488351232) (by_ : Pt) (w1 : (Lit.int .i64 by_.x).wf = true) (w2 : (Lit.int .i64 by_.y).wf = true) (w3 : (Lit.int .i64 by_.z).wf = true) :
    Calls Try.prog 7 #[vr, ptv by_] w fun e w' => e = .returned (.bool true) ∧ Below w.heap.size w w' := by
  have hlr2 : rs.length ≤ 140737488355328 := by omega
  have HCF := Lib.hid (fun W (hW : Below w.heap.size w W) => contRun_any vr rs W (hr.below hW) hlr2)
  have HLM := Lib.hid (fun W (hW : Below w.heap.size w W) => lmoved_any vr rs by_ W (hr.below hW))
  have HRM := Lib.hid (fun W (hW : Below w.heap.size w W) => rmoved_any vr rs by_ W (hr.below hW))
  have HL : Hid ((mvL by_ rs).length ≤ 140737488355328) := by unfold Hid mvL; split <;> simp; omega
  obtain ⟨ro, rcap, rfl⟩ := hr.at_
  generalize mvL by_ rs = G at *
  generalize mvE by_ rs = E at *
  clear hr hm hlr w1 w2 w3
  have key : ∀ (K : Bool → World → Prop), True := fun _ => trivial
  clear key
  by_cases h1 : (rs.length : Int) ≤ 8 ∨ (60 < (rs.length : Int) ∧ (rs.length : Int) ≤ 63)
  · have d1 : decide ((8 : Int) < (rs.length : Int)) = decide (60 < (rs.length : Int)) := decide_eq_decide.2 (by omega)
    have d3 : decide ((63 : Int) < (rs.length : Int)) = false := dec_no (by omega)
    rcases h1 with h1 | ⟨h1, h2⟩
    all_goals
      go_enter Try.func7, Try.ntmps7
      go_wp2_with fail
      refine (awake_any _).mono ?_
      rintro e w1 ⟨rfl, hb1⟩
      have HB1 : Hid (Below w.heap.size w w1 ∧ BlkIs w1 w.heap.size 31 #[.int .i64 by_.x, .int .i64 by_.y, .int .i64 by_.z]) := ⟨bstep (by go_grown) hb1, (BlkIs.new w _ _).below hb1⟩
      clear hb1
      go_wp2_with fail
      refine (HCF.out _ HB1.out.1).mono ?_
      rintro e w2 ⟨q, rfl, hb2⟩
      have HB2 : Hid (Below w.heap.size w w2 ∧ BlkIs w2 w.heap.size 31 #[.int .i64 by_.x, .int .i64 by_.y, .int .i64 by_.z]) := ⟨bstep HB1.out.1 hb2, HB1.out.2.below hb2⟩
      have p0 := HB2.out.2.cell 0
      have p1 := HB2.out.2.cell 1
      have p2 := HB2.out.2.cell 2
      clear hb2
      cases q
      · go_wp2_with fail
        refine (HLM.out _ HB2.out.1).mono ?_
        rintro e w3 ⟨o, rfl, HO3, hb3⟩
        have HB3 : Hid (Below w.heap.size w w3 ∧ BlkIs w3 w.heap.size 31 #[.int .i64 by_.x, .int .i64 by_.y, .int .i64 by_.z]) := ⟨bstep HB2.out.1 hb3, HB2.out.2.below hb3⟩
        clear hb3 p0 p1 p2
        have p0 := HB3.out.2.cell 0
        have p1 := HB3.out.2.cell 1
        have p2 := HB3.out.2.cell 2
        go_wp2_with fail
        refine (HRM.out _ HB3.out.1).mono ?_
        rintro e w4 ⟨o4, rfl, HO4, hb4⟩
        have HB4 := Lib.hid (bstep HB3.out.1 hb4)
        have HSA := Lib.hid (sameR_any o o4 G w4 (OwnN.fl run_len (OwnN.below HO3.out hb4)) (OwnN.fl run_len HO4.out) HL.out)
        clear hb4 p0 p1 p2
        go_wp2_with fail
        refine HSA.out.mono ?_
        rintro e w5 ⟨rfl, hb5⟩
        have HB5 := Lib.hid (bstep HB4.out hb5)
        clear hb5
        go_wp2
        go_ret
        exact ⟨rfl, HB5.out⟩
      · go_wp2
        go_ret
        exact ⟨rfl, HB2.out.1⟩
  · skip
    go_enter Try.func7, Try.ntmps7
    go_wp2_with fail
    refine (awake_any _).mono ?_
    rintro e w1 ⟨rfl, hb1⟩
    have HB1 := Lib.hid (bstep (by go_grown) hb1 : Below w.heap.size w w1)
    clear hb1
    have h8 : (8 : Int) < (rs.length : Int) := by omega
    by_cases h2 : (rs.length : Int) ≤ 60
    · go_wp2
      go_ret
      exact ⟨rfl, HB1.out⟩
    · have h3 : (63 : Int) < (rs.length : Int) := by omega
      go_wp2
      go_ret
      exact ⟨rfl, HB1.out⟩
end Go.Proofs.Ytpidjgljeooblaa
