/-
  The yard's example: one bar of size 12, 1000 long, weighs 888.
-/
import Derived.Test.YtejcgjdfajppgaaGreatDoorKlg
import Derived.Test.YtejcgjdfajppgaaGreatDoorKmp
import Derived.Test.YtejcgjdfajppgaaGreatDoorKqb
namespace Go.Proofs.YtejcgjdfajppgaaGreatDoor
section
open Go.RowKit
set_option linter.unusedVariables false
set_option linter.unusedSimpArgs false
attribute [local go_sem ↓] Go.wp_at_zero Go.wp_at_succ

theorem size12 (w : World) : Calls Tryz.prog 76 #[.int .i64 12] w fun e w' => e = .returned (.bool true) ∧ Below w.heap.size w w' := by
  have h := size_any 12 w
  rw [show szB 12 = true by kernel_rfl] at h
  exact h
theorem bend1_12 (g : Nat) (w : World) (hg : w.cell? ⟨g, 0, none⟩ = some (.int .i64 12)) : Calls Tryz.prog 126 #[.pointer (some ⟨g, 0, none⟩)] w fun e w' => e = .returned (.int .i64 30) ∧ Below w.heap.size w w' := by
  go_enter Tryz.func126, Tryz.ntmps126
  go_wp2
  go_ret
  exact ⟨rfl, Below.refl _ _⟩
theorem sizedB_12 (g : Nat) (w : World) (hl : g < w.heap.size) (hg : w.cell? ⟨g, 0, none⟩ = some (.int .i64 12)) : Calls Tryz.prog 80 #[.int .i64 12, .func (.func 126) #[] #[.pointer (some ⟨g, 0, none⟩)]] w fun e w' => e = .returned (.tuple #[.int .i64 30, .int .i64 0]) ∧ Below w.heap.size w w' := by
  have HG := Lib.hid hg
  clear hg
  go_enter Tryz.func80, Tryz.ntmps80
  go_wp2_with fail
  refine (size12 _).mono ?_
  rintro e w1 ⟨rfl, hb1⟩
  have HB1 := Lib.hid hb1
  have HC := Lib.hid (bend1_12 g w1 ((hb1.cell (p := ⟨g, 0, none⟩) hl).trans HG.out))
  clear hb1
  go_wp2_with fail
  refine HC.out.mono ?_
  rintro e w2 ⟨rfl, hb2⟩
  have HB2 := Lib.hid (bstep HB1.out hb2)
  clear hb2 HC
  go_wp2
  go_ret2
  exact ⟨rfl, HB2.out⟩
theorem sbend_12 (w : World) : Calls Tryz.prog 116 #[.int .i64 12] w fun e w' => e = .returned (.tuple #[.int .i64 30, .int .i64 0]) ∧ Below w.heap.size w w' := by
  have hb := below_new w (.cells #[.int .i64 12] 3)
  have HB := Lib.hid hb
  have HC := Lib.hid (sizedB_12 w.heap.size (w.alloc (.cells #[.int .i64 12] 3)) (by simp) ((BlkIs.new w #[.int .i64 12] 3).cell 0))
  clear hb
  go_enter Tryz.func116, Tryz.ntmps116
  go_wp2_with fail
  refine HC.out.mono ?_
  rintro e w2 ⟨rfl, hb2⟩
  have HB2 := Lib.hid (bstep HB.out hb2)
  clear hb2 HC
  go_wp2
  go_ret2
  exact ⟨rfl, HB2.out⟩
theorem mass1_12 (g h : Nat) (w : World) (hg : w.cell? ⟨g, 0, none⟩ = some (.int .i64 12)) (hh : w.cell? ⟨h, 0, none⟩ = some (.int .i64 1000)) : Calls Tryz.prog 81 #[.pointer (some ⟨g, 0, none⟩), .pointer (some ⟨h, 0, none⟩)] w fun e w' => e = .returned (.int .i64 888) ∧ Below w.heap.size w w' := by
  go_enter Tryz.func81, Tryz.ntmps81
  go_wp2
  go_ret
  exact ⟨rfl, Below.refl _ _⟩
theorem sizedM_12 (g h : Nat) (w : World) (hl : g < w.heap.size) (hl2 : h < w.heap.size) (hg : w.cell? ⟨g, 0, none⟩ = some (.int .i64 12)) (hh : w.cell? ⟨h, 0, none⟩ = some (.int .i64 1000)) : Calls Tryz.prog 80 #[.int .i64 12, .func (.func 81) #[] #[.pointer (some ⟨g, 0, none⟩), .pointer (some ⟨h, 0, none⟩)]] w fun e w' => e = .returned (.tuple #[.int .i64 888, .int .i64 0]) ∧ Below w.heap.size w w' := by
  have HG := Lib.hid hg
  have HH := Lib.hid hh
  clear hg hh
  go_enter Tryz.func80, Tryz.ntmps80
  go_wp2_with fail
  refine (size12 _).mono ?_
  rintro e w1 ⟨rfl, hb1⟩
  have HB1 := Lib.hid hb1
  have HC := Lib.hid (mass1_12 g h w1 ((hb1.cell (p := ⟨g, 0, none⟩) hl).trans HG.out) ((hb1.cell (p := ⟨h, 0, none⟩) hl2).trans HH.out))
  clear hb1
  go_wp2_with fail
  refine HC.out.mono ?_
  rintro e w2 ⟨rfl, hb2⟩
  have HB2 := Lib.hid (bstep HB1.out hb2)
  clear hb2 HC
  go_wp2
  go_ret2
  exact ⟨rfl, HB2.out⟩
set_option maxHeartbeats 1000000 in
theorem smass_12 (w : World) : Calls Tryz.prog 57 #[.int .i64 12, .int .i64 1000] w fun e w' => e = .returned (.tuple #[.int .i64 888, .int .i64 0]) ∧ Below w.heap.size w w' := by
  obtain ⟨W2, hW2⟩ : ∃ W2, (w.alloc (.cells #[.int .i64 12] 3)).alloc (.cells #[.int .i64 1000] 3) = W2 := ⟨_, rfl⟩
  have HW2 : Hid (Below w.heap.size w W2 ∧ BlkIs W2 w.heap.size 3 #[.int .i64 12] ∧ BlkIs W2 (w.heap.size + 1) 3 #[.int .i64 1000]) := by
    rw [← hW2]
    exact ⟨by go_grown, (BlkIs.new w _ _).alloc _, BlkIs.new1 w _ _ _⟩
  have y0 := HW2.out.2.1.cell 0
  have y1 := HW2.out.2.2.cell 0
  have y2 := HW2.out.2.1.lt
  have y3 := HW2.out.2.2.lt
  go_enter Tryz.func57, Tryz.ntmps57
  go_wp2_with fail
  (try rw [hW2])
  clear hW2 y0 y1 y2 y3
  refine (size12 _).mono ?_
  rintro e w1 ⟨rfl, hb1⟩
  have HB1 := Lib.hid (bstep HW2.out.1 hb1)
  have HX := Lib.hid (HW2.out.2.1.below hb1)
  have HY := Lib.hid (HW2.out.2.2.below hb1)
  have c1 := HX.out.cell 0
  have c2 := HY.out.cell 0
  have HC := Lib.hid (sizedM_12 w.heap.size (w.heap.size + 1) w1 HX.out.lt HY.out.lt c1 c2)
  clear hb1
  go_wp2_with fail
  refine HC.out.mono ?_
  rintro e w2 ⟨rfl, hb2⟩
  have HB2 := Lib.hid (bstep HB1.out hb2)
  clear hb2 HC
  go_wp2
  go_ret2
  exact ⟨rfl, HB2.out⟩
theorem up_any (n d r : Int) (hd : 0 < d) (hn : 0 ≤ n) (hb : n ≤ 1000000000) (hd2 : d ≤ 1000000) (hr : (n + d - 1).tdiv d = r) (w : World) : Calls Tryz.prog 79 #[.int .i64 n, .int .i64 d] w fun e w' => e = .returned (.int .i64 r) ∧ w = w' := by
  have q1 : IntKind.i64.wrap (n + d) = n + d := IntWalk.i64_in _ (by omega)
  have q2 : IntKind.i64.wrap (n + d - 1) = n + d - 1 := IntWalk.i64_in _ (by omega)
  have h1 : r = (n + d - 1) / d := by rw [← hr, Int.tdiv_eq_ediv_of_nonneg (by omega)]
  have h2 : 0 ≤ r := by rw [h1]; exact Int.ediv_nonneg (by omega) (by omega)
  have h3 : r ≤ n + d - 1 := by rw [h1]; exact Int.ediv_le_self _ (by omega)
  have q3 : IntKind.i64.wrap r = r := IntWalk.i64_in _ (by omega)
  have h4 : ¬ d = 0 := by omega
  clear h1
  go_enter Tryz.func79, Tryz.ntmps79
  go_wp2
  go_ret
  exact ⟨rfl, rfl⟩
set_option maxHeartbeats 1000000 in
theorem arc_12 (w : World) : Calls Tryz.prog 115 #[.int .i64 12] w fun e w' => e = .returned (.tuple #[.agg #[.int .i64 47122, .int .i64 47124], .int .i64 0]) ∧ Below w.heap.size w w' := by
  have BG := Lib.hid (BlkIs.new w #[.int .i64 0, .int .i64 0] 112)
  have HB := Lib.hid (below_new w (.cells #[.int .i64 0, .int .i64 0] 112))
  have HU := Lib.hid (fun W => up_any 5325000 113 47124 (by omega) (by omega) (by omega) (by omega) (by decide) W)
  go_enter Tryz.func115, Tryz.ntmps115
  go_wp2_with fail
  refine (sbend_12 _).mono ?_
  rintro e w1 ⟨rfl, hb1⟩
  have HB1 := Lib.hid (bstep HB.out hb1)
  have B1 := Lib.hid (BG.out.below hb1)
  clear hb1
  go_wp2_with fail
  refine (HU.out w1).mono ?_
  rintro e w2 ⟨rfl, rfl⟩
  have c0 := B1.out.cell 0
  have c1 := B1.out.cell 1
  have f0 := B1.out.free 0
  have f1 := B1.out.free 1
  have l0 := B1.out.lt
  go_wp2
  have B2 := (B1.out.set 0 (.int .i64 47122)).set 1 (.int .i64 47124)
  have HB2 : Below w.heap.size w ((w1.setCell ⟨w.heap.size, 0, none⟩ (.int .i64 47122)).setCell ⟨w.heap.size, 1, none⟩ (.int .i64 47124)) := (HB1.out.setCell (Nat.le_refl _) _).setCell (Nat.le_refl _) _
  generalize (w1.setCell ⟨w.heap.size, 0, none⟩ (.int .i64 47122)).setCell ⟨w.heap.size, 1, none⟩ (.int .i64 47124) = W2 at *
  have k0 := B2.cell 0
  have k1 := B2.cell 1
  simp at k0 k1
  exact bodyPost_ret (v := .tuple #[.agg #[.int .i64 47122, .int .i64 47124], .int .i64 0]) (by simp [results, Tryz.results115, go_sem, k0, k1]) rfl ⟨rfl, HB2⟩
set_option maxHeartbeats 1000000 in
theorem allow_12 (w : World) : Calls Tryz.prog 97 #[.int .i64 12] w fun e w' => e = .returned (.tuple #[.agg #[.int .i64 12876, .int .i64 12878], .int .i64 0]) ∧ Below w.heap.size w w' := by
  have BG := Lib.hid (BlkIs.new w #[.int .i64 0, .int .i64 0] 112)
  have HB := Lib.hid (below_new w (.cells #[.int .i64 0, .int .i64 0] 112))
  go_enter Tryz.func97, Tryz.ntmps97
  go_wp2_with fail
  refine (arc_12 _).mono ?_
  rintro e w1 ⟨rfl, hb1⟩
  have HB1 := Lib.hid (bstep HB.out hb1)
  have B1 := Lib.hid (BG.out.below hb1)
  have hs1 := HB1.out.size
  clear hb1
  have BG2 := Lib.hid (BlkIs.new w1 #[.int .i64 47122, .int .i64 47124] 112)
  have HB2 := Lib.hid (below_new w1 (.cells #[.int .i64 47122, .int .i64 47124] 112))
  go_wp2_with fail
  refine (sbend_12 _).mono ?_
  rintro e w2 ⟨rfl, hb2⟩
  have HB3 := Lib.hid (bstep HB1.out (bstep HB2.out hb2))
  have B3 := Lib.hid (B1.out.below (bstep HB2.out hb2))
  have BL := Lib.hid (BG2.out.below hb2)
  clear hb2
  have c0 := B3.out.cell 0
  have c1 := B3.out.cell 1
  have f0 := B3.out.free 0
  have f1 := B3.out.free 1
  have l0 := B3.out.lt
  have d0 := BL.out.cell 0
  have d1 := BL.out.cell 1
  have l1 := BL.out.lt
  go_wp2
  have B2 := (B3.out.set 0 (.int .i64 12876)).set 1 (.int .i64 12878)
  have HBF : Below w.heap.size w ((w2.setCell ⟨w.heap.size, 0, none⟩ (.int .i64 12876)).setCell ⟨w.heap.size, 1, none⟩ (.int .i64 12878)) := (HB3.out.setCell (Nat.le_refl _) _).setCell (Nat.le_refl _) _
  generalize (w2.setCell ⟨w.heap.size, 0, none⟩ (.int .i64 12876)).setCell ⟨w.heap.size, 1, none⟩ (.int .i64 12878) = W2 at *
  have k0 := B2.cell 0
  have k1 := B2.cell 1
  simp at k0 k1
  exact bodyPost_ret (v := .tuple #[.agg #[.int .i64 12876, .int .i64 12878], .int .i64 0]) (by simp [results, Tryz.results97, go_sem, k0, k1]) rfl ⟨rfl, HBF⟩
def yardBar : BarD := ⟨⟨#[97]⟩, 12, 5, 0, [1000]⟩
theorem yard_ok : barOk yardBar = true := by kernel_rfl
theorem yard_dimL : dimL yardBar = [1000] := by kernel_rfl
set_option maxHeartbeats 2000000 in
theorem dev_yard (uo : Option Addr) (uc : Nat) (w : World) (hd : Ints w (.slice uo 1 uc) [1000]) : Calls Tryz.prog 78 #[barv yardBar (.slice uo 1 uc)] w fun e w' => e = .returned (.tuple #[.agg #[.int .i64 1000000, .int .i64 1000000], .int .i64 0]) ∧ Below w.heap.size w w' := by
  have hbw : Below w.heap.size w ((w.alloc (.cells #[.string ⟨#[97]⟩, .int .i64 12, .int .i64 5, .int .i64 0, .slice uo 1 uc] 42)).alloc (.cells #[.int .i64 0, .int .i64 0] 112)) := by go_grown
  have BX := Lib.hid ((BlkIs.new w #[.string ⟨#[97]⟩, .int .i64 12, .int .i64 5, .int .i64 0, .slice uo 1 uc] 42).alloc (.cells #[.int .i64 0, .int .i64 0] 112))
  have BG := Lib.hid (BlkIs.new1 w (.cells #[.string ⟨#[97]⟩, .int .i64 12, .int .i64 5, .int .i64 0, .slice uo 1 uc] 42) #[.int .i64 0, .int .i64 0] 112)
  have HL := Lib.hid (shLegs_any yardBar uo uc _ (Sl.below hd hbw) (by unfold maxLen; decide) (by decide) yard_ok)
  rw [yard_dimL] at HL
  have HB := Lib.hid hbw
  clear hbw hd
  unfold barv yardBar at *
  go_enter Tryz.func78, Tryz.ntmps78
  go_wp2_with fail
  refine HL.out.mono ?_
  rintro e w1 ⟨o, rfl, ho, hb1⟩
  have HB1 := Lib.hid (bstep HB.out hb1)
  have BX1 := Lib.hid (BX.out.below hb1)
  have BG1 := Lib.hid (BG.out.below hb1)
  obtain ⟨lg, lc, rfl, hlg, _, _⟩ := Own.form ho Nat.zero_lt_one
  have lc0 := ho.cell (k := 0) rfl
  have e0 := BX1.out.cell 1
  have e1 := BX1.out.lt
  unfold intv at lc0
  rw [show ([1000] : List Int).length = 1 from rfl]
  clear hb1 HL ho
  go_wp2_with fail
  go_loopw [6, 22] (fun s i wr => wr = w1 ∧ ((s = .int .i64 0 ∧ i = .int .i64 0) ∨ (s = .int .i64 1000000 ∧ i = .int .i64 1))) (fun _ i _ => 1 - (intOf i).toNat)
  case atStart => exact ⟨rfl, .inl ⟨rfl, rfl⟩⟩
  case round =>
    obtain ⟨rfl, (⟨rfl, rfl⟩ | ⟨rfl, rfl⟩)⟩ := hrel
    · go_wp2
      go_roundw
      case rel => exact ⟨trivial, .inr ⟨rfl, rfl⟩⟩
      case measure => decide
    · go_wp2_with fail
      refine (allow_12 _).mono ?_
      rintro e w2 ⟨rfl, hb2⟩
      have BA := Lib.hid (BlkIs.new w2 #[.int .i64 12876, .int .i64 12878] 112)
      have HB2 := Lib.hid (bstep HB1.out hb2)
      have BG2 := Lib.hid ((BG1.out.below hb2).alloc (.cells #[.int .i64 12876, .int .i64 12878] 112))
      have c0 := BG2.out.cell 0
      have c1 := BG2.out.cell 1
      have f0 := BG2.out.free 0
      have f1 := BG2.out.free 1
      have l0 := BG2.out.lt
      clear hb2
      go_wp2
      obtain ⟨w3, hw3⟩ : ∃ w3, w2.alloc (.cells #[.int .i64 12876, .int .i64 12878] 112) = w3 := ⟨_, rfl⟩
      have HB3 := Lib.hid (show Below w.heap.size w w3 by rw [← hw3]; exact bstep HB2.out (below_new _ _))
      rw [hw3] at BG2 ⊢
      clear c0 c1 f0 f1 l0 hw3 BA
      have B2 := (BG2.out.set 0 (.int .i64 1000000)).set 1 (.int .i64 1000000)
      have HBF : Below w.heap.size w ((w3.setCell ⟨w.heap.size + 1, 0, none⟩ (.int .i64 1000000)).setCell ⟨w.heap.size + 1, 1, none⟩ (.int .i64 1000000)) := (HB3.out.setCell (p := ⟨w.heap.size + 1, 0, none⟩) (Nat.le_succ _) _).setCell (p := ⟨w.heap.size + 1, 1, none⟩) (Nat.le_succ _) _
      generalize (w3.setCell ⟨w.heap.size + 1, 0, none⟩ (.int .i64 1000000)).setCell ⟨w.heap.size + 1, 1, none⟩ (.int .i64 1000000) = W2 at *
      have k0 := B2.cell 0
      have k1 := B2.cell 1
      simp at k0 k1
      exact bodyPost_ret (v := .tuple #[.agg #[.int .i64 1000000, .int .i64 1000000], .int .i64 0]) (by simp [results, Tryz.results78, go_sem, k0, k1]) rfl ⟨rfl, HBF⟩
set_option maxHeartbeats 2000000 in
theorem cut_yard (uo : Option Addr) (uc : Nat) (w : World) (hd : Ints w (.slice uo 1 uc) [1000]) : Calls Tryz.prog 56 #[barv yardBar (.slice uo 1 uc)] w fun e w' => e = .returned (.tuple #[.int .i64 1000, .int .i64 0]) ∧ Below w.heap.size w w' := by
  have hbw := below_new w (.cells #[.string ⟨#[97]⟩, .int .i64 12, .int .i64 5, .int .i64 0, .slice uo 1 uc] 42)
  have HL := Lib.hid (dev_yard uo uc _ (Sl.below hd hbw))
  have HB := Lib.hid hbw
  have HU := Lib.hid (fun W => up_any 1000000 5000 200 (by omega) (by omega) (by omega) (by omega) (by decide) W)
  clear hbw hd
  unfold barv yardBar at *
  go_enter Tryz.func56, Tryz.ntmps56
  go_wp2_with fail
  refine HL.out.mono ?_
  rintro e w1 ⟨rfl, hb1⟩
  have HB1 := Lib.hid (bstep HB.out (bstep hb1 (below_new w1 (.cells #[.int .i64 1000000, .int .i64 1000000] 112))))
  clear hb1 HL
  go_wp2_with fail
  refine (HU.out _).mono ?_
  rintro e w2 ⟨rfl, rfl⟩
  go_wp2
  go_ret2
  exact ⟨rfl, HB1.out⟩
set_option maxHeartbeats 2000000 in
theorem one_yard (uo : Option Addr) (uc : Nat) (w : World) (hd : Ints w (.slice uo 1 uc) [1000]) : Calls Tryz.prog 35 #[barv yardBar (.slice uo 1 uc)] w fun e w' => e = .returned (.int .i64 888) ∧ Below w.heap.size w w' := by
  have hbw := below_new w (.cells #[.string ⟨#[97]⟩, .int .i64 12, .int .i64 5, .int .i64 0, .slice uo 1 uc] 42)
  have HL := Lib.hid (cut_yard uo uc _ (Sl.below hd hbw))
  have HB := Lib.hid hbw
  have BX := Lib.hid (BlkIs.new w #[.string ⟨#[97]⟩, .int .i64 12, .int .i64 5, .int .i64 0, .slice uo 1 uc] 42)
  clear hbw hd
  unfold barv yardBar at *
  go_enter Tryz.func35, Tryz.ntmps35
  go_wp2_with fail
  refine HL.out.mono ?_
  rintro e w1 ⟨rfl, hb1⟩
  have HB1 := Lib.hid (bstep HB.out hb1)
  have BX1 := Lib.hid (BX.out.below hb1)
  have c1 := BX1.out.cell 1
  have l1 := BX1.out.lt
  clear hb1 HL
  go_wp2_with fail
  refine (smass_12 _).mono ?_
  rintro e w2 ⟨rfl, hb2⟩
  have HB2 := Lib.hid (bstep HB1.out hb2)
  clear hb2
  go_wp2
  go_ret
  exact ⟨rfl, HB2.out⟩
set_option maxHeartbeats 2000000 in
theorem make1_yard (uo : Option Addr) (uc g : Nat) (w : World) (hd : Ints w (.slice uo 1 uc) [1000]) (hl : g < w.heap.size) (hg : w.cell? ⟨g, 0, none⟩ = some (.int .i64 2000)) : Calls Tryz.prog 34 #[barv yardBar (.slice uo 1 uc), .pointer (some ⟨g, 0, none⟩)] w fun e w' => e = .returned (.bool false) ∧ Below w.heap.size w w' := by
  obtain ⟨w0, hw0⟩ : ∃ w0, w.alloc (.cells #[.string ⟨#[97]⟩, .int .i64 12, .int .i64 5, .int .i64 0, .slice uo 1 uc] 42) = w0 := ⟨_, rfl⟩
  have hbw : Below w.heap.size w w0 := by rw [← hw0]; exact below_new _ _
  have BX : BlkIs w0 w.heap.size 42 #[.string ⟨#[97]⟩, .int .i64 12, .int .i64 5, .int .i64 0, .slice uo 1 uc] := by rw [← hw0]; exact BlkIs.new _ _ _
  have HQ := Lib.hid (fun (d : Nat) (os : Array Obj) => Calls.regrown_of (one_yard uo uc (Go.Sort.grow (redrawn w0 d) os) (Sl.below hd (bstep hbw (below_regrown w0 d os)))))
  have HB := Lib.hid hbw
  have y0 := fun d os => cell_regrown (BX.cell 0) d os
  have y1 := fun d os => cell_regrown (BX.cell 1) d os
  have y2 := fun d os => cell_regrown (BX.cell 2) d os
  have y3 := fun d os => cell_regrown (BX.cell 3) d os
  have y4 := fun d os => cell_regrown (BX.cell 4) d os
  have c2 := fun d os => cell_regrown ((hbw.cell (p := ⟨g, 0, none⟩) hl).trans hg) d os
  clear hbw hd hg BX
  unfold barv yardBar at *
  go_enter Tryz.func34, Tryz.ntmps34
  go_wp2_with fail
  (try rw [hw0])
  clear hw0
  refine wp_region_quiet_below (by kernel_rfl) (by kernel_rfl) ?_
  repeat (go_big_quiet_step ((first
    | (go_at_call 35; with_reducible exact HQ.out _ _))))
  refine wpQuiet_nil ?_
  intro _ hw'
  obtain ⟨⟨nq, osq⟩, hw''⟩ := hw'
  subst hw''
  have HB5 := Lib.hid (bstep HB.out (below_regrown w0 nq osq))
  generalize Go.Sort.grow (redrawn w0 nq) osq = w5 at *
  clear HQ y0 y1 y2 y3 y4 c2
  go_wp2
  go_ret
  exact ⟨rfl, HB5.out⟩
end
end Go.Proofs.YtejcgjdfajppgaaGreatDoor
