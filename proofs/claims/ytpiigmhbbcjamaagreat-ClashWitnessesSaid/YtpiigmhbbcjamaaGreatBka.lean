/-
  Axes; the way of a leg; the ways of legs. box.point, box.Nearest of valid boxes.
-/
import Derived.Test.YtpiigmhbbcjamaaGreatClp
import Derived.Test.YtpiigmhbbcjamaaGreatBxm
import Derived.Test.YtpiigmhbbcjamaaGreatLia
import Derived.BigRegion
import Derived.Test.YtpiigmhbbcjamaaGreatQbl
namespace Go.Proofs.YtpiigmhbbcjamaaGreat
section
open Go.RowKit
set_option linter.unusedVariables false
set_option linter.unusedSimpArgs false
attribute [local go_sem ↓] Go.wp_at_zero Go.wp_at_succ

/-! ### axes -/
def axesL : List Int := [1, 2, 3, -1, -2, -3]
theorem axes_mem (x : Int) : x ∈ axesL ↔ axB x = true := by
  constructor
  · intro h
    unfold axesL at h
    simp only [List.mem_cons, List.not_mem_nil, or_false] at h
    rcases h with rfl | rfl | rfl | rfl | rfl | rfl <;> rfl
  · intro h
    unfold axesL
    simp only [List.mem_cons, List.not_mem_nil, or_false]
    exact ax_cases h
theorem axes_dec (x : Int) : decide (x ∈ axesL) = axB x := by
  rw [Bool.eq_iff_iff, decide_eq_true_eq]; exact axes_mem x
/-! ### the way of a leg -/
end

section
open Go.RowKit
set_option linter.unusedVariables false
set_option linter.unusedSimpArgs false
attribute [local go_sem ↓] Go.wp_at_zero Go.wp_at_succ

set_option maxHeartbeats 1000000 in
theorem point_any (p : Pt) (w : World) : Calls Tryz.prog 77 #[ptv p] w fun e w' => e = .returned (ptv p) ∧ Below w.heap.size w w' := by
  obtain ⟨x, y, z⟩ := p
  go_enter Tryz.func77, Tryz.ntmps77
  go_wp2
  exact bodyPost_ret (v := ptv _) (by simp [results, Tryz.results77, go_sem]) rfl ⟨rfl, by go_grown⟩

def npk (f : Int → Int → Int → Int → Int) (a b : Bx) (n k : Nat) : Value := .int .i64 (if k < n then f (ax a.lo k) (ax a.hi k) (ax b.lo k) (ax b.hi k) else 0)
abbrev npC (f : Int → Int → Int → Int → Int) (a b : Bx) (n : Nat) : Array Value := #[npk f a b n 0, npk f a b n 1, npk f a b n 2]
theorem npC_set (f : Int → Int → Int → Int → Int) (a b : Bx) {n : Nat} (h : n < 3) : (npC f a b n).setIfInBounds n (.int .i64 (f (ax a.lo n) (ax a.hi n) (ax b.lo n) (ax b.hi n))) = npC f a b (n + 1) := by
  obtain rfl | rfl | rfl : n = 0 ∨ n = 1 ∨ n = 2 := by omega
  all_goals simp [npC, npk]
structure NeW (w : World) (a b : Bx) (A n : Nat) (wr : World) : Prop where
  below : Below w.heap.size w wr
  ba : BlkIs wr w.heap.size 96 (bxCellsA a)
  bb : BlkIs wr (w.heap.size + 1) 96 (bxCellsA b)
  r4 : BlkIs wr (w.heap.size + 2) 43 #[.int .i64 0, .int .i64 0, .int .i64 0]
  r5 : BlkIs wr (w.heap.size + 3) 43 #[.int .i64 0, .int .i64 0, .int .i64 0]
  pa : BlkIs wr A 121 (npC npA a b n)
  qa : BlkIs wr (A + 1) 121 (npC npB a b n)
  far : w.heap.size + 4 ≤ A
theorem NeW.after {w wr w' : World} {a b : Bx} {A n : Nat} (h : NeW w a b A n wr) (hb : Below wr.heap.size wr w') : NeW w a b A n w' := ⟨bstep h.below hb, h.ba.below hb, h.bb.below hb, h.r4.below hb, h.r5.below hb, h.pa.below hb, h.qa.below hb, h.far⟩
theorem NeW.put {w wr : World} {a b : Bx} {A n : Nat} (h : NeW w a b A n wr) (hn : n < 3) : NeW w a b A (n + 1) ((wr.setCell ⟨A, n, none⟩ (.int .i64 (npA (ax a.lo n) (ax a.hi n) (ax b.lo n) (ax b.hi n)))).setCell ⟨A + 1, n, none⟩ (.int .i64 (npB (ax a.lo n) (ax a.hi n) (ax b.lo n) (ax b.hi n)))) := by
  have f := h.far
  have p1 := (h.pa.set n (.int .i64 (npA (ax a.lo n) (ax a.hi n) (ax b.lo n) (ax b.hi n))))
  rw [npC_set _ _ _ hn] at p1
  have q1 := ((h.qa.far (p := ⟨A, n, none⟩) (by simp) (.int .i64 (npA (ax a.lo n) (ax a.hi n) (ax b.lo n) (ax b.hi n)))).set n (.int .i64 (npB (ax a.lo n) (ax a.hi n) (ax b.lo n) (ax b.hi n))))
  rw [npC_set _ _ _ hn] at q1
  exact ⟨(h.below.setCell (by simp; omega) _).setCell (by simp; omega) _, (h.ba.far (by simp; omega) _).far (by simp; omega) _, (h.bb.far (by simp; omega) _).far (by simp; omega) _, (h.r4.far (by simp; omega) _).far (by simp; omega) _, (h.r5.far (by simp; omega) _).far (by simp; omega) _, p1.far (by simp) _, q1, f⟩
set_option maxRecDepth 100000 in
set_option maxHeartbeats 4000000 in
theorem nearest_any (a b : Bx) (w : World) (ha : bxOk a = true) (hb : bxOk b = true) :
    Calls Tryz.prog 54 #[bxv a, bxv b] w fun e w' => e = .returned (.tuple #[ptv (nearP a b), ptv (nearQ a b), .int .i64 0]) ∧ Below w.heap.size w w' := by
  have HVA := Lib.hid (fun W => bvalid_any a W)
  have HVB := Lib.hid (fun W => bvalid_any b W)
  rw [ha] at HVA
  rw [hb] at HVB
  have HEA := Lib.hid (fun k W (hk : k < 3) => ends_any a k W hk)
  have HEB := Lib.hid (fun k W (hk : k < 3) => ends_any b k W hk)
  clear ha hb
  go_enter Tryz.func54, Tryz.ntmps54
  go_wp2_with fail
  refine (HVA.out _).mono ?_
  rintro e w1 ⟨rfl, hb1⟩
  have HB1 := Lib.hid (bstep (by go_grown) hb1 : Below w.heap.size w w1)
  have hx0 := BlkIs.below ((((BlkIs.new w (bxCellsA a) 96).alloc (.cells (bxCellsA b) 96)).alloc (.cells #[.int .i64 0, .int .i64 0, .int .i64 0] 43)).alloc (.cells #[.int .i64 0, .int .i64 0, .int .i64 0] 43)) hb1
  have hx1 := BlkIs.below (((BlkIs.new1 w (.cells (bxCellsA a) 96) (bxCellsA b) 96).alloc (.cells #[.int .i64 0, .int .i64 0, .int .i64 0] 43)).alloc (.cells #[.int .i64 0, .int .i64 0, .int .i64 0] 43)) hb1
  have hx2 := BlkIs.below ((BlkIs.new1 (w.alloc (.cells (bxCellsA a) 96)) (.cells (bxCellsA b) 96) #[.int .i64 0, .int .i64 0, .int .i64 0] 43).alloc (.cells #[.int .i64 0, .int .i64 0, .int .i64 0] 43)) hb1
  have hx3 := BlkIs.below (BlkIs.new1 ((w.alloc (.cells (bxCellsA a) 96)).alloc (.cells (bxCellsA b) 96)) (.cells #[.int .i64 0, .int .i64 0, .int .i64 0] 43) #[.int .i64 0, .int .i64 0, .int .i64 0] 43) hb1
  simp only [World.size_alloc] at hx2 hx3
  have HX : Hid (BlkIs w1 w.heap.size 96 (bxCellsA a) ∧ BlkIs w1 (w.heap.size + 1) 96 (bxCellsA b) ∧ BlkIs w1 (w.heap.size + 2) 43 #[.int .i64 0, .int .i64 0, .int .i64 0] ∧ BlkIs w1 (w.heap.size + 3) 43 #[.int .i64 0, .int .i64 0, .int .i64 0]) := ⟨hx0, hx1, hx2, hx3⟩
  have c0 := hx1.cell 0
  have c1 := hx1.cell 1
  have c2 := hx1.cell 2
  have c3 := hx1.cell 3
  have c4 := hx1.cell 4
  have c5 := hx1.cell 5
  clear hb1 hx0 hx1 hx2 hx3
  go_wp2_with fail
  refine (HVB.out _).mono ?_
  rintro e w2 ⟨rfl, hb2⟩
  have hb3 : Below w1.heap.size w1 ((w2.alloc (.cells #[.int .i64 0, .int .i64 0, .int .i64 0] 121)).alloc (.cells #[.int .i64 0, .int .i64 0, .int .i64 0] 121)) := bstep hb2 (by go_grown)
  have hz : w.heap.size + 4 ≤ w2.heap.size := by have h1 := HX.out.2.2.2.lt; have h2 := hb2.size; omega
  have HW0 : Hid (NeW w a b w2.heap.size 0 ((w2.alloc (.cells #[.int .i64 0, .int .i64 0, .int .i64 0] 121)).alloc (.cells #[.int .i64 0, .int .i64 0, .int .i64 0] 121))) := ⟨bstep HB1.out hb3, HX.out.1.below hb3, HX.out.2.1.below hb3, HX.out.2.2.1.below hb3, HX.out.2.2.2.below hb3, (BlkIs.new w2 _ _).alloc _, BlkIs.new1 w2 _ _ _, hz⟩
  clear hb2 hb3 hz c0 c1 c2 c3 c4 c5 HVA HVB HX HB1
  go_wp2_with fail
  go_loopw [24] (fun i wr => ∃ n : Nat, n ≤ 3 ∧ i = .int .i64 (n : Int) ∧ NeW w a b w2.heap.size n wr) (fun i _ => 3 - (intOf i).toNat)
  case atStart => exact ⟨0, by omega, rfl, HW0.out⟩
  case round =>
    obtain ⟨n, hn, rfl, hW⟩ := hrel
    have HW := Lib.hid hW
    clear hW HW0
    by_cases hn3 : n < 3
    · have c0 := HW.out.ba.cell 0
      have c1 := HW.out.ba.cell 1
      have c2 := HW.out.ba.cell 2
      have c3 := HW.out.ba.cell 3
      have c4 := HW.out.ba.cell 4
      have c5 := HW.out.ba.cell 5
      have HE1 := Lib.hid (HEA.out n wr hn3)
      have HE2 := Lib.hid (fun W => HEB.out n W hn3)
      have HPUT := Lib.hid (fun W (h : NeW w a b w2.heap.size n W) => h.put hn3)
      clear HEA HEB
      go_wp2_with fail
      refine HE1.out.mono ?_
      rintro e w3 ⟨rfl, hb3⟩
      have HW3 := Lib.hid (HW.out.after hb3)
      clear hb3 c0 c1 c2 c3 c4 c5 HW HE1
      have c0 := HW3.out.bb.cell 0
      have c1 := HW3.out.bb.cell 1
      have c2 := HW3.out.bb.cell 2
      have c3 := HW3.out.bb.cell 3
      have c4 := HW3.out.bb.cell 4
      have c5 := HW3.out.bb.cell 5
      go_wp2_with fail
      refine (HE2.out _).mono ?_
      rintro e w4 ⟨rfl, hb4⟩
      have HW4 := Lib.hid (HW3.out.after hb4)
      clear hb4 c0 c1 c2 c3 c4 c5 HW3 HE2
      have HPUT2 := Lib.hid (HPUT.out _ HW4.out)
      clear HPUT
      have k0 : (0 : Int) ≤ (n : Int) := by omega
      have k1 : (n : Int) < 3 := by omega
      obtain ⟨z1, d1⟩ : ∃ z, w4.cell? ⟨w2.heap.size, n, none⟩ = some z := by rw [HW4.out.pa.cell n]; exact ⟨_, Array.getElem?_eq_getElem (by simpa using hn3)⟩
      obtain ⟨z2, d2⟩ : ∃ z, w4.cell? ⟨w2.heap.size + 1, n, none⟩ = some z := by rw [HW4.out.qa.cell n]; exact ⟨_, Array.getElem?_eq_getElem (by simpa using hn3)⟩
      have f1 := HW4.out.pa.free
      have f2 := HW4.out.qa.free
      have y1 := HW4.out.pa.lt
      have y2 := HW4.out.qa.lt
      generalize ax a.lo n = lo at *
      generalize ax a.hi n = hi at *
      generalize ax b.lo n = fr at *
      generalize ax b.hi n = tt at *
      by_cases h1 : hi < fr
      · rw [show npA lo hi fr tt = hi from if_pos h1, show npB lo hi fr tt = fr from if_pos h1] at HPUT2
        go_wp2
        go_roundw
        case rel => exact ⟨n + 1, by omega, by go_num, HPUT2.out⟩
        case measure => simp [intOf]; omega
      · by_cases h2 : tt < lo
        · rw [show npA lo hi fr tt = lo from (if_neg h1).trans (if_pos h2), show npB lo hi fr tt = tt from (if_neg h1).trans (if_pos h2)] at HPUT2
          go_wp2
          go_roundw
          case rel => exact ⟨n + 1, by omega, by go_num, HPUT2.out⟩
          case measure => simp [intOf]; omega
        · rw [show npA lo hi fr tt = mx lo fr from (if_neg h1).trans (if_neg h2), show npB lo hi fr tt = mx lo fr from (if_neg h1).trans (if_neg h2)] at HPUT2
          go_wp2
          go_roundw
          case rel => exact ⟨n + 1, by omega, by go_num, HPUT2.out⟩
          case measure => simp [intOf]; omega
    · obtain rfl : n = 3 := by omega
      have HPA := Lib.hid (fun W => point_any (nearP a b) W)
      have HPB := Lib.hid (fun W => point_any (nearQ a b) W)
      have HQA : Hid (nearP a b = ⟨npA a.lo.x a.hi.x b.lo.x b.hi.x, npA a.lo.y a.hi.y b.lo.y b.hi.y, npA a.lo.z a.hi.z b.lo.z b.hi.z⟩) := rfl
      have HQB : Hid (nearQ a b = ⟨npB a.lo.x a.hi.x b.lo.x b.hi.x, npB a.lo.y a.hi.y b.lo.y b.hi.y, npB a.lo.z a.hi.z b.lo.z b.hi.z⟩) := rfl
      have hpa : BlkIs wr w2.heap.size 121 #[.int .i64 (nearP a b).x, .int .i64 (nearP a b).y, .int .i64 (nearP a b).z] := HW.out.pa
      have hqa : BlkIs wr (w2.heap.size + 1) 121 #[.int .i64 (nearQ a b).x, .int .i64 (nearQ a b).y, .int .i64 (nearQ a b).z] := HW.out.qa
      generalize hP : nearP a b = P at *
      generalize hQ : nearQ a b = Q at *
      have HPP := Lib.hid hP
      have HQQ := Lib.hid hQ
      clear hP hQ
      have HPAB := Lib.hid (And.intro hpa hqa)
      have c0 := fun d os => cell_regrown (hpa.cell 0) d os
      have c1 := fun d os => cell_regrown (hpa.cell 1) d os
      have c2 := fun d os => cell_regrown (hpa.cell 2) d os
      have c3 := fun d os => cell_regrown (hqa.cell 0) d os
      have c4 := fun d os => cell_regrown (hqa.cell 1) d os
      have c5 := fun d os => cell_regrown (hqa.cell 2) d os
      clear hpa hqa HQA HQB HEA HEB
      go_wp2_with fail
      refine wp_region_below_tail 4 (by kernel_rfl) (by kernel_rfl) ?_
      simp only [List.take_succ_cons, List.take_zero, List.drop_succ_cons, List.drop_zero]
      repeat (go_big_quiet_step ((first
        | (go_at_call 77; exact Calls.regrown_of (point_any _ _)))))
      refine wpQuiet_nil ?_
      intro _ hw'
      obtain ⟨⟨nq, osq⟩, hw''⟩ := hw'
      subst hw''
      have HB2 : Hid (NeW w a b w2.heap.size 3 (Go.Sort.grow (redrawn wr nq) osq)) := HW.out.after (below_regrown _ nq osq)
      clear c0 c1 c2 c3 c4 c5 HPAB
      generalize Go.Sort.grow (redrawn wr nq) osq = W2 at *
      have e0 := HB2.out.r4.cell 0
      have e1 := HB2.out.r4.cell 1
      have e2 := HB2.out.r4.cell 2
      have ef := HB2.out.r4.free
      have ez := HB2.out.r4.lt
      have g0 := HB2.out.r5.cell 0
      have g1 := HB2.out.r5.cell 1
      have g2 := HB2.out.r5.cell 2
      have gf := HB2.out.r5.free
      have gz := HB2.out.r5.lt
      go_wp2
      refine bodyPost_ret (v := .tuple #[ptv P, ptv Q, .int .i64 0]) (by simp [results, Tryz.results54, go_sem, e0, e1, e2, ef, ez, g0, g1, g2, gf, gz]) rfl ⟨by rw [HPP.out, HQQ.out], ?_⟩
      have h1 := HB2.out.below.setCell (p := ⟨w.heap.size + 2, 0, none⟩) (Nat.le_add_right _ _) (.int .i64 P.x)
      have h2 := h1.setCell (p := ⟨w.heap.size + 2, 1, none⟩) (Nat.le_add_right _ _) (.int .i64 P.y)
      have h3 := h2.setCell (p := ⟨w.heap.size + 2, 2, none⟩) (Nat.le_add_right _ _) (.int .i64 P.z)
      have h4 := h3.setCell (p := ⟨w.heap.size + 3, 0, none⟩) (Nat.le_add_right _ _) (.int .i64 Q.x)
      have h5 := h4.setCell (p := ⟨w.heap.size + 3, 1, none⟩) (Nat.le_add_right _ _) (.int .i64 Q.y)
      exact h5.setCell (p := ⟨w.heap.size + 3, 2, none⟩) (Nat.le_add_right _ _) (.int .i64 Q.z)
end
end Go.Proofs.YtpiigmhbbcjamaaGreat
