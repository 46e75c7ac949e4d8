/-
  Laws of layer 8: large, awake.
-/
import Derived.Test.YthhhcaleoiopgaaLgC
namespace Go.Proofs.Ythhhcaleoiopgaa
open Go.RowKit
set_option linter.unusedVariables false

/-! ### large -/
def larg (n : Int) (m : Nat) : Bool := (decide (20 < n) && decide (n ≤ 60)) || (decide (60 < m) && decide (m ≤ 1000)) || decide (1005 < m)

theorem large_any (n : Int) (v : Value) (m : Nat) (w : World) (hm : m ≤ 140737488355328) (hv : ∃ ao cap, v = .slice ao m cap) :
    Calls Try.prog 11 #[.int .i64 n, v] w fun e w' => e = .returned (.bool (larg n m)) ∧ w = w' := by
  obtain ⟨ao, cap, rfl⟩ := hv
  by_cases h1 : 20 < n
  · by_cases h2 : n ≤ 60
    · have E := Lib.hid (show larg n m = true by unfold larg; rw [dec_yes h1, dec_yes h2]; simp)
      go_enter Try.func11, Try.ntmps11
      go_wp2
      go_ret
      exact ⟨ret_bool (by first | exact E.out.symm | (rw [E.out]; simp <;> omega)), rfl⟩
    · by_cases h3 : 60 < m
      · by_cases h4 : m ≤ 1000
        · have E := Lib.hid (show larg n m = true by unfold larg; rw [dec_yes h3, dec_yes h4]; simp)
          go_enter Try.func11, Try.ntmps11
          go_wp2
          go_ret
          exact ⟨ret_bool (by first | exact E.out.symm | (rw [E.out]; simp <;> omega)), rfl⟩
        · by_cases h5 : 1005 < m
          · have E := Lib.hid (show larg n m = true by unfold larg; rw [dec_yes h5]; simp)
            go_enter Try.func11, Try.ntmps11
            go_wp2
            go_ret
            exact ⟨ret_bool (by first | exact E.out.symm | (rw [E.out]; simp <;> omega)), rfl⟩
          · have E := Lib.hid (show larg n m = false by unfold larg; rw [dec_no h2, dec_no h4, dec_no h5]; simp)
            go_enter Try.func11, Try.ntmps11
            go_wp2
            go_ret
            exact ⟨ret_bool (by first | exact E.out.symm | (rw [E.out]; simp <;> omega)), rfl⟩
      · have h5 : ¬ 1005 < m := by omega
        have E := Lib.hid (show larg n m = false by unfold larg; rw [dec_no h2, dec_no h3, dec_no h5]; simp)
        go_enter Try.func11, Try.ntmps11
        go_wp2
        go_ret
        exact ⟨ret_bool (by first | exact E.out.symm | (rw [E.out]; simp <;> omega)), rfl⟩
  · by_cases h3 : 60 < m
    · by_cases h4 : m ≤ 1000
      · have E := Lib.hid (show larg n m = true by unfold larg; rw [dec_yes h3, dec_yes h4]; simp)
        go_enter Try.func11, Try.ntmps11
        go_wp2
        go_ret
        exact ⟨ret_bool (by first | exact E.out.symm | (rw [E.out]; simp <;> omega)), rfl⟩
      · by_cases h5 : 1005 < m
        · have E := Lib.hid (show larg n m = true by unfold larg; rw [dec_yes h5]; simp)
          go_enter Try.func11, Try.ntmps11
          go_wp2
          go_ret
          exact ⟨ret_bool (by first | exact E.out.symm | (rw [E.out]; simp <;> omega)), rfl⟩
        · have E := Lib.hid (show larg n m = false by unfold larg; rw [dec_no h1, dec_no h4, dec_no h5]; simp)
          go_enter Try.func11, Try.ntmps11
          go_wp2
          go_ret
          exact ⟨ret_bool (by first | exact E.out.symm | (rw [E.out]; simp <;> omega)), rfl⟩
    · have h5 : ¬ 1005 < m := by omega
      have E := Lib.hid (show larg n m = false by unfold larg; rw [dec_no h1, dec_no h3, dec_no h5]; simp)
      go_enter Try.func11, Try.ntmps11
      go_wp2
      go_ret
      exact ⟨ret_bool (by first | exact E.out.symm | (rw [E.out]; simp <;> omega)), rfl⟩

/-! ### awake -/
def awA : List (Nat × Nat) := [(0, 2), (2, 1)]
def awB : List (Nat × Nat) := [(0, 2), (2, 1), (1, 0)]
theorem awA_ends : EndsD 3 awA := by
  intro k e he
  match k, he with
  | 0, he => cases he; decide
  | 1, he => cases he; decide
  | k + 2, he => cases he
theorem awB_ends : EndsD 3 awB := by
  intro k e he
  match k, he with
  | 0, he => cases he; decide
  | 1, he => cases he; decide
  | 2, he => cases he; decide
  | k + 3, he => cases he
theorem awA_order : orderOf 3 awA = some [0, 2, 1] := by decide +kernel
theorem awA_long : longRes 3 awA [5, 1, 0] = (6, [0, 2, 1], 0) := by decide +kernel
def awD : Nat → Int := fun v => if v = 0 then 0 else if v = 1 then 1 else if v = 2 then 2 else -1
theorem awB_far : IsFar awB 0 awD := by
  have k0 : awD 0 = 0 := rfl
  have k1 : awD 1 = 1 := rfl
  have k2 : awD 2 = 2 := rfl
  refine ⟨rfl, fun v => ?_, fun v hv i hi => ?_⟩
  · match v with
    | 0 => exact .inr (.inl ⟨rfl, rfl⟩)
    | 1 => exact .inr (.inr ⟨by rw [k1]; omega, 0, by decide, by rw [k1, k0]; rfl⟩)
    | 2 => exact .inr (.inr ⟨by rw [k2]; omega, 1, by decide, by rw [k1, k2]; rfl⟩)
    | v + 3 => exact .inl (by unfold awD; rw [if_neg (by omega), if_neg (by omega), if_neg (by omega)])
  · unfold awB at hi
    simp only [List.mem_cons, Prod.mk.injEq, List.not_mem_nil, or_false] at hi
    rcases hi with ⟨rfl, rfl⟩ | ⟨rfl, rfl⟩ | ⟨rfl, rfl⟩
    · rw [k0, k2]; omega
    · rw [k1, k2]; omega
    · rw [k0, k1]; omega
theorem awB_loop : loopOf 3 awB = some [0, 2, 1] := by
  refine loopFrom_some (k := 1) ?_ 3 (by omega)
  show loopAt 3 awB (farD awB 0) 0 = some [0, 2, 1]
  rw [farD_eq awB_far]
  decide +kernel
theorem awPairs2 (w : World) : Dg (w.alloc (.cells #[.int .i64 0, .int .i64 2, .int .i64 2, .int .i64 1] 38)) 3 (.slice (some ⟨w.heap.size, 0, none⟩) 2 2) awA := by
  refine ⟨?_, by omega, by decide, awA_ends⟩
  refine ⟨_, _, rfl, fun _ => ⟨_, _, rfl, by simp, fun k x hx => ?_⟩⟩
  match k, hx with
  | 0, hx => cases hx; exact ⟨by rw [World.cell?_alloc_at _ _ _ _ rfl]; rfl, by rw [World.cell?_alloc_at _ _ _ _ rfl]; rfl⟩
  | 1, hx => cases hx; exact ⟨by rw [World.cell?_alloc_at _ _ _ _ rfl]; rfl, by rw [World.cell?_alloc_at _ _ _ _ rfl]; rfl⟩
theorem awPairs3 (w : World) : Dg (w.alloc (.cells #[.int .i64 0, .int .i64 2, .int .i64 2, .int .i64 1, .int .i64 1, .int .i64 0] 38)) 3 (.slice (some ⟨w.heap.size, 0, none⟩) 3 3) awB := by
  refine ⟨?_, by omega, by decide, awB_ends⟩
  refine ⟨_, _, rfl, fun _ => ⟨_, _, rfl, by simp, fun k x hx => ?_⟩⟩
  match k, hx with
  | 0, hx => cases hx; exact ⟨by rw [World.cell?_alloc_at _ _ _ _ rfl]; rfl, by rw [World.cell?_alloc_at _ _ _ _ rfl]; rfl⟩
  | 1, hx => cases hx; exact ⟨by rw [World.cell?_alloc_at _ _ _ _ rfl]; rfl, by rw [World.cell?_alloc_at _ _ _ _ rfl]; rfl⟩
  | 2, hx => cases hx; exact ⟨by rw [World.cell?_alloc_at _ _ _ _ rfl]; rfl, by rw [World.cell?_alloc_at _ _ _ _ rfl]; rfl⟩

set_option maxRecDepth 100000 in
set_option maxHeartbeats 4000000 in
theorem awake_any (w : World) : Calls Try.prog 10 #[] w fun e w' => e = .returned (.bool true) ∧ Below w.heap.size w w' := by
  have HP := Lib.hid (awPairs2 w)
  have hB0 := below_new w (.cells #[.int .i64 0, .int .i64 2, .int .i64 2, .int .i64 1] 38)
  go_enter Try.func10, Try.ntmps10
  go_wp2_with fail
  refine (ordTop_ok 3 _ awA _ HP.out).mono ?_
  intro e w1 h1
  unfold TopPost at h1
  rw [awA_order] at h1
  obtain ⟨⟨u1, rfl, hu1⟩, hb1⟩ := h1
  have hB1 := bstep hB0 hb1
  have HQ := Lib.hid (awPairs3 w1)
  have hB2 : Below w.heap.size w (w1.alloc (.cells #[.int .i64 0, .int .i64 2, .int .i64 2, .int .i64 1, .int .i64 1, .int .i64 0] 38)) := bstep hB1 (below_new _ _)
  go_wp2_with fail
  refine (loop_any 3 _ awB _ HQ.out).mono ?_
  intro e w2 h2
  unfold LoopPost at h2
  rw [awB_loop] at h2
  obtain ⟨⟨u2, rfl, hu2⟩, hb2⟩ := h2
  have N1 := Lib.hid (hu1.sl.below (bstep (below_new _ _) hb2))
  have hB3 := bstep hB2 hb2
  have HR := Lib.hid ((awPairs2 w2).below (below_new _ (.cells #[.int .i64 5, .int .i64 1, .int .i64 0] 3)))
  have HI := Lib.hid (show Ints (((w2.alloc (.cells #[.int .i64 0, .int .i64 2, .int .i64 2, .int .i64 1] 38)).alloc (.cells #[.int .i64 5, .int .i64 1, .int .i64 0] 3))) (.slice (some ⟨w2.heap.size + 1, 0, none⟩) 3 3) [5, 1, 0] by
    have := sl_lit (w2.alloc (.cells #[.int .i64 0, .int .i64 2, .int .i64 2, .int .i64 1] 38)) (fun x : Int => .int .i64 x) [5, 1, 0] #[.int .i64 5, .int .i64 1, .int .i64 0] 3 3 rfl rfl
    simpa using this)
  have hB4 : Below w2.heap.size w2 ((w2.alloc (.cells #[.int .i64 0, .int .i64 2, .int .i64 2, .int .i64 1] 38)).alloc (.cells #[.int .i64 5, .int .i64 1, .int .i64 0] 3)) := (below_new _ _).alloc (by simp) _
  go_wp2_with fail
  refine (longest_any 3 _ _ awA _ _ HR.out HI.out (by simp)).mono ?_
  intro e w3 h3
  unfold LongTop at h3
  rw [awA_long] at h3
  obtain ⟨u3, rfl, hu3, hb3⟩ := h3
  have hB5 := bstep hB3 (bstep hB4 hb3)
  have N2 := Lib.hid (hu2.sl.below (bstep hB4 hb3))
  have N1' := Lib.hid (N1.out.below (bstep hB4 hb3))
  have N3 := Lib.hid hu3.sl
  clear hu1 hu2 hu3 hb1 hb2 hb3 hB0 hB1 hB2 hB3 hB4 HP HQ HR HI N1
  go_wp2_with fail
  have L1 := Lib.hid (sl_lit w3 (fun x : Nat => .int .i64 (x : Int)) [0, 2, 1] #[.int .i64 0, .int .i64 2, .int .i64 1] 3 3 rfl rfl)
  have hB6 : Below w.heap.size w (w3.alloc (.cells #[.int .i64 0, .int .i64 2, .int .i64 1] 3)) := hB5.alloc hB5.size _
  refine (equalN_yes _ _ [0, 2, 1] [0, 2, 1] _ (N1'.out.below (below_new _ _)) L1.out (by simp) rfl).mono ?_
  rintro e w5 ⟨rfl, hb5⟩
  have hB7 := bstep hB6 hb5
  have N2 := Lib.hid ((N2.out.below (below_new _ _)).below hb5)
  have N3 := Lib.hid ((N3.out.below (below_new _ _)).below hb5)
  clear N1' L1 hb5 hB5 hB6
  go_wp2_with fail
  have L2 := Lib.hid (sl_lit w5 (fun x : Nat => .int .i64 (x : Int)) [0, 2, 1] #[.int .i64 0, .int .i64 2, .int .i64 1] 3 3 rfl rfl)
  have hB8 : Below w.heap.size w (w5.alloc (.cells #[.int .i64 0, .int .i64 2, .int .i64 1] 3)) := hB7.alloc hB7.size _
  refine (equalN_yes _ _ [0, 2, 1] [0, 2, 1] _ (N2.out.below (below_new _ _)) L2.out (by simp) rfl).mono ?_
  rintro e w6 ⟨rfl, hb6⟩
  have hB9 := bstep hB8 hb6
  have N3 := Lib.hid ((N3.out.below (below_new _ _)).below hb6)
  clear N2 L2 hb6 hB7 hB8
  go_wp2_with fail
  have L3 := Lib.hid (sl_lit w6 (fun x : Nat => .int .i64 (x : Int)) [0, 2, 1] #[.int .i64 0, .int .i64 2, .int .i64 1] 3 3 rfl rfl)
  have hB10 : Below w.heap.size w (w6.alloc (.cells #[.int .i64 0, .int .i64 2, .int .i64 1] 3)) := hB9.alloc hB9.size _
  refine (equalN_yes _ _ [0, 2, 1] [0, 2, 1] _ (N3.out.below (below_new _ _)) L3.out (by simp) rfl).mono ?_
  rintro e w7 ⟨rfl, hb7⟩
  have hB11 := bstep hB10 hb7
  clear N3 L3 hb7 hB9 hB10
  go_wp2
  go_ret
  exact ⟨rfl, hB11⟩
end Go.Proofs.Ythhhcaleoiopgaa
