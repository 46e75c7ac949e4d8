/-
  Directed graphs: Longest, all its answers.
-/
import Derived.Test.YthhhcaleoiopgaaLgA
namespace Go.Proofs.Ythhhcaleoiopgaa
open Go.RowKit Go.Shelf
set_option linter.unusedVariables false
attribute [local go_sem ↓] Go.wp_at_zero Go.wp_at_succ
attribute [local go_sem] Oper.semAt_some

def badW (x : Int) : Bool := decide (x < 0 ∨ 1073741824 < x)
theorem badW_any (x : Int) (w : World) : Calls Try.prog 42 #[.int .i64 x] w fun e w' => e = .returned (.bool (badW x)) ∧ Below w.heap.size w w' := by
  unfold badW
  exact lgFn_any x w
theorem badW_pred (ws : List Int) (w : World) : IntPred 42 #[] badW ws w := ⟨fun xs W => by rfl, fun x W _ _ => badW_any x W⟩
/-- What Longest returns: the sum, the path, the error's number. -/
def longRes (n : Nat) (es : List (Nat × Nat)) (ws : List Int) : Int × List Nat × Int :=
  if ws.length ≠ n then (0, [], 3) else if ws.any badW then (0, [], 2) else match orderOf n es with
    | none => (0, [], 23)
    | some D => if n = 0 then (0, [], 0) else ((longOf n es ws D).1, (longOf n es ws D).2, 0)
def LongTop (w : World) (n : Nat) (es : List (Nat × Nat)) (ws : List Int) (e : Ending) (w' : World) : Prop :=
  ∃ v, e = .returned (.tuple #[.int .i64 (longRes n es ws).1, v, .int .i64 (longRes n es ws).2.2]) ∧ Own w' w.heap.size 3 natf v (longRes n es ws).2.1 ∧ Below w.heap.size w w'

theorem longTop_no {w w' : World} {n : Nat} {es : List (Nat × Nat)} {ws : List Int} {k : Int} (h : longRes n es ws = (0, [], k)) (hb : Below w.heap.size w w') :
    LongTop w n es ws (.returned (.tuple #[.int .i64 0, .slice none 0 0, .int .i64 k])) w' := by
  unfold LongTop
  rw [h]
  exact ⟨_, rfl, Own.nil _ _ _ _, hb⟩

set_option maxRecDepth 100000 in
set_option maxHeartbeats 1000000 in
theorem longest_size (n : Nat) (v vw : Value) (es : List (Nat × Nat)) (ws : List Int) (w : World) (hg : Dg w n v es) (hw : Ints w vw ws) (hlw : ws.length ≤ 140737488355328) (hne : ws.length ≠ n) :
    Calls Try.prog 12 #[.int .i64 (n : Int), v, vw] w (LongTop w n es ws) := by
  obtain ⟨wo, wcap, rfl, hwi⟩ := hw
  have hb0 := below_new w (.cells #[.slice wo ws.length wcap] 23)
  have HV := Lib.hid (dvalid_any (n : Int) v (cst es) _ (hg.pairs.below hb0) (by rw [cst_len]; have := hg.m_le; omega))
  rw [hg.ok] at HV
  have HR := Lib.hid (show longRes n es ws = (0, [], 3) by unfold longRes; rw [if_pos hne])
  have hq : ((ws.length : Int) != (n : Int)) = true := bne_yes (by omega)
  clear hg hwi hne
  refine calls_of_wp_marks Try.func12 rfl ?_
  simp only [Try.ntmps12, List.size_toArray, List.length_cons, List.length_nil, Nat.reduceAdd, Nat.reduceSub, Array.replicate_succ, Array.replicate_zero, List.push_toArray, List.append_toArray, List.nil_append, List.cons_append]
  go_wp2_with fail
  refine HV.out.mono ?_
  rintro e w1 ⟨rfl, hb⟩
  have c5 : w1.cell? ⟨w.heap.size, 0, none⟩ = some (.slice wo ws.length wcap) := (hb.cell (p := ⟨w.heap.size, 0, none⟩) (by simp)).trans (by rw [World.cell?_alloc_at _ _ _ _ rfl]; rfl)
  go_wp2
  refine marks_ret3 rfl rfl ?_
  exact longTop_no HR.out (bstep hb0 hb)

set_option maxRecDepth 100000 in
set_option maxHeartbeats 1000000 in
theorem longest_range (n : Nat) (v vw : Value) (es : List (Nat × Nat)) (ws : List Int) (w : World) (hg : Dg w n v es) (hw : Ints w vw ws) (hl : ws.length = n) (hr : ws.any badW = true) :
    Calls Try.prog 12 #[.int .i64 (n : Int), v, vw] w (LongTop w n es ws) := by
  obtain ⟨wo, wcap, rfl, hwi⟩ := hw
  have hn60 := hg.n_le
  have HR := Lib.hid (show longRes n es ws = (0, [], 2) by unfold longRes; rw [if_neg (by omega), if_pos hr])
  rw [hl]
  have hb0 := below_new w (.cells #[.slice wo n wcap] 23)
  have HV := Lib.hid (dvalid_any (n : Int) v (cst es) _ (hg.pairs.below hb0) (by rw [cst_len]; have := hg.m_le; omega))
  rw [hg.ok] at HV
  have HWI : Hid (Ints w (.slice wo n wcap) ws) := ⟨_, _, by rw [hl], hwi⟩
  have HL := Lib.hid hl
  have HB := Lib.hid hr
  clear hg hwi hr hl
  refine calls_of_wp_marks Try.func12 rfl ?_
  simp only [Try.ntmps12, List.size_toArray, List.length_cons, List.length_nil, Nat.reduceAdd, Nat.reduceSub, Array.replicate_succ, Array.replicate_zero, List.push_toArray, List.append_toArray, List.nil_append, List.cons_append]
  go_wp2_with fail
  refine HV.out.mono ?_
  rintro e w1 ⟨rfl, hb⟩
  have hB1 := bstep hb0 hb
  have c5 : w1.cell? ⟨w.heap.size, 0, none⟩ = some (.slice wo n wcap) := (hb.cell (p := ⟨w.heap.size, 0, none⟩) (by simp)).trans (by rw [World.cell?_alloc_at _ _ _ _ rfl]; rfl)
  have HC1 : Hid (Calls Try.prog 37 #[.slice wo n wcap, .func (.func 42) #[] #[]] w1 fun e w' => e = .returned (.bool true) ∧ Below w1.heap.size w1 w') := by
    show Calls _ _ _ _ _
    have := anyInts_any _ _ badW _ ws w1 (HWI.out.below hB1) (by have := HL.out; omega) (badW_pred ws w1)
    rw [HB.out] at this
    exact this
  clear HV
  go_wp2_with fail
  refine HC1.out.mono ?_
  rintro e w2 ⟨rfl, hb2⟩
  go_wp2
  refine marks_ret3 rfl rfl ?_
  exact longTop_no HR.out (bstep hB1 hb2)

set_option maxRecDepth 100000 in
set_option maxHeartbeats 1000000 in
theorem longest_rest (n : Nat) (v vw : Value) (es : List (Nat × Nat)) (ws : List Int) (w : World) (hL : LongSets w n v es vw ws) (h : orderOf n es = none ∨ n = 0) :
    Calls Try.prog 12 #[.int .i64 (n : Int), v, vw] w (LongTop w n es ws) := by
  obtain ⟨hg, hw, hwl, hwb⟩ := hL
  obtain ⟨wo, wcap, rfl, hwi⟩ := hw
  have hn60 := hg.n_le
  have hno : ws.any badW = false := List.any_eq_false.2 fun x hx => by
    have := hwb x hx
    unfold badW
    simp; omega
  rw [hwl]
  have hb0 := below_new w (.cells #[.slice wo n wcap] 23)
  have HV := Lib.hid (dvalid_any (n : Int) v (cst es) _ (hg.pairs.below hb0) (by rw [cst_len]; have := hg.m_le; omega))
  rw [hg.ok] at HV
  have HG := Lib.hid hg
  have HWI : Hid (Ints w (.slice wo n wcap) ws) := ⟨_, _, by rw [hwl], hwi⟩
  have HL := Lib.hid hwl
  have HB := Lib.hid hno
  have HH := Lib.hid h
  clear hg hwi hno hwl hwb h
  refine calls_of_wp_marks Try.func12 rfl ?_
  simp only [Try.ntmps12, List.size_toArray, List.length_cons, List.length_nil, Nat.reduceAdd, Nat.reduceSub, Array.replicate_succ, Array.replicate_zero, List.push_toArray, List.append_toArray, List.nil_append, List.cons_append]
  go_wp2_with fail
  refine HV.out.mono ?_
  rintro e w1 ⟨rfl, hb⟩
  have hB1 := bstep hb0 hb
  have c5 : w1.cell? ⟨w.heap.size, 0, none⟩ = some (.slice wo n wcap) := (hb.cell (p := ⟨w.heap.size, 0, none⟩) (by simp)).trans (by rw [World.cell?_alloc_at _ _ _ _ rfl]; rfl)
  have HC1 : Hid (Calls Try.prog 37 #[.slice wo n wcap, .func (.func 42) #[] #[]] w1 fun e w' => e = .returned (.bool false) ∧ Below w1.heap.size w1 w') := by
    show Calls _ _ _ _ _
    have := anyInts_any _ _ badW _ ws w1 (HWI.out.below hB1) (by have := HL.out; omega) (badW_pred ws w1)
    rw [HB.out] at this
    exact this
  clear HV
  go_wp2_with fail
  refine HC1.out.mono ?_
  rintro e w2 ⟨rfl, hb2⟩
  have hB2 := bstep hB1 hb2
  have HO := Lib.hid (order_any n _ es w2 (HG.out.below hB2))
  clear HC1 c5
  go_wp2_with fail
  refine HO.out.mono ?_
  rintro e w3 ⟨h3, hb3⟩
  have HB3 := Lib.hid (bstep hB2 hb3)
  cases ho : orderOf n es with
  | none =>
    have HR := Lib.hid (show longRes n es ws = (0, [], 23) by unfold longRes; rw [if_neg (by have := HL.out; omega), if_neg (by rw [HB.out]; simp), ho])
    rw [ho] at h3
    simp only at h3
    subst h3
    clear ho
    go_wp2
    refine marks_ret3 rfl rfl ?_
    exact longTop_no HR.out HB3.out
  | some D =>
    have hn : n = 0 := by
      rcases HH.out with h | h
      · rw [ho] at h; cases h
      · exact h
    have HR := Lib.hid (show longRes n es ws = (0, [], 0) by unfold longRes; rw [if_neg (by have := HL.out; omega), if_neg (by rw [HB.out]; simp), ho]; simp [hn])
    rw [ho] at h3
    obtain ⟨u, rfl, hu⟩ := h3
    obtain ⟨uo, uc, rfl⟩ := hu.shape
    have hn0 : ((n : Int) == 0) = true := beq_yes (by omega)
    clear ho hu hn
    go_wp2
    refine marks_ret3 rfl rfl ?_
    exact longTop_no HR.out HB3.out

theorem longest_any (n : Nat) (v vw : Value) (es : List (Nat × Nat)) (ws : List Int) (w : World) (hg : Dg w n v es) (hw : Ints w vw ws) (hlw : ws.length ≤ 140737488355328) :
    Calls Try.prog 12 #[.int .i64 (n : Int), v, vw] w (LongTop w n es ws) := by
  by_cases h1 : ws.length = n
  · by_cases h2 : ws.any badW = true
    · exact longest_range n v vw es ws w hg hw h1 h2
    · have hb : ∀ x ∈ ws, 0 ≤ x ∧ x ≤ 1073741824 := fun x hx => by
        have h2' : ws.any badW = false := by simpa using h2
        have := List.any_eq_false.1 h2' x hx
        unfold badW at this
        simp at this
        omega
      have hL : LongSets w n v es vw ws := ⟨hg, hw, h1, hb⟩
      by_cases h3 : n = 0
      · exact longest_rest n v vw es ws w hL (.inr h3)
      · cases ho : orderOf n es with
        | none => exact longest_rest n v vw es ws w hL (.inl ho)
        | some D =>
          refine (longest_main n v vw es ws D w hL (by omega) ho).mono ?_
          rintro e w' ⟨u, rfl, h4, h5⟩
          have hr : longRes n es ws = ((longOf n es ws D).1, (longOf n es ws D).2, 0) := by
            unfold longRes
            rw [if_neg (by omega), if_neg h2, ho]
            simp [h3]
          refine ⟨u, ?_, ?_, h5⟩
          · rw [hr]
          · rw [hr]; exact h4
  · exact longest_size n v vw es ws w hg hw hlw h1
end Go.Proofs.Ythhhcaleoiopgaa
