/-
  Law DigraphLongest: the walk.
-/
import Derived.Test.YthhhcaleoiopgaaDl0
import Derived.Test.YthhhcaleoiopgaaRdD
namespace Go.Proofs.Ythhhcaleoiopgaa
open Go.RowKit
set_option linter.unusedVariables false

theorem longWalk_len (n : Nat) (es : List (Nat × Nat)) (ws A : List Int) : ∀ (f x : Nat) (r : Int), (longWalk n es ws A f x r).length ≤ f := by
  intro f
  induction f with
  | zero => intro x r; exact Nat.le_refl _
  | succ f ih =>
    intro x r
    rw [longWalk]
    split
    · simp
    · split
      · next k _ => exact Nat.succ_le_succ (ih _ _)
      · simp
/-- What Longest answers, in cases. -/
theorem long_cases (n : Nat) (es : List (Nat × Nat)) (ws : List Int) :
    (weightsRes n ws ≠ 0 ∧ longRes n es ws = (0, [], weightsRes n ws)) ∨ (weightsRes n ws = 0 ∧ ws.length = n ∧ (∀ x ∈ ws, 0 ≤ x ∧ x ≤ 1073741824) ∧
      ((orderOf n es = none ∧ longRes n es ws = (0, [], 23)) ∨ ∃ D, orderOf n es = some D ∧ longRes n es ws = ((if n = 0 then 0 else (longOf n es ws D).1), (if n = 0 then [] else (longOf n es ws D).2), 0))) := by
  unfold weightsRes longRes
  by_cases h1 : ws.length ≠ n
  · rw [if_pos h1, if_pos h1]; exact .inl ⟨by decide, rfl⟩
  · rw [if_neg h1, if_neg h1]
    by_cases h2 : ws.any badW = true
    · rw [if_pos h2, if_pos h2]; exact .inl ⟨by decide, rfl⟩
    · rw [if_neg h2, if_neg h2]
      refine .inr ⟨rfl, by omega, fun x hx => ?_, ?_⟩
      · have h2' : ws.any badW = false := by simpa using h2
        have := List.any_eq_false.1 h2' x hx
        unfold badW at this
        simp at this
        omega
      · cases ho : orderOf n es with
        | none => exact .inl ⟨rfl, rfl⟩
        | some D =>
          refine .inr ⟨D, rfl, ?_⟩
          by_cases h0 : n = 0
          · simp [h0]
          · simp [h0]

set_option maxRecDepth 100000 in
set_option maxHeartbeats 4000000 in
theorem longestNo_walk (w : World) (n : Int) (v u : Value) (l : List (Int × Int)) (q : List Int) (hp : Pairs w v l) (bl : l.length * 16 ≤ 140737488351232) (hq : Ints w u q) (hlg : larg n l.length = false) (hq1 : q.length ≤ 100) (hv : vldD n l = false) :
    Calls Try.prog 3 #[.int .i64 n, v, u] w fun e w' => e = .returned (.bool true) ∧ Below w.heap.size w w' := by
  have HL := Lib.hid hlg
  have HV := Lib.hid hv
  have HP := Lib.hid hp
  obtain ⟨ao, cap, rfl, _⟩ := hp
  obtain ⟨uo, uc, rfl, _⟩ := hq
  have hbl : l.length ≤ 140737488355328 := by omega
  have hq2 : ((q.length : Int)) ≤ 100 := by omega
  clear hlg hv bl
  go_enter Try.func3, Try.ntmps3
  go_wp2_with fail
  refine (awake_any _).mono ?_
  rintro e w1 ⟨rfl, hB1⟩
  go_wp2_with fail
  refine (large_any n _ l.length _ hbl ⟨_, _, rfl⟩).mono ?_
  rw [HL.out]
  rintro e w2 ⟨rfl, rfl⟩
  go_wp2_with fail
  refine (longest_bad n _ _ _ _ l _ (HP.out.below hB1) hbl HV.out).mono ?_
  rintro e w3 ⟨rfl, hb3⟩
  have hB3 := bstep hB1 hb3
  go_wp2_with fail
  refine (rdvalid_any n _ l _ (HP.out.below hB3) hbl).mono ?_
  rw [HV.out]
  rintro e w5 ⟨rfl, rfl⟩
  go_wp2
  go_ret
  exact ⟨rfl, hB3⟩

set_option maxRecDepth 100000 in
set_option maxHeartbeats 4000000 in
theorem longestYes_walk (w : World) (n : Nat) (v u : Value) (es : List (Nat × Nat)) (q : List Int) (hg : Dg w n v es) (hq : Ints w u q) (hlg : larg n es.length = false) (hq1 : q.length ≤ 100) :
    Calls Try.prog 3 #[.int .i64 (n : Int), v, u] w fun e w' => e = .returned (.bool true) ∧ Below w.heap.size w w' := by
  have hm := hg.m_le
  have hn60 := hg.n_le
  have HG := Lib.hid hg
  have HV := Lib.hid hg.ok
  have HL := Lib.hid hlg
  have HQ := Lib.hid hq
  have hlc := long_cases n es q
  obtain ⟨ao, cap, rfl, _⟩ := hg.pairs.open_
  obtain ⟨uo, uc, rfl, _⟩ := hq
  have hcl : (cst es).length ≤ 140737488355328 := by rw [cst_len]; omega
  have hq2 : ((q.length : Int)) ≤ 100 := by omega
  have HLG := Lib.hid (fun W hW => longest_any n (.slice ao es.length cap) (.slice uo q.length uc) es q W ((HG.out).below hW) (HQ.out.below hW) (by omega))
  unfold LongTop at HLG
  have HWR := Lib.hid (fun W (hW : Below w.heap.size w W) => rweights_any n (.slice uo q.length uc) q W (HQ.out.below hW) (by omega) (by omega))
  clear hlg hg
  rcases hlc with ⟨hnz, hlr⟩ | ⟨hz, hql, hqb, ⟨ho, hlr⟩ | ⟨D, ho, hlr⟩⟩
  · rw [hlr] at HLG
    obtain ⟨nr, hnr⟩ : ∃ nr, weightsRes n q = nr := ⟨_, rfl⟩
    rw [hnr] at HLG HWR hnz
    have hne : (nr != 0) = true := bne_yes hnz
    have hee : (nr == nr) = true := by simp
    clear hlr hnr hnz
    go_enter Try.func3, Try.ntmps3
    go_wp2_with fail
    refine (awake_any _).mono ?_
    rintro e w1 ⟨rfl, hB1⟩
    go_wp2_with fail
    refine (large_any n _ es.length _ (by omega) ⟨_, _, rfl⟩).mono ?_
    rw [HL.out]
    rintro e w2 ⟨rfl, rfl⟩
    go_wp2_with fail
    refine (HLG.out _ hB1).mono ?_
    rintro e w3 ⟨p, rfl, hp3, hb3⟩
    obtain ⟨po, pc, rfl⟩ := hp3.shape
    have hB3 := bstep hB1 hb3
    clear hp3
    go_wp2_with fail
    refine (rdvalid_any n _ (cst es) _ (HG.out.below hB3).pairs hcl).mono ?_
    rw [HV.out]
    rintro e w5 ⟨rfl, rfl⟩
    go_wp2_with fail
    refine (HWR.out _ hB3).mono ?_
    rintro e w6 ⟨rfl, rfl⟩
    go_wp2_with fail
    refine (HWR.out _ hB3).mono ?_
    rintro e w6 ⟨rfl, rfl⟩
    go_wp2
    go_ret
    exact ⟨by first | rfl | simp, hB3⟩
  · rw [hlr] at HLG
    rw [hz] at HWR
    have HRO : Hid (∀ W, Below w.heap.size w W → Calls Try.prog 15 #[.int .i64 (n : Int), .slice ao es.length cap] W fun e w' => e = .returned (.tuple #[.slice none 0 0, .bool false]) ∧ Below W.heap.size W w') := by
      intro W hW
      have := rorder_any n _ es W (HG.out.below hW)
      unfold ROrderPost at this
      rw [ho] at this
      exact this
    clear hlr hz hql hqb ho
    go_enter Try.func3, Try.ntmps3
    go_wp2_with fail
    refine (awake_any _).mono ?_
    rintro e w1 ⟨rfl, hB1⟩
    go_wp2_with fail
    refine (large_any n _ es.length _ (by omega) ⟨_, _, rfl⟩).mono ?_
    rw [HL.out]
    rintro e w2 ⟨rfl, rfl⟩
    go_wp2_with fail
    refine (HLG.out _ hB1).mono ?_
    rintro e w3 ⟨p, rfl, hp3, hb3⟩
    obtain ⟨po, pc, rfl⟩ := hp3.shape
    have hB3 := bstep hB1 hb3
    clear hp3
    go_wp2_with fail
    refine (rdvalid_any n _ (cst es) _ (HG.out.below hB3).pairs hcl).mono ?_
    rw [HV.out]
    rintro e w5 ⟨rfl, rfl⟩
    go_wp2_with fail
    refine (HWR.out _ hB3).mono ?_
    rintro e w6 ⟨rfl, rfl⟩
    go_wp2_with fail
    refine (HRO.out _ hB3).mono ?_
    rintro e w7 ⟨rfl, hb7⟩
    have hB7 := bstep hB3 hb7
    go_wp2
    go_ret
    exact ⟨by first | rfl | simp, hB7⟩
  · rw [hlr] at HLG
    rw [hz] at HWR
    obtain ⟨x, hx⟩ : ∃ x, (if n = 0 then 0 else (longOf n es q D).1) = x := ⟨_, rfl⟩
    obtain ⟨P, hP⟩ : ∃ P, (if n = 0 then [] else (longOf n es q D).2) = P := ⟨_, rfl⟩
    have hPl : P.length ≤ 61 := by
      rw [← hP]
      split
      · simp
      · unfold longOf
        have := longWalk_len n es q (bestOf n es q D) n (idxOf (bestOf n es q D) (Lib.maxOf (bestOf n es q D))).toNat (Lib.maxOf (bestOf n es q D) - q.getD (idxOf (bestOf n es q D) (Lib.maxOf (bestOf n es q D))).toNat 0)
        simp only [List.length_cons]
        omega
    have HRO : Hid (∀ W, Below w.heap.size w W → Calls Try.prog 15 #[.int .i64 (n : Int), .slice ao es.length cap] W fun e w' => (∃ v, e = .returned (.tuple #[v, .bool true]) ∧ Own w' W.heap.size 3 natf v D) ∧ Below W.heap.size W w') := by
      intro W hW
      have := rorder_any n _ es W (HG.out.below hW)
      unfold ROrderPost at this
      rw [ho] at this
      exact this
    have HRL : Hid (∀ W, Below w.heap.size w W → Calls Try.prog 16 #[.int .i64 (n : Int), .slice ao es.length cap, .slice uo q.length uc] W fun e w' => ∃ v, e = .returned (.tuple #[.int .i64 x, v]) ∧ Own w' W.heap.size 3 natf v P ∧ Below W.heap.size W w') := by
      intro W hW
      have := rlongest_any n _ _ es q D W ⟨HG.out.below hW, HQ.out.below hW, hql, hqb⟩ ho
      unfold RLongPost at this
      rw [hx, hP] at this
      exact this
    rw [hx, hP] at HLG
    have HPL := Lib.hid hPl
    have hee : (x == x) = true := by simp
    clear hlr hz hql hqb ho hx hP hPl
    go_enter Try.func3, Try.ntmps3
    go_wp2_with fail
    refine (awake_any _).mono ?_
    rintro e w1 ⟨rfl, hB1⟩
    go_wp2_with fail
    refine (large_any n _ es.length _ (by omega) ⟨_, _, rfl⟩).mono ?_
    rw [HL.out]
    rintro e w2 ⟨rfl, rfl⟩
    go_wp2_with fail
    refine (HLG.out _ hB1).mono ?_
    rintro e w3 ⟨p, rfl, hp3, hb3⟩
    obtain ⟨po, pc, rfl⟩ := hp3.shape
    have hB3 := bstep hB1 hb3
    have N3 := Lib.hid hp3.sl
    clear hp3
    go_wp2_with fail
    refine (rdvalid_any n _ (cst es) _ (HG.out.below hB3).pairs hcl).mono ?_
    rw [HV.out]
    rintro e w5 ⟨rfl, rfl⟩
    go_wp2_with fail
    refine (HWR.out _ hB3).mono ?_
    rintro e w6 ⟨rfl, rfl⟩
    go_wp2_with fail
    refine (HRO.out _ hB3).mono ?_
    rintro e w7 ⟨⟨ov, rfl, hov⟩, hb7⟩
    obtain ⟨oo, oc, rfl⟩ := hov.shape
    have hB7 := bstep hB3 hb7
    have N7 := Lib.hid (N3.out.below hb7)
    clear hov N3
    go_wp2_with fail
    refine (HRL.out _ hB7).mono ?_
    rintro e w8 ⟨rv, rfl, hrv, hb8⟩
    obtain ⟨ro, rc, rfl⟩ := hrv.shape
    have hB8 := bstep hB7 hb8
    have N8 := Lib.hid (N7.out.below hb8)
    have M8 := Lib.hid hrv.sl
    clear hrv N7
    go_wp2_with fail
    refine (equalN_yes _ _ P P _ N8.out M8.out (by have := HPL.out; omega) rfl).mono ?_
    rintro e w9 ⟨rfl, hb9⟩
    have hB9 := bstep hB8 hb9
    go_wp2
    go_ret
    exact ⟨by first | rfl | simp, hB9⟩

set_option maxRecDepth 100000 in
set_option maxHeartbeats 4000000 in
theorem digraphLongest_walk (w : World) (n : Int) (wn : (Lit.int .i64 n).wf = true) (v : Value) (l : List (Int × Int)) (hp : Pairs w v l) (bl : l.length * 16 ≤ 140737488351232) (u : Value) (q : List Int) (hq : Sl w (fun x : Int => .int .i64 x) u q) (bq : q.length * 8 ≤ 140737488351232) (wq : ∀ x ∈ q, (Lit.int .i64 x).wf = true) :
    Calls Try.prog 3 #[.int .i64 n, v, u] w fun e w' => e = .returned (.bool true) ∧ Below w.heap.size w w' := by
  cases hlg : larg n l.length
  · by_cases hq1 : q.length ≤ 100
    · cases hv : vldD n l
      · exact longestNo_walk w n v u l q hp bl hq hlg hq1 hv
      · obtain ⟨N, ns, rfl, rfl, hg⟩ := dg_of hp hv
        rw [cst_len] at hlg
        exact longestYes_walk w N v u ns q hg hq hlg hq1
    · have HL := Lib.hid hlg
      obtain ⟨ao, cap, rfl, _⟩ := hp
      obtain ⟨uo, uc, rfl, _⟩ := hq
      have hbl : l.length ≤ 140737488355328 := by omega
      have hq2 : 100 < (q.length : Int) := by omega
      clear hlg bl wq
      go_enter Try.func3, Try.ntmps3
      go_wp2_with fail
      refine (awake_any _).mono ?_
      rintro e w1 ⟨rfl, hB1⟩
      go_wp2_with fail
      refine (large_any n _ l.length _ hbl ⟨_, _, rfl⟩).mono ?_
      rw [HL.out]
      rintro e w2 ⟨rfl, rfl⟩
      go_wp2
      go_ret
      exact ⟨rfl, hB1⟩
  · have HL := Lib.hid hlg
    obtain ⟨ao, cap, rfl, _⟩ := hp
    obtain ⟨uo, uc, rfl, _⟩ := hq
    have hbl : l.length ≤ 140737488355328 := by omega
    clear hlg bl wq
    go_enter Try.func3, Try.ntmps3
    go_wp2_with fail
    refine (awake_any _).mono ?_
    rintro e w1 ⟨rfl, hB1⟩
    go_wp2_with fail
    refine (large_any n _ l.length _ hbl ⟨_, _, rfl⟩).mono ?_
    rw [HL.out]
    rintro e w2 ⟨rfl, rfl⟩
    go_wp2
    go_ret
    exact ⟨rfl, hB1⟩
end Go.Proofs.Ythhhcaleoiopgaa
