/-
  Law GraphCycles: the walk.
-/
import Derived.Test.YtcaeemcobgopmaaLwP
import Derived.Test.YtcaeemcobgopmaaRfF
import Derived.Test.YtcaeemcobgopmaaRfG
namespace Go.Proofs.Ytcaeemcobgopmaa
open Go.RowKit
set_option linter.unusedVariables false

theorem cycRow_len {n : Nat} {ns : List (Nat × Nat)} (he : Ends n ns) (i : Nat) (hi : i ∈ otherOf ns) : (cycRow ns n i).length ≤ n + 1 := by
  have hil := otherOf_lt hi
  have hends := he i _ (List.getElem?_eq_getElem hil)
  unfold cycRow
  have hg : ns.getD i (0, 0) = ns[i] := by simp [List.getD, hil]
  rw [hg, List.length_cons]
  have := wayTo_len (U := inFb ns) hends.1 he (ns[i]).2
  omega
theorem cyclesOf_rows {n : Nat} {ns : List (Nat × Nat)} (he : Ends n ns) : (cyclesOf n ns).length ≤ ns.length ∧ ∀ r ∈ cyclesOf n ns, r.length ≤ n + 1 := by
  unfold cyclesOf
  refine ⟨by rw [List.length_map]; exact otherOf_len ns, fun r hr => ?_⟩
  obtain ⟨i, hi, rfl⟩ := List.mem_map.1 hr
  exact cycRow_len he i hi
theorem cyclesOf_len (n : Nat) (ns : List (Nat × Nat)) : (cyclesOf n ns).length = (otherOf ns).length := by simp [cyclesOf]

set_option maxRecDepth 100000 in
set_option maxHeartbeats 4000000 in
theorem cyclesBig_walk (w : World) (n : Int) (v vl : Value) (l : List (Int × Int)) (L : List Int) (hp : Pairs w v l) (hl : Ints w vl L) (hbl : l.length ≤ 140737488355328) (hbL : L.length ≤ 140737488355328) (hr : larg n l.length = true ∨ 60 < L.length) :
    Calls Try.prog 6 #[.int .i64 n, v, vl] w fun e w' => e = .returned (.bool true) ∧ Below w.heap.size w w' := by
  obtain ⟨ao, cap, rfl, _⟩ := hp
  obtain ⟨lo, lcap, rfl, _⟩ := hl
  cases hlg : larg n l.length
  · have HL := Lib.hid hlg
    have h60 : 60 < L.length := by
      rcases hr with h | h
      · rw [hlg] at h; cases h
      · exact h
    clear hr hlg
    go_enter Try.func6, Try.ntmps6
    go_wp2_with fail
    refine (awake_any _).mono ?_
    rintro e w1 ⟨rfl, hB1⟩
    go_wp2_with fail
    refine (large_any n _ l.length _ hbl ⟨_, _, rfl⟩).mono ?_
    rw [HL.out]
    rintro e w2 ⟨rfl, rfl⟩
    go_wp2
    go_ret
    exact ⟨rfl, hB1⟩
  · have HL := Lib.hid hlg
    clear hr hlg
    go_enter Try.func6, Try.ntmps6
    go_wp2_with fail
    refine (awake_any _).mono ?_
    rintro e w1 ⟨rfl, hB1⟩
    go_wp2_with fail
    refine (large_any n _ l.length _ hbl ⟨_, _, rfl⟩).mono ?_
    rw [HL.out]
    rintro e w2 ⟨rfl, rfl⟩
    go_wp2
    go_ret
    exact ⟨rfl, hB1⟩

set_option maxRecDepth 100000 in
set_option maxHeartbeats 4000000 in
theorem cyclesNo_walk (w : World) (n : Int) (v vl : Value) (l : List (Int × Int)) (L : List Int) (hp : Pairs w v l) (hl : Ints w vl L) (hbl : l.length ≤ 140737488355328) (hlg : larg n l.length = false) (h60 : L.length ≤ 60) (hv : vld n l = false) :
    Calls Try.prog 6 #[.int .i64 n, v, vl] w fun e w' => e = .returned (.bool true) ∧ Below w.heap.size w w' := by
  have HL := Lib.hid hlg
  have HV := Lib.hid hv
  have HP := Lib.hid hp
  have HLL := Lib.hid hl
  obtain ⟨ao, cap, rfl, _⟩ := hp
  obtain ⟨lo, lcap, rfl, _⟩ := hl
  clear hlg hv
  go_enter Try.func6, Try.ntmps6
  go_wp2_with fail
  refine (awake_any _).mono ?_
  rintro e w1 ⟨rfl, hB1⟩
  go_wp2_with fail
  refine (large_any n _ l.length _ hbl ⟨_, _, rfl⟩).mono ?_
  rw [HL.out]
  rintro e w2 ⟨rfl, rfl⟩
  go_wp2_with fail
  refine (cyclesNo_any n _ l _ (HP.out.below hB1) hbl HV.out).mono ?_
  rintro e w3 ⟨rfl, hb3⟩
  have hB3 := bstep hB1 hb3
  go_wp2_with fail
  refine (countNo_any n _ l _ (HP.out.below hB3) hbl HV.out).mono ?_
  rintro e w4 ⟨rfl, hb4⟩
  have hB4 := bstep hB3 hb4
  go_wp2_with fail
  refine (cycleNo_any n _ _ l _ (HP.out.below hB4) hbl HV.out).mono ?_
  rintro e w5 ⟨rfl, hb5⟩
  have hB5 := bstep hB4 hb5
  go_wp2_with fail
  refine (rvalid_any n _ l _ (HP.out.below hB5) hbl).mono ?_
  rw [HV.out]
  rintro e w6 ⟨rfl, hb6⟩
  have hB6 := bstep hB5 hb6
  go_wp2
  go_ret
  exact ⟨rfl, hB6⟩

set_option maxRecDepth 100000 in
set_option maxHeartbeats 4000000 in
theorem cyclesYes_walk (w : World) (N : Nat) (v vl : Value) (ns : List (Nat × Nat)) (L : List Int) (hg : Gr w N v ns) (hl : Ints w vl L) (hlg : larg N ns.length = false) (h60 : L.length ≤ 60) :
    Calls Try.prog 6 #[.int .i64 (N : Int), v, vl] w fun e w' => e = .returned (.bool true) ∧ Below w.heap.size w w' := by
  have hm := hg.m_le
  have hn := hg.n_le
  have HG := Lib.hid hg
  have HL := Lib.hid hlg
  have HLL := Lib.hid hl
  have HV := Lib.hid hg.ok
  have HCR := Lib.hid (cyclesOf_rows hg.ends)
  have HCL := Lib.hid (cyclesOf_len N ns)
  have hbl : (cst ns).length ≤ 140737488355328 := by rw [cst_len]; omega
  obtain ⟨ao, cap, rfl, _⟩ := hg.pairs.open_
  obtain ⟨lo, lcap, rfl, _⟩ := hl
  obtain ⟨c1, hc1⟩ : ∃ c, (cycV ns L).1 = c := ⟨_, rfl⟩
  obtain ⟨c2, hc2⟩ : ∃ c, (cycV ns L).2 = c := ⟨_, rfl⟩
  have HC1 := Lib.hid hc1
  have HC2 := Lib.hid hc2
  clear hlg hg hc1 hc2
  have e1 : (((otherOf ns).length : Int) != ((otherOf ns).length : Int)) = false := by simp
  go_enter Try.func6, Try.ntmps6
  go_wp2_with fail
  refine (awake_any _).mono ?_
  rintro e w1 ⟨rfl, hB1⟩
  go_wp2_with fail
  refine (large_any N _ ns.length _ (by omega) ⟨_, _, rfl⟩).mono ?_
  rw [HL.out]
  rintro e w2 ⟨rfl, rfl⟩
  go_wp2_with fail
  refine (cycles_ok N _ ns _ (HG.out.below hB1)).mono ?_
  rintro e w3 ⟨⟨V, rfl, hV⟩, hb3⟩
  have hB3 := bstep hB1 hb3
  have HV3 := Lib.hid hV.rows
  clear hV
  go_wp2_with fail
  refine (count_ok N _ ns _ (HG.out.below hB3)).mono ?_
  rintro e w4 ⟨rfl, hb4⟩
  have hB4 := bstep hB3 hb4
  have HV4 := Lib.hid (HV3.out.below hb4)
  clear HV3
  go_wp2_with fail
  refine (cycle_ok N _ _ ns L _ (HG.out.below hB4) (HLL.out.below hB4) (by omega)).mono ?_
  rw [HC1.out, HC2.out]
  rintro e w5 ⟨rfl, hb5⟩
  have hB5 := bstep hB4 hb5
  have HV5 := Lib.hid (HV4.out.below hb5)
  clear HV4
  go_wp2_with fail
  refine (rvalid_any N _ (cst ns) _ (HG.out.below hB5).pairs hbl).mono ?_
  rw [HV.out]
  rintro e w6 ⟨rfl, hb6⟩
  have hB6 := bstep hB5 hb6
  have HV6 := Lib.hid (HV5.out.below hb6)
  clear HV5
  go_wp2_with fail
  refine (rcycles_any N _ ns _ (HG.out.below hB6)).mono ?_
  rintro e w7 ⟨V7, rfl, hV7, hb7⟩
  have hB7 := bstep hB6 hb7
  have HV7 := Lib.hid (HV6.out.below hb7)
  have HR7 := Lib.hid hV7.rows
  obtain ⟨V7o, V7c, hvs, _⟩ := hV7.rows
  subst hvs
  rw [HCL.out]
  clear HV6 hV7
  rw [HCL.out] at HR7
  go_wp2_with fail
  refine (same_yes _ _ (cyclesOf N ns) _ HV7.out HR7.out (by have := HCR.out.1; omega) (fun r hr => by have := HCR.out.2 r hr; omega)).mono ?_
  rintro e w8 ⟨rfl, hb8⟩
  have hB8 := bstep hB7 hb8
  clear HV7 HR7
  go_wp2_with fail
  refine (rindices_any _ _ ns L _ (HG.out.below hB8).pairs hm (HLL.out.below hB8) (by omega)).mono ?_
  cases hin : inR ns.length L
  · have h1 : c1 = false := by rw [← HC1.out]; unfold cycV; rw [if_neg (by rw [hin]; simp)]
    have h2 : c2 = 2 := by rw [← HC2.out]; unfold cycV; rw [if_neg (by rw [hin]; simp)]
    subst h1 h2
    rintro e w9 ⟨rfl, rfl⟩
    go_wp2
    go_ret
    exact ⟨rfl, hB8⟩
  · have h1 : c1 = cycLs ns (L.map Int.toNat) := by rw [← HC1.out]; unfold cycV; rw [if_pos hin]
    have h2 : c2 = 0 := by rw [← HC2.out]; unfold cycV; rw [if_pos hin]
    subst h2
    obtain ⟨h3, h4⟩ := inR_nat hin
    have HN : Hid (Nats w (.slice lo L.length lcap) (L.map Int.toNat)) := by
      have := HLL.out
      rw [h3] at this
      have h5 : Nats w (.slice lo ((L.map Int.toNat).map (fun x : Nat => (x : Int))).length lcap) (L.map Int.toNat) := Sl.unmap (fun x : Nat => (x : Int)) this (fun _ => rfl)
      rw [← h3] at h5
      exact h5
    have H4 := Lib.hid h4
    have HC := Lib.hid h1
    have e2 : (c1 == c1) = true := by simp
    have hL60 : (L.map Int.toNat).length ≤ 1000000 := by simp; omega
    clear h1 h3 h4 hin
    rintro e w9 ⟨rfl, rfl⟩
    go_wp2_with fail
    refine (rcycle_any N _ _ ns (L.map Int.toNat) _ (HG.out.below hB8) (HN.out.below hB8) hL60 H4.out).mono ?_
    rw [← HC.out]
    rintro e w10 ⟨rfl, hb10⟩
    have hB10 := bstep hB8 hb10
    go_wp2
    go_ret
    exact ⟨rfl, hB10⟩

theorem graphCycles_walk (w : World) (n : Int) (wn : (Lit.int .i64 n).wf = true) (v : Value) (l : List (Int × Int)) (hp : Pairs w v l) (bl : l.length * 16 ≤ 140737488351232) (vl : Value) (L : List Int) (hl : Sl w (fun x : Int => .int .i64 x) vl L) (bL : L.length * 8 ≤ 140737488351232) (wL : ∀ x ∈ L, (Lit.int .i64 x).wf = true) :
    Calls Try.prog 6 #[.int .i64 n, v, vl] w fun e w' => e = .returned (.bool true) ∧ Below w.heap.size w w' := by
  by_cases hr : larg n l.length = true ∨ 60 < L.length
  · exact cyclesBig_walk w n v vl l L hp hl (by omega) (by omega) hr
  · have hlg : larg n l.length = false := by
      cases h : larg n l.length
      · rfl
      · exact absurd (.inl h) hr
    have h60 : L.length ≤ 60 := by
      rcases Nat.lt_or_ge 60 L.length with h | h
      · exact absurd (.inr h) hr
      · exact h
    cases hv : vld n l
    · exact cyclesNo_walk w n v vl l L hp hl (by omega) hlg h60 hv
    · obtain ⟨N, ns, rfl, rfl, hg⟩ := gr_of hp hv
      rw [cst_len] at hlg
      exact cyclesYes_walk w N v vl ns L hg hl hlg h60
end Go.Proofs.Ytcaeemcobgopmaa
