/-
  Law DigraphPaths: the walk, whole.
-/
import Derived.Test.YthhhcaleoiopgaaDlQ
namespace Go.Proofs.Ythhhcaleoiopgaa
open Go.RowKit
set_option linter.unusedVariables false
attribute [local go_sem ↓] Go.wp_at_zero Go.wp_at_succ

set_option maxRecDepth 100000 in
set_option maxHeartbeats 4000000 in
theorem pathsZero_walk (w : World) (v vw vp : Value) (p : List Int) (a b m : Int) (hg : Dg w 0 v []) (hw : Ints w vw []) (hq : Ints w vp p) (hpl : p.length ≤ 20) :
    Calls Try.prog 4 #[.int .i64 0, v, vw, vp, .int .u8 a, .int .u8 b, .int .u16 m] w fun e w' => e = .returned (.bool true) ∧ Below w.heap.size w w' := by
  have HG := Lib.hid hg
  have HW := Lib.hid hw
  have HQ := Lib.hid hq
  obtain ⟨ao, cap, rfl, _⟩ := hg.pairs.open_
  obtain ⟨wo, wcap, rfl, _⟩ := hw
  obtain ⟨po, pc, rfl, _⟩ := hq
  simp only [List.length_nil] at HG HW ⊢
  have HB := Lib.hid (W3b_below w 0 (.slice ao 0 cap) (.slice wo 0 wcap))
  have HC := Lib.hid (fun (W : World) (hW : Below (w.heap.size + 3) (W3b w 0 (.slice ao 0 cap) (.slice wo 0 wcap)) W) => W3b_cells hW)
  have HA := Lib.hid (awake_any (W3b w 0 (.slice ao 0 cap) (.slice wo 0 wcap)))
  obtain ⟨W0, hW0⟩ : ∃ W0, W3b w 0 (.slice ao 0 cap) (.slice wo 0 wcap) = W0 := ⟨_, rfl⟩
  have hs0 := W3b_size w 0 (.slice ao 0 cap) (.slice wo 0 wcap)
  rw [hW0] at HB HC HA hs0
  unfold W3b at hW0
  have HS0 := Lib.hid hs0
  have HL := Lib.hid (show larg 0 0 = false by decide)
  have n2 : (p.length : Int) ≤ 20 := by omega
  have HLG : Hid (∀ W, Below w.heap.size w W → Calls Try.prog 12 #[.int .i64 0, .slice ao 0 cap, .slice wo 0 wcap] W fun e w' => ∃ qo qc, e = .returned (.tuple #[.int .i64 0, .slice qo 0 qc, .int .i64 0]) ∧ Below W.heap.size W w') := by
    intro W hW
    refine (longest_any 0 _ _ [] [] W (HG.out.below hW) (HW.out.below hW) (by simp)).mono ?_
    intro e w' h
    unfold LongTop at h
    rw [show longRes 0 [] [] = (0, [], 0) by decide] at h
    obtain ⟨q, rfl, hq, hb⟩ := h
    obtain ⟨qo, qc, rfl⟩ := hq.shape
    exact ⟨qo, qc, rfl, hb⟩
  have HWG : Hid (∀ (u : Value) (l : List Int) (W : World), Below (w.heap.size + 3) W0 W → Ints W u l → l.length ≤ 1000 → Calls Try.prog 18 #[u, .pointer (some ⟨w.heap.size, 0, none⟩), .pointer (some ⟨w.heap.size + 1 + 1, 0, none⟩), .pointer (some ⟨w.heap.size + 1, 0, none⟩)] W fun e w' => ∃ ok, e = .returned (.tuple #[.int .i64 0, .bool ok]) ∧ (l = [] → ok = true) ∧ Below W.heap.size W w') := by
    intro u l W hW hu hl
    obtain ⟨c7, c8, c9⟩ := HC.out W hW
    have hB := HB.out.trans (hW.mono (by omega))
    have hsz := hW.size
    rw [HS0.out] at hsz
    refine (weigh_any _ _ _ 0 _ _ u [] [] l W c7 c9 c8 (by omega) (by omega) (by omega) (HG.out.below hB).pairs (by simp) (HW.out.below hB) (by simp) (by omega) (by simp) hu hl).mono ?_
    intro e w' h
    obtain ⟨⟨hp, rfl⟩ | ⟨hp, rfl⟩, hb⟩ := h
    · have h0 : l = [] := by
        cases l with
        | nil => rfl
        | cons x l =>
          have := hp 0 x rfl
          omega
      subst h0
      exact ⟨true, rfl, fun _ => rfl, hb⟩
    · exact ⟨false, rfl, fun h => by subst h; exact absurd (fun i x hx => by simp at hx) hp, hb⟩
  clear hs0 hg hpl
  go_enter Try.func4, Try.ntmps4
  go_wp2_with fail
  refine HA.out.mono ?_
  rintro e w1 ⟨rfl, hb1⟩
  rw [HS0.out] at hb1
  obtain ⟨c7, c8, c9⟩ := HC.out w1 hb1
  have hB1 := Lib.hid (HB.out.trans (hb1.mono (by omega)))
  have H1 := Lib.hid hb1
  go_wp2_with fail
  refine (large_any 0 _ 0 _ (by omega) ⟨_, _, rfl⟩).mono ?_
  rw [HL.out]
  rintro e w2 ⟨rfl, rfl⟩
  clear hb1
  go_wp2_with fail
  refine (HLG.out _ hB1.out).mono ?_
  rintro e w3 ⟨qo, qc, rfl, hb3⟩
  have hB3 := Lib.hid (bstep hB1.out hb3)
  have H3 := Lib.hid (H1.out.trans (hb3.mono (by have := H1.out.size; rw [HS0.out] at this; omega)))
  clear hb3 c7 c8 c9
  obtain ⟨c7, c8, c9⟩ := HC.out w3 H3.out
  have HW1 := Lib.hid (HWG.out (.slice qo 0 qc) [] w3 H3.out (Sl.nil _ _ _ _) (by simp))
  go_wp2_with fail
  refine HW1.out.mono ?_
  rintro e w4 ⟨ok, rfl, hok, hb4⟩
  have hok2 : ok = true := by first | exact hok trivial | exact hok rfl | exact hok
  subst hok2
  have hB4 := Lib.hid (bstep hB3.out hb4)
  have H4 := Lib.hid (H3.out.trans (hb4.mono (by have := H3.out.size; rw [HS0.out] at this; omega)))
  clear hb4 hok c7 c8 c9
  obtain ⟨c7, c8, c9⟩ := HC.out w4 H4.out
  have HW2 := Lib.hid (HWG.out (.slice po p.length pc) p w4 H4.out (HQ.out.below hB4.out) (by omega))
  go_wp2_with fail
  refine HW2.out.mono ?_
  rintro e w5 ⟨ok, rfl, _, hb5⟩
  have hB5 := Lib.hid (bstep hB4.out hb5)
  have H5 := Lib.hid (H4.out.trans (hb5.mono (by have := H4.out.size; rw [HS0.out] at this; omega)))
  clear hb5 c7 c8 c9
  obtain ⟨c7, c8, c9⟩ := HC.out w5 H5.out
  cases ok
  all_goals
    go_wp2
    go_ret
    exact ⟨by first | rfl | (simp; done), hB5.out⟩

theorem digraphPaths_walk (w : World) (n : Int) (wn : (Lit.int .i64 n).wf = true) (v : Value) (l : List (Int × Int)) (hp : Pairs w v l) (bl : l.length * 16 ≤ 140737488351232) (vw : Value) (ws : List Int) (hw : Sl w (fun x : Int => .int .i64 x) vw ws) (bw : ws.length * 8 ≤ 140737488351232) (ww : ∀ x ∈ ws, (Lit.int .i64 x).wf = true)
    (vp : Value) (p : List Int) (hq : Sl w (fun x : Int => .int .i64 x) vp p) (bq : p.length * 8 ≤ 140737488351232) (wq : ∀ x ∈ p, (Lit.int .i64 x).wf = true) (a : Int) (wa : (Lit.int .u8 a).wf = true) (b : Int) (wb : (Lit.int .u8 b).wf = true) (m : Int) (wm : (Lit.int .u16 m).wf = true) :
    Calls Try.prog 4 #[.int .i64 n, v, vw, vp, .int .u8 a, .int .u8 b, .int .u16 m] w fun e w' => e = .returned (.bool true) ∧ Below w.heap.size w w' := by
  by_cases hout : larg n l.length = true ∨ 100 < ws.length ∨ 20 < p.length
  · exact pathsOut_walk w n v vw vp l ws p a b m hp bl hw hq bw bq hout
  · have hlg : larg n l.length = false := by
      cases h : larg n l.length
      · rfl
      · exact absurd (.inl h) hout
    have h1 : ws.length ≤ 100 := by omega
    have h2 : p.length ≤ 20 := by omega
    have hbl : l.length ≤ 140737488355328 := by omega
    clear hout
    cases hv : vldD n l
    · have hp' := hp
      have hw' := hw
      obtain ⟨ao, cap, rfl, _⟩ := hp
      obtain ⟨wo, wc, rfl, _⟩ := hw
      obtain ⟨po, pc, rfl, _⟩ := hq
      refine pathsErr_walk w n ao wo po _ cap _ wc _ pc a b m 1 hbl hlg h1 h2 (by decide) fun W hW => ?_
      refine (longest_bad n _ _ _ _ l W (hp'.below hW) hbl hv).mono ?_
      rintro e w' ⟨rfl, hb⟩
      exact ⟨none, 0, rfl, hb⟩
    · obtain ⟨N, es, rfl, rfl, hg⟩ := dg_of hp hv
      rw [cst_len] at hlg
      rcases long_cases N es ws with ⟨h0, h⟩ | ⟨_, hwl, hwb, ⟨ho, h⟩ | ⟨D, hD, h⟩⟩
      · have hp' := hp
        have hw' := hw
        obtain ⟨ao, cap, rfl, _⟩ := hg.pairs.open_
        obtain ⟨wo, wc, rfl, _⟩ := hw
        obtain ⟨po, pc, rfl, _⟩ := hq
        refine pathsErr_walk w N ao wo po _ cap _ wc _ pc a b m (weightsRes N ws) (by rw [cst_len] at hbl; exact hbl) hlg h1 h2 h0 fun W hW => ?_
        refine (longest_any N _ _ es ws W (hg.below hW) (Sl.below hw' hW) (by omega)).mono ?_
        intro e w' hl
        unfold LongTop at hl
        rw [h] at hl
        obtain ⟨q, rfl, hq, hb⟩ := hl
        obtain ⟨qo, qc, rfl⟩ := hq.shape
        exact ⟨qo, qc, rfl, hb⟩
      · have hw' := hw
        obtain ⟨ao, cap, rfl, _⟩ := hg.pairs.open_
        obtain ⟨wo, wc, rfl, _⟩ := hw
        obtain ⟨po, pc, rfl, _⟩ := hq
        refine pathsErr_walk w N ao wo po _ cap _ wc _ pc a b m 23 (by rw [cst_len] at hbl; exact hbl) hlg h1 h2 (by decide) fun W hW => ?_
        refine (longest_any N _ _ es ws W (hg.below hW) (Sl.below hw' hW) (by omega)).mono ?_
        intro e w' hl
        unfold LongTop at hl
        rw [h] at hl
        obtain ⟨q, rfl, hq, hb⟩ := hl
        obtain ⟨qo, qc, rfl⟩ := hq.shape
        exact ⟨qo, qc, rfl, hb⟩
      · by_cases hn : N = 0
        · subst hn
          have h0 : es = [] := by
            cases es with
            | nil => rfl
            | cons e es => have := hg.ends 0 e rfl; omega
          subst h0
          have h3 : ws = [] := List.eq_nil_of_length_eq_zero hwl
          subst h3
          exact pathsZero_walk w v vw vp p a b m hg hw hq h2
        · obtain ⟨a0, a1⟩ := u8_bd wa
          obtain ⟨b0, b1⟩ := u8_bd wb
          obtain ⟨m0, m1⟩ := u16_bd wm
          obtain ⟨a, rfl⟩ := Int.eq_ofNat_of_zero_le a0
          obtain ⟨b, rfl⟩ := Int.eq_ofNat_of_zero_le b0
          obtain ⟨m, rfl⟩ := Int.eq_ofNat_of_zero_le m0
          have hm60 : es.length ≤ 60 := by
            have := hg.m_le
            unfold larg at hlg
            simp at hlg
            omega
          exact pathsMain_walk w N v vw vp es ws p D a b m ⟨hg, hw, hwl, hwb, hq, h2, hD, hm60⟩ (by omega) (by omega) (by omega) (by omega) hlg
end Go.Proofs.Ythhhcaleoiopgaa
