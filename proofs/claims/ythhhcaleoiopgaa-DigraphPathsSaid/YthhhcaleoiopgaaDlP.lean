/-
  Law DigraphPaths: the walk.
-/
import Derived.Test.YthhhcaleoiopgaaPaM
import Derived.Deep.AppendLies
namespace Go.Proofs.Ythhhcaleoiopgaa
open Go.RowKit
set_option linter.unusedVariables false
attribute [local go_sem ↓] Go.wp_at_zero Go.wp_at_succ

theorem u8_bd {a : Int} (h : (Lit.int .u8 a).wf = true) : 0 ≤ a ∧ a ≤ 255 := by simpa [Lit.wf, IntKind.min, IntKind.max, IntKind.signed, IntKind.bits] using h
theorem u16_bd {a : Int} (h : (Lit.int .u16 a).wf = true) : 0 ≤ a ∧ a ≤ 65535 := by simpa [Lit.wf, IntKind.min, IntKind.max, IntKind.signed, IntKind.bits] using h

def W3b (w : World) (n : Int) (v vw : Value) : World := ((w.alloc (.cells #[.int .i64 n] 3)).alloc (.cells #[v] 22)).alloc (.cells #[vw] 23)
theorem W3b_size (w : World) (n : Int) (v vw : Value) : (W3b w n v vw).heap.size = w.heap.size + 3 := by simp [W3b]
theorem W3b_below (w : World) (n : Int) (v vw : Value) : Below w.heap.size w (W3b w n v vw) := ((below_new w _).alloc (by simp) _).alloc (by simp; omega) _
theorem W3b_cells {w W : World} {n : Int} {so : Option Addr} {sl sc : Nat} {wo : Option Addr} {wl wc : Nat} (h : Below (w.heap.size + 3) (W3b w n (.slice so sl sc) (.slice wo wl wc)) W) : W.cell? ⟨w.heap.size, 0, none⟩ = some (.int .i64 n) ∧ W.cell? ⟨w.heap.size + 1, 0, none⟩ = some (.slice so sl sc) ∧ W.cell? ⟨w.heap.size + 1 + 1, 0, none⟩ = some (.slice wo wl wc) := by
  refine ⟨(h.cell (p := ⟨w.heap.size, 0, none⟩) (by simp)).trans ?_, (h.cell (p := ⟨w.heap.size + 1, 0, none⟩) (by simp)).trans ?_, (h.cell (p := ⟨w.heap.size + 1 + 1, 0, none⟩) (by simp)).trans ?_⟩
  · unfold W3b
    rw [World.cell?_alloc_lt _ _ _ (by simp; omega), World.cell?_alloc_lt _ _ _ (by simp), World.cell?_alloc_at _ _ _ _ rfl]; rfl
  · unfold W3b
    rw [World.cell?_alloc_lt _ _ _ (by simp), World.cell?_alloc_at _ _ _ _ (by simp)]; rfl
  · unfold W3b
    rw [World.cell?_alloc_at _ _ _ _ (by simp)]; rfl

set_option maxRecDepth 100000 in
set_option maxHeartbeats 4000000 in
theorem pathsOut_walk (w : World) (n : Int) (v vw vp : Value) (l : List (Int × Int)) (ws p : List Int) (a b m : Int) (hp : Pairs w v l) (bl : l.length * 16 ≤ 140737488351232) (hw : Ints w vw ws) (hq : Ints w vp p) (bw : ws.length * 8 ≤ 140737488351232) (bq : p.length * 8 ≤ 140737488351232)
    (h : larg n l.length = true ∨ 100 < ws.length ∨ 20 < p.length) :
    Calls Try.prog 4 #[.int .i64 n, v, vw, vp, .int .u8 a, .int .u8 b, .int .u16 m] w fun e w' => e = .returned (.bool true) ∧ Below w.heap.size w w' := by
  obtain ⟨ao, cap, rfl, _⟩ := hp
  obtain ⟨wo, wc, rfl, _⟩ := hw
  obtain ⟨po, pc, rfl, _⟩ := hq
  have hbl : l.length ≤ 140737488355328 := by omega
  have HB := Lib.hid (W3b_below w n (.slice ao l.length cap) (.slice wo ws.length wc))
  have HC := Lib.hid (fun (W : World) (hW : Below (w.heap.size + 3) (W3b w n (.slice ao l.length cap) (.slice wo ws.length wc)) W) => W3b_cells hW)
  have HA := Lib.hid (awake_any (W3b w n (.slice ao l.length cap) (.slice wo ws.length wc)))
  obtain ⟨W0, hW0⟩ : ∃ W0, W3b w n (.slice ao l.length cap) (.slice wo ws.length wc) = W0 := ⟨_, rfl⟩
  have hs0 := W3b_size w n (.slice ao l.length cap) (.slice wo ws.length wc)
  rw [hW0] at HB HC HA hs0
  unfold W3b at hW0
  have HS0 := Lib.hid hs0
  obtain ⟨lg, hlg⟩ : ∃ lg, larg n l.length = lg := ⟨_, rfl⟩
  rw [hlg] at h
  have HL := Lib.hid hlg
  have n1 : (100 : Int) < (ws.length : Int) ∨ (ws.length : Int) ≤ 100 := by omega
  have n2 : (20 : Int) < (p.length : Int) ∨ (p.length : Int) ≤ 20 := by omega
  clear bl hs0 hlg bw bq
  cases lg
  · rcases n1 with n1 | n1
    · clear h n2
      go_enter Try.func4, Try.ntmps4
      go_wp2_with fail
      refine HA.out.mono ?_
      rintro e w1 ⟨rfl, hb1⟩
      rw [HS0.out] at hb1
      obtain ⟨c7, c8, c9⟩ := HC.out w1 hb1
      have hB1 := Lib.hid (HB.out.trans (hb1.mono (by omega)))
      go_wp2_with fail
      refine (large_any n _ l.length _ hbl ⟨_, _, rfl⟩).mono ?_
      rw [HL.out]
      rintro e w2 ⟨rfl, rfl⟩
      go_wp2
      go_ret
      exact ⟨rfl, hB1.out⟩
    · rcases n2 with n2 | n2
      · clear h
        go_enter Try.func4, Try.ntmps4
        go_wp2_with fail
        refine HA.out.mono ?_
        rintro e w1 ⟨rfl, hb1⟩
        rw [HS0.out] at hb1
        obtain ⟨c7, c8, c9⟩ := HC.out w1 hb1
        have hB1 := Lib.hid (HB.out.trans (hb1.mono (by omega)))
        go_wp2_with fail
        refine (large_any n _ l.length _ hbl ⟨_, _, rfl⟩).mono ?_
        rw [HL.out]
        rintro e w2 ⟨rfl, rfl⟩
        go_wp2
        go_ret
        exact ⟨rfl, hB1.out⟩
      · exfalso
        rcases h with h | h | h
        · cases h
        · omega
        · omega
  · clear h n1 n2
    go_enter Try.func4, Try.ntmps4
    go_wp2_with fail
    refine HA.out.mono ?_
    rintro e w1 ⟨rfl, hb1⟩
    rw [HS0.out] at hb1
    obtain ⟨c7, c8, c9⟩ := HC.out w1 hb1
    have hB1 := Lib.hid (HB.out.trans (hb1.mono (by omega)))
    go_wp2_with fail
    refine (large_any n _ l.length _ hbl ⟨_, _, rfl⟩).mono ?_
    rw [HL.out]
    rintro e w2 ⟨rfl, rfl⟩
    go_wp2
    go_ret
    exact ⟨rfl, hB1.out⟩

set_option maxRecDepth 100000 in
set_option maxHeartbeats 4000000 in
theorem pathsErr_walk (w : World) (n : Int) (ao wo po : Option Addr) (al cap wl wc pl pc : Nat) (a b m k : Int) (hbl : al ≤ 140737488355328) (hlg : larg n al = false) (hwl : wl ≤ 100) (hpl : pl ≤ 20) (hk : k ≠ 0)
    (HLG : ∀ W, Below w.heap.size w W → Calls Try.prog 12 #[.int .i64 n, .slice ao al cap, .slice wo wl wc] W fun e w' => ∃ qo qc, e = .returned (.tuple #[.int .i64 0, .slice qo 0 qc, .int .i64 k]) ∧ Below W.heap.size W w') :
    Calls Try.prog 4 #[.int .i64 n, .slice ao al cap, .slice wo wl wc, .slice po pl pc, .int .u8 a, .int .u8 b, .int .u16 m] w fun e w' => e = .returned (.bool true) ∧ Below w.heap.size w w' := by
  have HB := Lib.hid (W3b_below w n (.slice ao al cap) (.slice wo wl wc))
  have HC := Lib.hid (fun (W : World) (hW : Below (w.heap.size + 3) (W3b w n (.slice ao al cap) (.slice wo wl wc)) W) => W3b_cells hW)
  have HA := Lib.hid (awake_any (W3b w n (.slice ao al cap) (.slice wo wl wc)))
  obtain ⟨W0, hW0⟩ : ∃ W0, W3b w n (.slice ao al cap) (.slice wo wl wc) = W0 := ⟨_, rfl⟩
  have hs0 := W3b_size w n (.slice ao al cap) (.slice wo wl wc)
  rw [hW0] at HB HC HA hs0
  unfold W3b at hW0
  have HS0 := Lib.hid hs0
  have HL := Lib.hid hlg
  have HG := Lib.hid HLG
  have n1 : (wl : Int) ≤ 100 := by omega
  have n2 : (pl : Int) ≤ 20 := by omega
  have hkn : (k != 0) = true := bne_yes hk
  clear hs0 hlg HLG hk
  go_enter Try.func4, Try.ntmps4
  go_wp2_with fail
  refine HA.out.mono ?_
  rintro e w1 ⟨rfl, hb1⟩
  rw [HS0.out] at hb1
  obtain ⟨c7, c8, c9⟩ := HC.out w1 hb1
  have hB1 := Lib.hid (HB.out.trans (hb1.mono (by omega)))
  go_wp2_with fail
  refine (large_any n _ al _ hbl ⟨_, _, rfl⟩).mono ?_
  rw [HL.out]
  rintro e w2 ⟨rfl, rfl⟩
  go_wp2_with fail
  refine (HG.out _ hB1.out).mono ?_
  rintro e w3 ⟨qo, qc, rfl, hb3⟩
  have hB3 := Lib.hid (bstep hB1.out hb3)
  go_wp2
  go_ret
  exact ⟨rfl, hB3.out⟩
end Go.Proofs.Ythhhcaleoiopgaa
