/-
  Equality of boxes, findings, and runs; slices.Equal at boxes and at findings (written by wip/gen_EqS.py).
-/
import Derived.Test.YtpidjgljeooblaaLgs
import Derived.Test.YtpidjgljeooblaaBal
import Derived.Test.YtpidjgljeooblaaQbl
namespace Go.Proofs.Ytpidjgljeooblaa
open Go.RowKit
set_option linter.unusedVariables false
set_option linter.unusedSimpArgs false

set_option maxHeartbeats 1000000 in
theorem run_eq_bx (a b : Bx) (W : World) : (Op.equalIn 10000 33 (bxv a) (bxv b)).run Try.prog W = .ok (decide (a = b)) W := by
  obtain ⟨⟨a1, a2, a3⟩, a4, a5, a6⟩ := a
  obtain ⟨⟨b1, b2, b3⟩, b4, b5, b6⟩ := b
  simp only [Bx.mk.injEq, Pt.mk.injEq]
  by_cases h0 : a1 = b1
  · skip
    by_cases h1 : a2 = b2
    · skip
      by_cases h2 : a3 = b3
      · skip
        by_cases h3 : a4 = b4
        · skip
          by_cases h4 : a5 = b5
          · skip
            by_cases h5 : a6 = b6
            · skip
              go_simp
            · go_simp
          · go_simp
        · go_simp
      · go_simp
    · go_simp
  · go_simp

set_option maxHeartbeats 1000000 in
theorem run_eq_fd (a b : Int × ByteArray) (W : World) : (Op.equalIn 10000 50 (.agg #[.int .i64 a.1, .string a.2]) (.agg #[.int .i64 b.1, .string b.2])).run Try.prog W = .ok (decide (a = b)) W := by
  obtain ⟨a1, a2⟩ := a
  obtain ⟨b1, b2⟩ := b
  simp only [Prod.mk.injEq]
  have hq := bytes_beq a2 b2
  by_cases h1 : a1 = b1
  · by_cases h2 : a2 = b2
    · have hq2 : (a2.toList == b2.toList) = true := hq.trans (dec_yes h2)
      clear hq
      go_simp
    · have hq2 : (a2.toList == b2.toList) = false := hq.trans (dec_no h2)
      clear hq
      go_simp
  · clear hq
    go_simp


theorem fds_get {w : World} {ao : Option Addr} {len cap k : Nat} {l : List (Int × ByteArray)} {p : Int × ByteArray} (h : Fl 2 finCells w (.slice ao len cap) l) (hk : l[k]? = some p) :
    ∃ b off, ao = some ⟨b, off, none⟩ ∧ b < w.heap.size ∧ w.cell? ⟨b, off + k * 2, none⟩ = some (.int .i64 p.1) ∧ w.cell? ⟨b, off + k * 2 + 1, none⟩ = some (.string p.2) := by
  obtain ⟨b, off, rfl, hlt, hc⟩ := h.get hk
  exact ⟨b, off, rfl, hlt, hc 0 _ rfl, hc 1 _ rfl⟩
theorem list_ne {α : Type} {la lb : List α} {k : Nat} {x y : α} (h1 : la[k]? = some x) (h2 : lb[k]? = some y) (h : x ≠ y) : la ≠ lb := fun e => by
  subst e
  rw [h1] at h2
  exact h (Option.some.inj h2)
theorem list_eq {α : Type} {la lb : List α} (hl : la.length = lb.length) (h : ∀ j, j < la.length → la[j]? = lb[j]?) : la = lb := by
  apply List.ext_getElem?
  intro j
  rcases Nat.lt_or_ge j la.length with h1 | h1
  · exact h j h1
  · rw [List.getElem?_eq_none h1, List.getElem?_eq_none (by omega)]

set_option maxHeartbeats 2000000 in
theorem eqBx_any (va vb : Value) (la lb : List (Bx)) (w : World) (ha : Bxs w va la) (hb : Bxs w vb lb) (hla : la.length ≤ 140737488355328) (hlb : lb.length ≤ 140737488355328) :
    Calls Try.prog 16 #[va, vb] w fun e w' => e = .returned (.bool (decide (la = lb))) ∧ Below w.heap.size w w' := by
  obtain ⟨ao, acap, rfl⟩ := ha.at_
  obtain ⟨bo, bcap, rfl⟩ := hb.at_
  have HA := Lib.hid ha
  have HB := Lib.hid hb
  clear ha hb
  by_cases hlen : la.length = lb.length
  · have hne : ((la.length : Int) != (lb.length : Int)) = false := bne_no (by omega)
    have HL := Lib.hid hlen
    obtain ⟨ok, hok⟩ : ∃ ok, decide (la = lb) = ok := ⟨_, rfl⟩
    have HO := Lib.hid hok
    rw [hok]
    clear hlen hok
    go_enter Try.func16, Try.ntmps16
    go_wp2_with fail
    go_loopw [13] (fun i wr => ∃ k : Nat, k ≤ la.length ∧ i = .int .i64 k ∧ Below w.heap.size w wr ∧ Hid (∀ j, j < k → la[j]? = lb[j]?)) (fun i _ => la.length - (intOf i).toNat)
    case atStart => exact ⟨0, Nat.zero_le _, rfl, Below.refl _ _, fun j hj => by omega⟩
    case round =>
      obtain ⟨k, hk, rfl, hBr, hsame⟩ := hrel
      by_cases hk2 : k < la.length
      · have hkb : k < lb.length := by rw [← HL.out]; exact hk2
        obtain ⟨x, hx⟩ : ∃ y, la[k]? = some y := ⟨_, List.getElem?_eq_getElem hk2⟩
        obtain ⟨y, hy⟩ : ∃ y, lb[k]? = some y := ⟨_, List.getElem?_eq_getElem hkb⟩
        obtain ⟨b, off, rfl, hbl, a0, a1, a2, a3, a4, a5⟩ := bxs_get (HA.out.below hBr) hx
        obtain ⟨b', off', rfl, hbl', b0, b1, b2, b3, b4, b5⟩ := bxs_get (HB.out.below hBr) hy
        have ca0 := fun d os => cell_regrown a0 d os
        have ca1 := fun d os => cell_regrown a1 d os
        have ca2 := fun d os => cell_regrown a2 d os
        have ca3 := fun d os => cell_regrown a3 d os
        have ca4 := fun d os => cell_regrown a4 d os
        have ca5 := fun d os => cell_regrown a5 d os
        have cb0 := fun d os => cell_regrown b0 d os
        have cb1 := fun d os => cell_regrown b1 d os
        have cb2 := fun d os => cell_regrown b2 d os
        have cb3 := fun d os => cell_regrown b3 d os
        have cb4 := fun d os => cell_regrown b4 d os
        have cb5 := fun d os => cell_regrown b5 d os
        have HXY := Lib.hid (And.intro hx hy)
        have HBR := Lib.hid hBr
        have hq := run_eq_bx x y
        have k0 : (0 : Int) ≤ (k : Int) := by omega
        have k1 : (k : Int) < (la.length : Int) := by omega
        have k2 : (k : Int) < (lb.length : Int) := by omega
        clear hx hy hBr a0 a1 a2 a3 a4 a5 b0 b1 b2 b3 b4 b5 hbl hbl'
        by_cases he : x = y
        · have hq2 : ∀ W, (Op.equalIn 10000 33 (.agg #[.int .i64 x.lo.x, .int .i64 x.lo.y, .int .i64 x.lo.z, .int .i64 x.hi.x, .int .i64 x.hi.y, .int .i64 x.hi.z]) (.agg #[.int .i64 y.lo.x, .int .i64 y.lo.y, .int .i64 y.lo.z, .int .i64 y.hi.x, .int .i64 y.hi.y, .int .i64 y.hi.z])).run Try.prog W = .ok true W := fun W => by rw [← dec_yes he]; exact hq W
          have HE := Lib.hid he
          clear hq he
          go_upto_region 6 with fail
          refine wp_region_quiet_below (by kernel_rfl) (by kernel_rfl) ?_
          repeat (go_big_quiet_step ((first
            | fail)))
          refine wpQuiet_nil ?_
          intro _ hw'
          obtain ⟨⟨nq, osq⟩, hw''⟩ := hw'
          subst hw''
          have HB9 := Lib.hid (bstep HBR.out (below_regrown wr nq osq))
          clear ca0 ca1 ca2 ca3 ca4 ca5 cb0 cb1 cb2 cb3 cb4 cb5 hq2
          generalize Go.Sort.grow (redrawn wr nq) osq = W9 at *
          go_wp2_with fail
          go_roundw
          case rel => exact ⟨k + 1, by omega, by go_num, HB9.out, fun j hj => by
            by_cases e : j = k
            · subst e; rw [HXY.out.1, HXY.out.2, HE.out]
            · exact hsame.out j (by omega)⟩
          case measure => simp [intOf]; omega
        · have hq2 : ∀ W, (Op.equalIn 10000 33 (.agg #[.int .i64 x.lo.x, .int .i64 x.lo.y, .int .i64 x.lo.z, .int .i64 x.hi.x, .int .i64 x.hi.y, .int .i64 x.hi.z]) (.agg #[.int .i64 y.lo.x, .int .i64 y.lo.y, .int .i64 y.lo.z, .int .i64 y.hi.x, .int .i64 y.hi.y, .int .i64 y.hi.z])).run Try.prog W = .ok false W := fun W => by rw [← dec_no he]; exact hq W
          have HF : Hid (false = ok) := by unfold Hid; rw [← HO.out, dec_no (list_ne HXY.out.1 HXY.out.2 he)]
          clear hq he
          go_upto_region 6 with fail
          refine wp_region_quiet_below (by kernel_rfl) (by kernel_rfl) ?_
          repeat (go_big_quiet_step ((first
            | fail)))
          refine wpQuiet_nil ?_
          intro _ hw'
          obtain ⟨⟨nq, osq⟩, hw''⟩ := hw'
          subst hw''
          have HB9 := Lib.hid (bstep HBR.out (below_regrown wr nq osq))
          clear ca0 ca1 ca2 ca3 ca4 ca5 cb0 cb1 cb2 cb3 cb4 cb5 hq2
          generalize Go.Sort.grow (redrawn wr nq) osq = W9 at *
          go_wp2_with fail
          go_ret
          exact ⟨ret_bool HF.out, HB9.out⟩
      · obtain rfl : k = la.length := by omega
        have HT : Hid (true = ok) := by unfold Hid; rw [← HO.out, dec_yes (list_eq HL.out hsame.out)]
        have HBR := Lib.hid hBr
        clear hBr
        go_wp2
        go_ret
        exact ⟨ret_bool HT.out, HBR.out⟩
  · have hne : ((la.length : Int) != (lb.length : Int)) = true := bne_yes (by omega)
    have HF : Hid (decide (la = lb) = false) := dec_no fun e => hlen (by rw [e])
    rw [HF.out]
    clear hlen
    go_enter Try.func16, Try.ntmps16
    go_wp2
    go_ret
    exact ⟨rfl, Below.refl _ _⟩

set_option maxHeartbeats 2000000 in
theorem eqFd_any (va vb : Value) (la lb : List (Int × ByteArray)) (w : World) (ha : Fl 2 finCells w va la) (hb : Fl 2 finCells w vb lb) (hla : la.length ≤ 140737488355328) (hlb : lb.length ≤ 140737488355328) :
    Calls Try.prog 23 #[va, vb] w fun e w' => e = .returned (.bool (decide (la = lb))) ∧ Below w.heap.size w w' := by
  obtain ⟨ao, acap, rfl⟩ := ha.at_
  obtain ⟨bo, bcap, rfl⟩ := hb.at_
  have HA := Lib.hid ha
  have HB := Lib.hid hb
  clear ha hb
  by_cases hlen : la.length = lb.length
  · have hne : ((la.length : Int) != (lb.length : Int)) = false := bne_no (by omega)
    have HL := Lib.hid hlen
    obtain ⟨ok, hok⟩ : ∃ ok, decide (la = lb) = ok := ⟨_, rfl⟩
    have HO := Lib.hid hok
    rw [hok]
    clear hlen hok
    go_enter Try.func23, Try.ntmps23
    go_wp2_with fail
    go_loopw [13] (fun i wr => ∃ k : Nat, k ≤ la.length ∧ i = .int .i64 k ∧ Below w.heap.size w wr ∧ Hid (∀ j, j < k → la[j]? = lb[j]?)) (fun i _ => la.length - (intOf i).toNat)
    case atStart => exact ⟨0, Nat.zero_le _, rfl, Below.refl _ _, fun j hj => by omega⟩
    case round =>
      obtain ⟨k, hk, rfl, hBr, hsame⟩ := hrel
      by_cases hk2 : k < la.length
      · have hkb : k < lb.length := by rw [← HL.out]; exact hk2
        obtain ⟨x, hx⟩ : ∃ y, la[k]? = some y := ⟨_, List.getElem?_eq_getElem hk2⟩
        obtain ⟨y, hy⟩ : ∃ y, lb[k]? = some y := ⟨_, List.getElem?_eq_getElem hkb⟩
        obtain ⟨b, off, rfl, hbl, a0, a1⟩ := fds_get (HA.out.below hBr) hx
        obtain ⟨b', off', rfl, hbl', b0, b1⟩ := fds_get (HB.out.below hBr) hy
        have ca0 := fun d os => cell_regrown a0 d os
        have ca1 := fun d os => cell_regrown a1 d os
        have cb0 := fun d os => cell_regrown b0 d os
        have cb1 := fun d os => cell_regrown b1 d os
        have HXY := Lib.hid (And.intro hx hy)
        have HBR := Lib.hid hBr
        have hq := run_eq_fd x y
        have k0 : (0 : Int) ≤ (k : Int) := by omega
        have k1 : (k : Int) < (la.length : Int) := by omega
        have k2 : (k : Int) < (lb.length : Int) := by omega
        clear hx hy hBr a0 a1 b0 b1 hbl hbl'
        by_cases he : x = y
        · have hq2 : ∀ W, (Op.equalIn 10000 50 (.agg #[.int .i64 x.1, .string x.2]) (.agg #[.int .i64 y.1, .string y.2])).run Try.prog W = .ok true W := fun W => by rw [← dec_yes he]; exact hq W
          have HE := Lib.hid he
          clear hq he
          go_upto_region 6 with fail
          refine wp_region_quiet_below (by kernel_rfl) (by kernel_rfl) ?_
          repeat (go_big_quiet_step ((first
            | fail)))
          refine wpQuiet_nil ?_
          intro _ hw'
          obtain ⟨⟨nq, osq⟩, hw''⟩ := hw'
          subst hw''
          have HB9 := Lib.hid (bstep HBR.out (below_regrown wr nq osq))
          clear ca0 ca1 cb0 cb1 hq2
          generalize Go.Sort.grow (redrawn wr nq) osq = W9 at *
          go_wp2_with fail
          go_roundw
          case rel => exact ⟨k + 1, by omega, by go_num, HB9.out, fun j hj => by
            by_cases e : j = k
            · subst e; rw [HXY.out.1, HXY.out.2, HE.out]
            · exact hsame.out j (by omega)⟩
          case measure => simp [intOf]; omega
        · have hq2 : ∀ W, (Op.equalIn 10000 50 (.agg #[.int .i64 x.1, .string x.2]) (.agg #[.int .i64 y.1, .string y.2])).run Try.prog W = .ok false W := fun W => by rw [← dec_no he]; exact hq W
          have HF : Hid (false = ok) := by unfold Hid; rw [← HO.out, dec_no (list_ne HXY.out.1 HXY.out.2 he)]
          clear hq he
          go_upto_region 6 with fail
          refine wp_region_quiet_below (by kernel_rfl) (by kernel_rfl) ?_
          repeat (go_big_quiet_step ((first
            | fail)))
          refine wpQuiet_nil ?_
          intro _ hw'
          obtain ⟨⟨nq, osq⟩, hw''⟩ := hw'
          subst hw''
          have HB9 := Lib.hid (bstep HBR.out (below_regrown wr nq osq))
          clear ca0 ca1 cb0 cb1 hq2
          generalize Go.Sort.grow (redrawn wr nq) osq = W9 at *
          go_wp2_with fail
          go_ret
          exact ⟨ret_bool HF.out, HB9.out⟩
      · obtain rfl : k = la.length := by omega
        have HT : Hid (true = ok) := by unfold Hid; rw [← HO.out, dec_yes (list_eq HL.out hsame.out)]
        have HBR := Lib.hid hBr
        clear hBr
        go_wp2
        go_ret
        exact ⟨ret_bool HT.out, HBR.out⟩
  · have hne : ((la.length : Int) != (lb.length : Int)) = true := bne_yes (by omega)
    have HF : Hid (decide (la = lb) = false) := dec_no fun e => hlen (by rw [e])
    rw [HF.out]
    clear hlen
    go_enter Try.func23, Try.ntmps23
    go_wp2
    go_ret
    exact ⟨rfl, Below.refl _ _⟩
end Go.Proofs.Ytpidjgljeooblaa
