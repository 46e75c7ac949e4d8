/-
  slices.Equal at api.Clash (written by wip/gen_EqP.py).
-/
import Derived.Test.YtpiigmhbbcjamaaGreatClp
namespace Go.Proofs.YtpiigmhbbcjamaaGreat
open Go.RowKit
set_option linter.unusedVariables false
set_option linter.unusedSimpArgs false

abbrev clv (x : ClD) : Value := .agg #[.int .i64 x.a, .int .i64 x.b, .int .i64 x.p.x, .int .i64 x.p.y, .int .i64 x.p.z, .int .i64 x.q.x, .int .i64 x.q.y, .int .i64 x.q.z]
def clCells (x : ClD) : List Value := [.int .i64 x.a, .int .i64 x.b, .int .i64 x.p.x, .int .i64 x.p.y, .int .i64 x.p.z, .int .i64 x.q.x, .int .i64 x.q.y, .int .i64 x.q.z]
theorem cl_len (x : ClD) : (clCells x).length = 8 := rfl
theorem cl_one (x : ClD) : ∀ u ∈ clCells x, u.oneCell' = true := by
  intro u hu
  simp [clCells] at hu
  rcases hu with rfl | rfl | rfl | rfl | rfl | rfl | rfl | rfl <;> rfl
theorem elemCl : ElemN Tryz.prog 34 45 8 64 := elemN_of (z := .agg #[.int .i64 0, .int .i64 0, .int .i64 0, .int .i64 0, .int .i64 0, .int .i64 0, .int .i64 0, .int .i64 0]) Tryz.underlying34 (by kernel_rfl) rfl (by omega)
abbrev OwnCl (w : World) (B : Nat) (v : Value) (l : List ClD) : Prop := OwnN w B 45 8 clCells v l
abbrev Cls (w : World) (v : Value) (l : List ClD) : Prop := Fl 8 clCells w v l
instance : DecidableEq ClD := fun x y => decidable_of_iff (x.a = y.a ∧ x.b = y.b ∧ x.p = y.p ∧ x.q = y.q) (by
  obtain ⟨a, b, p, q⟩ := x
  obtain ⟨a', b', p', q'⟩ := y
  simp only [ClD.mk.injEq])

set_option maxHeartbeats 1000000 in
theorem run_eq_cl (a b : ClD) (W : World) : (Op.equalIn 10000 45 (clv a) (clv b)).run Tryz.prog W = .ok (decide (a = b)) W := by
  obtain ⟨a1, a2, ⟨a3, a4, a5⟩, ⟨a6, a7, a8⟩⟩ := a
  obtain ⟨b1, b2, ⟨b3, b4, b5⟩, ⟨b6, b7, b8⟩⟩ := b
  simp only [ClD.mk.injEq, Pt.mk.injEq]
  by_cases h0 : a1 = b1
  · skip
    by_cases h1 : a2 = b2
    · skip
      by_cases h2 : a3 = b3
      · skip
        by_cases h3 : a4 = b4
        · skip
          by_cases h4 : a5 = b5
          · skip
            by_cases h5 : a6 = b6
            · skip
              by_cases h6 : a7 = b7
              · skip
                by_cases h7 : a8 = b8
                · skip
                  go_simp
                · go_simp
              · go_simp
            · go_simp
          · go_simp
        · go_simp
      · go_simp
    · go_simp
  · go_simp

theorem cls_get {w : World} {ao : Option Addr} {len cap k : Nat} {l : List ClD} {p : ClD} (h : Cls w (.slice ao len cap) l) (hk : l[k]? = some p) :
    ∃ b off, ao = some ⟨b, off, none⟩ ∧ b < w.heap.size ∧ w.cell? ⟨b, off + k * 8, none⟩ = some (.int .i64 p.a) ∧ w.cell? ⟨b, off + k * 8 + 1, none⟩ = some (.int .i64 p.b) ∧ w.cell? ⟨b, off + k * 8 + 2, none⟩ = some (.int .i64 p.p.x) ∧ w.cell? ⟨b, off + k * 8 + 3, none⟩ = some (.int .i64 p.p.y) ∧
      w.cell? ⟨b, off + k * 8 + 4, none⟩ = some (.int .i64 p.p.z) ∧ w.cell? ⟨b, off + k * 8 + 5, none⟩ = some (.int .i64 p.q.x) ∧ w.cell? ⟨b, off + k * 8 + 6, none⟩ = some (.int .i64 p.q.y) ∧ w.cell? ⟨b, off + k * 8 + 7, none⟩ = some (.int .i64 p.q.z) := by
  obtain ⟨b, off, rfl, hlt, hc⟩ := h.get hk
  exact ⟨b, off, rfl, hlt, hc 0 _ rfl, hc 1 _ rfl, hc 2 _ rfl, hc 3 _ rfl, hc 4 _ rfl, hc 5 _ rfl, hc 6 _ rfl, hc 7 _ rfl⟩

set_option maxHeartbeats 2000000 in
theorem eqCl_any (va vb : Value) (la lb : List (ClD)) (w : World) (ha : Cls w va la) (hb : Cls w vb lb) (hla : la.length ≤ 140737488355328) (hlb : lb.length ≤ 140737488355328) :
    Calls Tryz.prog 20 #[va, vb] w fun e w' => e = .returned (.bool (decide (la = lb))) ∧ Below w.heap.size w w' := by
  obtain ⟨ao, acap, rfl⟩ := ha.at_
  obtain ⟨bo, bcap, rfl⟩ := hb.at_
  have HA := Lib.hid ha
  have HB := Lib.hid hb
  clear ha hb
  by_cases hlen : la.length = lb.length
  · have hne : ((la.length : Int) != (lb.length : Int)) = false := bne_no (by omega)
    have HL := Lib.hid hlen
    obtain ⟨ok, hok⟩ : ∃ ok, decide (la = lb) = ok := ⟨_, rfl⟩
    have HO := Lib.hid hok
    rw [hok]
    clear hlen hok
    go_enter Tryz.func20, Tryz.ntmps20
    go_wp2_with fail
    go_loopw [13] (fun i wr => ∃ k : Nat, k ≤ la.length ∧ i = .int .i64 k ∧ Below w.heap.size w wr ∧ Hid (∀ j, j < k → la[j]? = lb[j]?)) (fun i _ => la.length - (intOf i).toNat)
    case atStart => exact ⟨0, Nat.zero_le _, rfl, Below.refl _ _, fun j hj => by omega⟩
    case round =>
      obtain ⟨k, hk, rfl, hBr, hsame⟩ := hrel
      by_cases hk2 : k < la.length
      · have hkb : k < lb.length := by rw [← HL.out]; exact hk2
        obtain ⟨x, hx⟩ : ∃ y, la[k]? = some y := ⟨_, List.getElem?_eq_getElem hk2⟩
        obtain ⟨y, hy⟩ : ∃ y, lb[k]? = some y := ⟨_, List.getElem?_eq_getElem hkb⟩
        obtain ⟨b, off, rfl, hbl, a0, a1, a2, a3, a4, a5, a6, a7⟩ := cls_get (HA.out.below hBr) hx
        obtain ⟨b', off', rfl, hbl', b0, b1, b2, b3, b4, b5, b6, b7⟩ := cls_get (HB.out.below hBr) hy
        have ca0 := fun d os => cell_regrown a0 d os
        have ca1 := fun d os => cell_regrown a1 d os
        have ca2 := fun d os => cell_regrown a2 d os
        have ca3 := fun d os => cell_regrown a3 d os
        have ca4 := fun d os => cell_regrown a4 d os
        have ca5 := fun d os => cell_regrown a5 d os
        have ca6 := fun d os => cell_regrown a6 d os
        have ca7 := fun d os => cell_regrown a7 d os
        have cb0 := fun d os => cell_regrown b0 d os
        have cb1 := fun d os => cell_regrown b1 d os
        have cb2 := fun d os => cell_regrown b2 d os
        have cb3 := fun d os => cell_regrown b3 d os
        have cb4 := fun d os => cell_regrown b4 d os
        have cb5 := fun d os => cell_regrown b5 d os
        have cb6 := fun d os => cell_regrown b6 d os
        have cb7 := fun d os => cell_regrown b7 d os
        have HXY := Lib.hid (And.intro hx hy)
        have HBR := Lib.hid hBr
        have hq := run_eq_cl x y
        have k0 : (0 : Int) ≤ (k : Int) := by omega
        have k1 : (k : Int) < (la.length : Int) := by omega
        have k2 : (k : Int) < (lb.length : Int) := by omega
        clear hx hy hBr a0 a1 a2 a3 a4 a5 a6 a7 b0 b1 b2 b3 b4 b5 b6 b7 hbl hbl'
        by_cases he : x = y
        · have hq2 : ∀ W, (Op.equalIn 10000 45 (.agg #[.int .i64 x.a, .int .i64 x.b, .int .i64 x.p.x, .int .i64 x.p.y, .int .i64 x.p.z, .int .i64 x.q.x, .int .i64 x.q.y, .int .i64 x.q.z]) (.agg #[.int .i64 y.a, .int .i64 y.b, .int .i64 y.p.x, .int .i64 y.p.y, .int .i64 y.p.z, .int .i64 y.q.x, .int .i64 y.q.y, .int .i64 y.q.z])).run Tryz.prog W = .ok true W := fun W => by rw [← dec_yes he]; exact hq W
          have HE := Lib.hid he
          clear hq he
          go_upto_region 6 with fail
          refine wp_region_quiet_below (by kernel_rfl) (by kernel_rfl) ?_
          repeat (go_big_quiet_step ((first
            | fail)))
          refine wpQuiet_nil ?_
          intro _ hw'
          obtain ⟨⟨nq, osq⟩, hw''⟩ := hw'
          subst hw''
          have HB9 := Lib.hid (bstep HBR.out (below_regrown wr nq osq))
          clear ca0 ca1 ca2 ca3 ca4 ca5 ca6 ca7 cb0 cb1 cb2 cb3 cb4 cb5 cb6 cb7 hq2
          generalize Go.Sort.grow (redrawn wr nq) osq = W9 at *
          go_wp2_with fail
          go_roundw
          case rel => exact ⟨k + 1, by omega, by go_num, HB9.out, fun j hj => by
            by_cases e : j = k
            · subst e; rw [HXY.out.1, HXY.out.2, HE.out]
            · exact hsame.out j (by omega)⟩
          case measure => simp [intOf]; omega
        · have hq2 : ∀ W, (Op.equalIn 10000 45 (.agg #[.int .i64 x.a, .int .i64 x.b, .int .i64 x.p.x, .int .i64 x.p.y, .int .i64 x.p.z, .int .i64 x.q.x, .int .i64 x.q.y, .int .i64 x.q.z]) (.agg #[.int .i64 y.a, .int .i64 y.b, .int .i64 y.p.x, .int .i64 y.p.y, .int .i64 y.p.z, .int .i64 y.q.x, .int .i64 y.q.y, .int .i64 y.q.z])).run Tryz.prog W = .ok false W := fun W => by rw [← dec_no he]; exact hq W
          have HF : Hid (false = ok) := by unfold Hid; rw [← HO.out, dec_no (list_ne HXY.out.1 HXY.out.2 he)]
          clear hq he
          go_upto_region 6 with fail
          refine wp_region_quiet_below (by kernel_rfl) (by kernel_rfl) ?_
          repeat (go_big_quiet_step ((first
            | fail)))
          refine wpQuiet_nil ?_
          intro _ hw'
          obtain ⟨⟨nq, osq⟩, hw''⟩ := hw'
          subst hw''
          have HB9 := Lib.hid (bstep HBR.out (below_regrown wr nq osq))
          clear ca0 ca1 ca2 ca3 ca4 ca5 ca6 ca7 cb0 cb1 cb2 cb3 cb4 cb5 cb6 cb7 hq2
          generalize Go.Sort.grow (redrawn wr nq) osq = W9 at *
          go_wp2_with fail
          go_ret
          exact ⟨ret_bool HF.out, HB9.out⟩
      · obtain rfl : k = la.length := by omega
        have HT : Hid (true = ok) := by unfold Hid; rw [← HO.out, dec_yes (list_eq HL.out hsame.out)]
        have HBR := Lib.hid hBr
        clear hBr
        go_wp2
        go_ret
        exact ⟨ret_bool HT.out, HBR.out⟩
  · have hne : ((la.length : Int) != (lb.length : Int)) = true := bne_yes (by omega)
    have HF : Hid (decide (la = lb) = false) := dec_no fun e => hlen (by rw [e])
    rw [HF.out]
    clear hlen
    go_enter Tryz.func20, Tryz.ntmps20
    go_wp2
    go_ret
    exact ⟨rfl, Below.refl _ _⟩
end Go.Proofs.YtpiigmhbbcjamaaGreat
