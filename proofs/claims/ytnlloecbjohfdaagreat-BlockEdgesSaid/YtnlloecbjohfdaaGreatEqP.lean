/-
  slices.Equal at [2]int (written by wip/gen_EqP.py).
-/
import Derived.Test.YtnlloecbjohfdaaGreatBkV
import Derived.Test.YtnlloecbjohfdaaGreatCtp
import Derived.Test.YtnlloecbjohfdaaGreatLwx
import Derived.Test.YtnlloecbjohfdaaGreatQbl
namespace Go.Proofs.YtnlloecbjohfdaaGreat
open Go.RowKit
set_option linter.unusedVariables false
set_option linter.unusedSimpArgs false

theorem run_eq_pr (a b : Int × Int) (W : World) : (Op.equalIn 10000 68 (.agg #[.int .i64 a.1, .int .i64 a.2]) (.agg #[.int .i64 b.1, .int .i64 b.2])).run Tryz.prog W = .ok (decide (a = b)) W := by
  rw [run_eq_pair, decide_eq_decide.2 Prod.ext_iff.symm]

theorem prs_get {w : World} {ao : Option Addr} {len cap k : Nat} {l : List (Int × Int)} {p : Int × Int} (h : Fl 2 prCells w (.slice ao len cap) l) (hk : l[k]? = some p) :
    ∃ b off, ao = some ⟨b, off, none⟩ ∧ b < w.heap.size ∧ w.cell? ⟨b, off + k * 2, none⟩ = some (.int .i64 p.1) ∧ w.cell? ⟨b, off + k * 2 + 1, none⟩ = some (.int .i64 p.2) := by
  obtain ⟨b, off, rfl, hlt, hc⟩ := h.get hk
  exact ⟨b, off, rfl, hlt, hc 0 _ rfl, hc 1 _ rfl⟩

set_option maxHeartbeats 2000000 in
theorem eqPr_any (va vb : Value) (la lb : List (Int × Int)) (w : World) (ha : Fl 2 prCells w va la) (hb : Fl 2 prCells w vb lb) (hla : la.length ≤ 140737488355328) (hlb : lb.length ≤ 140737488355328) :
    Calls Tryz.prog 37 #[va, vb] w fun e w' => e = .returned (.bool (decide (la = lb))) ∧ Below w.heap.size w w' := by
  obtain ⟨ao, acap, rfl⟩ := ha.at_
  obtain ⟨bo, bcap, rfl⟩ := hb.at_
  have HA := Lib.hid ha
  have HB := Lib.hid hb
  clear ha hb
  by_cases hlen : la.length = lb.length
  · have hne : ((la.length : Int) != (lb.length : Int)) = false := bne_no (by omega)
    have HL := Lib.hid hlen
    obtain ⟨ok, hok⟩ : ∃ ok, decide (la = lb) = ok := ⟨_, rfl⟩
    have HO := Lib.hid hok
    rw [hok]
    clear hlen hok
    go_enter Tryz.func37, Tryz.ntmps37
    go_wp2_with fail
    go_loopw [13] (fun i wr => ∃ k : Nat, k ≤ la.length ∧ i = .int .i64 k ∧ Below w.heap.size w wr ∧ Hid (∀ j, j < k → la[j]? = lb[j]?)) (fun i _ => la.length - (intOf i).toNat)
    case atStart => exact ⟨0, Nat.zero_le _, rfl, Below.refl _ _, fun j hj => by omega⟩
    case round =>
      obtain ⟨k, hk, rfl, hBr, hsame⟩ := hrel
      by_cases hk2 : k < la.length
      · have hkb : k < lb.length := by rw [← HL.out]; exact hk2
        obtain ⟨x, hx⟩ : ∃ y, la[k]? = some y := ⟨_, List.getElem?_eq_getElem hk2⟩
        obtain ⟨y, hy⟩ : ∃ y, lb[k]? = some y := ⟨_, List.getElem?_eq_getElem hkb⟩
        obtain ⟨b, off, rfl, hbl, a0, a1⟩ := prs_get (HA.out.below hBr) hx
        obtain ⟨b', off', rfl, hbl', b0, b1⟩ := prs_get (HB.out.below hBr) hy
        have ca0 := fun d os => cell_regrown a0 d os
        have ca1 := fun d os => cell_regrown a1 d os
        have cb0 := fun d os => cell_regrown b0 d os
        have cb1 := fun d os => cell_regrown b1 d os
        have HXY := Lib.hid (And.intro hx hy)
        have HBR := Lib.hid hBr
        have hq := run_eq_pr x y
        have k0 : (0 : Int) ≤ (k : Int) := by omega
        have k1 : (k : Int) < (la.length : Int) := by omega
        have k2 : (k : Int) < (lb.length : Int) := by omega
        clear hx hy hBr a0 a1 b0 b1 hbl hbl'
        by_cases he : x = y
        · have hq2 : ∀ W, (Op.equalIn 10000 68 (.agg #[.int .i64 x.1, .int .i64 x.2]) (.agg #[.int .i64 y.1, .int .i64 y.2])).run Tryz.prog W = .ok true W := fun W => by rw [← dec_yes he]; exact hq W
          have HE := Lib.hid he
          clear hq he
          go_upto_region 6 with fail
          refine wp_region_quiet_below (by kernel_rfl) (by kernel_rfl) ?_
          repeat (go_big_quiet_step ((first
            | fail)))
          refine wpQuiet_nil ?_
          intro _ hw'
          obtain ⟨⟨nq, osq⟩, hw''⟩ := hw'
          subst hw''
          have HB9 := Lib.hid (bstep HBR.out (below_regrown wr nq osq))
          clear ca0 ca1 cb0 cb1 hq2
          generalize Go.Sort.grow (redrawn wr nq) osq = W9 at *
          go_wp2_with fail
          go_roundw
          case rel => exact ⟨k + 1, by omega, by go_num, HB9.out, fun j hj => by
            by_cases e : j = k
            · subst e; rw [HXY.out.1, HXY.out.2, HE.out]
            · exact hsame.out j (by omega)⟩
          case measure => simp [intOf]; omega
        · have hq2 : ∀ W, (Op.equalIn 10000 68 (.agg #[.int .i64 x.1, .int .i64 x.2]) (.agg #[.int .i64 y.1, .int .i64 y.2])).run Tryz.prog W = .ok false W := fun W => by rw [← dec_no he]; exact hq W
          have HF : Hid (false = ok) := by unfold Hid; rw [← HO.out, dec_no (list_ne HXY.out.1 HXY.out.2 he)]
          clear hq he
          go_upto_region 6 with fail
          refine wp_region_quiet_below (by kernel_rfl) (by kernel_rfl) ?_
          repeat (go_big_quiet_step ((first
            | fail)))
          refine wpQuiet_nil ?_
          intro _ hw'
          obtain ⟨⟨nq, osq⟩, hw''⟩ := hw'
          subst hw''
          have HB9 := Lib.hid (bstep HBR.out (below_regrown wr nq osq))
          clear ca0 ca1 cb0 cb1 hq2
          generalize Go.Sort.grow (redrawn wr nq) osq = W9 at *
          go_wp2_with fail
          go_ret
          exact ⟨ret_bool HF.out, HB9.out⟩
      · obtain rfl : k = la.length := by omega
        have HT : Hid (true = ok) := by unfold Hid; rw [← HO.out, dec_yes (list_eq HL.out hsame.out)]
        have HBR := Lib.hid hBr
        clear hBr
        go_wp2
        go_ret
        exact ⟨ret_bool HT.out, HBR.out⟩
  · have hne : ((la.length : Int) != (lb.length : Int)) = true := bne_yes (by omega)
    have HF : Hid (decide (la = lb) = false) := dec_no fun e => hlen (by rw [e])
    rw [HF.out]
    clear hlen
    go_enter Tryz.func37, Tryz.ntmps37
    go_wp2
    go_ret
    exact ⟨rfl, Below.refl _ _⟩
end Go.Proofs.YtnlloecbjohfdaaGreat
