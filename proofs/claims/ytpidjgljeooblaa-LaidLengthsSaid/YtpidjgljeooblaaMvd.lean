/-
  laid.Moved; equal runs.
-/
import Derived.Test.YtpidjgljeooblaaMov
import Derived.Test.YtpidjgljeooblaaEqS
namespace Go.Proofs.Ytpidjgljeooblaa
open Go.RowKit
set_option linter.unusedVariables false
set_option linter.unusedSimpArgs false
attribute [local go_sem ↓] Go.wp_at_zero Go.wp_at_succ

theorem OwnN.free {α : Type} {n : Nat} {enc : α → List Value} {w : World} {base : Nat} {e : TypeId} {g m cap : Nat} {l : List α} (h : OwnN w base e n enc (.slice (some ⟨g, 0, none⟩) m cap) l) (k : Nat) : w.frozen? ⟨g, k, none⟩ = false := by
  rcases h.2 with ⟨h', _⟩ | ⟨g', cap', cur, h', _, hg, _⟩
  · cases h'
  · cases h'
    simp [World.frozen?, hg]
theorem RMvW.put {w wr : World} {by_ : Pt} {base g n cap k : Nat} {D : List RunD} {r : RunD} (h : RMvW w by_ base (.slice (some ⟨g, 0, none⟩) n cap) D wr) (hk : D[k]? = some r) (q : Pt) :
    RMvW w by_ base (.slice (some ⟨g, 0, none⟩) n cap) (D.set k { r with at_ := q }) (((wr.setCell ⟨g, k * 10 + 3, none⟩ (.int .i64 q.x)).setCell ⟨g, k * 10 + 4, none⟩ (.int .i64 q.y)).setCell ⟨g, k * 10 + 5, none⟩ (.int .i64 q.z)) := by
  have hg := (OwnN.lt h.own g rfl).1
  have hf := h.far
  exact ⟨((h.below.setCell (by simp; omega) _).setCell (by simp; omega) _).setCell (by simp; omega) _, ((h.pt.far (by simp; omega) _).far (by simp; omega) _).far (by simp; omega) _, own_setR h.own k q hk, hf⟩

set_option maxRecDepth 100000 in
set_option maxHeartbeats 4000000 in
theorem lmoved_any (v : Value) (rs : List RunD) (by_ : Pt) (w : World) (hr : Runs w v rs) :
    Calls Try.prog 31 #[v, ptv by_] w fun e w' => ∃ o, e = .returned (.tuple #[o, .int .i64 (mvE by_ rs)]) ∧ Hid (OwnRuns w' w.heap.size o (mvL by_ rs)) ∧ Below w.heap.size w w' := by
  obtain ⟨ro, rcap, rfl⟩ := hr.at_
  have HR := Lib.hid hr
  clear hr
  by_cases h60 : 60 < rs.length
  · obtain ⟨e1, e2⟩ := mv_full (by_ := by_) h60
    have HE := Lib.hid (And.intro e1 e2)
    have hi : (60 : Int) < (rs.length : Int) := by omega
    clear e1 e2 h60
    go_enter Try.func31, Try.ntmps31
    go_wp2
    go_ret2
    exact ⟨_, ret2_any rfl (val_int HE.out.1.symm), by rw [HE.out.2]; exact OwnN.nil _ _ _ _ _, by go_grown⟩
  · have hi : ¬ (60 : Int) < (rs.length : Int) := by omega
    have HTW := Lib.hid (fun W => isPlace_any by_ 2097152 W (by omega) (by omega))
    have H60 := Lib.hid h60
    have HCL := Lib.hid (fun W (hW : Below w.heap.size w W) => cloneR_any (.slice ro rs.length rcap) rs W (HR.out.below hW) (by omega))
    clear h60
    cases htw : ptIn 2097152 by_ with
    | false =>
      obtain ⟨e1, e2⟩ := mv_far H60.out htw
      have HE := Lib.hid (And.intro e1 e2)
      rw [htw] at HTW
      clear e1 e2 htw
      go_enter Try.func31, Try.ntmps31
      go_wp2_with fail
      refine (HTW.out _).mono ?_
      rintro e w1 ⟨rfl, hb1⟩
      have HB1 := Lib.hid (bstep (by go_grown) hb1 : Below w.heap.size w w1)
      clear hb1
      go_wp2
      go_ret2
      exact ⟨_, ret2_any rfl (val_int HE.out.1.symm), by rw [HE.out.2]; exact OwnN.nil _ _ _ _ _, HB1.out⟩
    | true =>
      have HBY := Lib.hid (ptIn_iff.1 htw)
      have HNO := Lib.hid (fun k r (hk : rs[k]? = some r) (hr : mvOk by_ r = false) => mv_no H60.out htw hk hr)
      have HYES := Lib.hid (fun hr => mv_yes H60.out htw hr)
      rw [htw] at HTW
      clear htw
      go_enter Try.func31, Try.ntmps31
      go_wp2_with fail
      refine (HTW.out _).mono ?_
      rintro e w1 ⟨rfl, hb1⟩
      have HB1 : Hid (Below w.heap.size w w1 ∧ BlkIs w1 w.heap.size 31 #[.int .i64 by_.x, .int .i64 by_.y, .int .i64 by_.z]) := ⟨bstep (by go_grown) hb1, (BlkIs.new w _ _).below hb1⟩
      have hz1 : w.heap.size < w1.heap.size := by have := hb1.size; simp at this; omega
      clear hb1 HTW
      go_wp2_with fail
      refine (HCL.out _ HB1.out.1).mono ?_
      rintro e w2 ⟨o, rfl, HO, hb2⟩
      have HW0 : Hid (RMvW w by_ w1.heap.size o (mvN by_ rs 0) w2) := ⟨bstep HB1.out.1 hb2, HB1.out.2.below hb2, HO.out, hz1⟩
      have HN0 : Hid (mvN by_ rs 0 = rs) := rfl
      obtain ⟨oo, oc, rfl⟩ := OwnN.shape HO.out
      clear hb2 HB1 HCL
      go_wp2_with fail
      go_loopw [19] (fun i wr => ∃ k : Nat, k ≤ rs.length ∧ i = .int .i64 k ∧ RMvW w by_ w1.heap.size (.slice oo rs.length oc) (mvN by_ rs k) wr ∧ Hid (∀ (j : Nat) r, j < k → rs[j]? = some r → mvOk by_ r = true)) (fun i _ => rs.length - (intOf i).toNat)
      case atStart => exact ⟨0, Nat.zero_le _, rfl, HW0.out, fun j r hj => by omega⟩
      case round =>
        clear HW0
        obtain ⟨k, hk, rfl, hW, hno⟩ := hrel
        have HW := Lib.hid hW
        clear hW
        by_cases hk2 : k < rs.length
        · obtain ⟨r, hy⟩ : ∃ y, rs[k]? = some y := ⟨_, List.getElem?_eq_getElem hk2⟩
          have HD := Lib.hid (mvN_at by_ hy)
          have HNX := Lib.hid (mvN_next by_ hy)
          obtain ⟨b, off, rfl, hbl, c0, c1, c2, c3, c4, c5, c6, c7, c8, c9⟩ := runs_get (HR.out.below HW.out.below) hy
          have HY := Lib.hid hy
          have HN1 := Lib.hid (fun W => isPlace_any r.at_ 1048576 W (by omega) (by omega))
          have HN2 := Lib.hid (fun W => isPlace_any (padd r.at_ by_) 1048576 W (by omega) (by omega))
          have HPL : Hid (PtIn 1048576 r.at_ → ∀ W, Calls Try.prog 55 #[ptv r.at_, ptv by_, .int .i64 1] W fun e w' => e = .returned (ptv (padd r.at_ by_)) ∧ Below W.heap.size W w') := fun ha W => by
            have := lplus_any r.at_ by_ 1 W (ha.mono (by omega)) (by rw [pmul_one]; exact HBY.out.mono (by omega))
            rw [pmul_one] at this
            exact this
          have HWA := Lib.hid (HW.out.after (below_new wr (.cells (runCellsA r) 60)))
          obtain ⟨g, hv, hbg⟩ : ∃ g, (Value.slice oo rs.length oc) = .slice (some ⟨g, 0, none⟩) rs.length oc ∧ g < wr.heap.size := by
            rcases HW.out.own.2 with ⟨h', h0⟩ | ⟨g, cap', cur, h', hb, hg, hcap, _⟩
            · rw [mvN_len by_ rs k hk] at h0; omega
            · rw [mvN_len by_ rs k hk] at h'; cases h'; exact ⟨g, rfl, (Array.getElem?_eq_some_iff.1 hg).1⟩
          cases hv
          have HMO : Hid (mvOk by_ r = (ptIn 1048576 r.at_ && ptIn 1048576 (padd r.at_ by_))) := rfl
          clear hy
          cases ha : ptIn 1048576 r.at_ with
          | false =>
            obtain ⟨e1, e2⟩ := HNO.out k r HY.out (by rw [HMO.out, ha]; rfl)
            have HE := Lib.hid (And.intro e1 e2)
            rw [ha] at HN1
            clear e1 e2 ha
            go_wp2_with fail
            refine (HN1.out _).mono ?_
            rintro e w5 ⟨rfl, hb5⟩
            have HW5 := Lib.hid (HWA.out.after hb5)
            clear hb5
            go_wp2
            go_ret2
            exact ⟨_, ret2_any rfl (val_int HE.out.1.symm), by rw [HE.out.2]; exact OwnN.nil _ _ _ _ _, HW5.out.below⟩
          | true =>
            have HPL2 := Lib.hid (HPL.out (ptIn_iff.1 ha))
            rw [ha] at HN1
            go_wp2_with fail
            refine (HN1.out _).mono ?_
            rintro e w5 ⟨rfl, hb5⟩
            have HW5 := Lib.hid (HWA.out.after hb5)
            have HX5 := Lib.hid ((BlkIs.new wr (runCellsA r) 60).below hb5)
            have d3 := HX5.out.cell 3
            have d4 := HX5.out.cell 4
            have d5 := HX5.out.cell 5
            have p0 := HW5.out.pt.cell 0
            have p1 := HW5.out.pt.cell 1
            have p2 := HW5.out.pt.cell 2
            clear hb5 c0 c1 c2 c3 c4 c5 c6 c7 c8 c9
            go_wp2_with fail
            refine (HPL2.out _).mono ?_
            rintro e w6 ⟨rfl, hb6⟩
            have HW6 := Lib.hid (HW5.out.after hb6)
            obtain ⟨g', off', eg, hg6, z0, z1, z2, z3, z4, z5, z6, z7, z8, z9⟩ := runs_get (OwnN.fl run_len HW6.out.own) HD.out
            cases eg
            have zf := OwnN.free HW6.out.own
            simp only [Nat.zero_add] at z3 z4 z5
            clear hb6 d3 d4 d5 p0 p1 p2 z0 z1 z2 z6 z7 z8 z9
            generalize hq : padd r.at_ by_ = q at *
            have HPT := Lib.hid (HW6.out.put HD.out q)
            have HNX2 : Hid ((mvN by_ rs k).set k { r with at_ := q } = mvN by_ rs (k + 1)) := by
              have := HNX.out
              unfold mvR at this
              rw [hq] at this
              exact this
            rw [HNX2.out] at HPT
            cases hb : ptIn 1048576 q with
            | false =>
              obtain ⟨e1, e2⟩ := HNO.out k r HY.out (by rw [HMO.out, ha, hb]; rfl)
              have HE := Lib.hid (And.intro e1 e2)
              rw [hb] at HN2
              clear e1 e2 ha hb hq
              go_wp2_with fail
              refine (HN2.out _).mono ?_
              rintro e w7 ⟨rfl, hb7⟩
              have HW7 := Lib.hid (HPT.out.after hb7)
              clear hb7
              go_wp2
              go_ret2
              exact ⟨_, ret2_any rfl (val_int HE.out.1.symm), by rw [HE.out.2]; exact OwnN.nil _ _ _ _ _, HW7.out.below⟩
            | true =>
              have HOK : Hid (mvOk by_ r = true) := by unfold Hid; rw [HMO.out, ha, hb]; rfl
              rw [hb] at HN2
              clear ha hb hq
              go_wp2_with fail
              refine (HN2.out _).mono ?_
              rintro e w7 ⟨rfl, hb7⟩
              have HW7 := Lib.hid (HPT.out.after hb7)
              clear hb7
              go_wp2
              go_roundw
              case rel => exact ⟨k + 1, by omega, by go_num, HW7.out, fun j z hj hz => by
                by_cases e : j = k
                · subst e; rw [HY.out] at hz; cases hz; exact HOK.out
                · exact hno.out j z (by omega) hz⟩
              case measure => simp [intOf]; omega
        · obtain rfl : k = rs.length := by omega
          obtain ⟨e1, e2⟩ := HYES.out hno.out
          have HE := Lib.hid (And.intro e1 e2)
          have HNE : Hid (mvN by_ rs rs.length = rs.map (mvR by_)) := by unfold Hid mvN; rw [List.take_length, List.drop_length, List.append_nil]
          rw [HNE.out] at HW
          clear e1 e2
          go_wp2
          go_ret2
          exact ⟨_, ret2_any rfl (val_int HE.out.1.symm), by rw [HE.out.2]; exact OwnN.mono HW.out.own (by omega), HW.out.below⟩
end Go.Proofs.Ytpidjgljeooblaa
