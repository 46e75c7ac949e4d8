/-
  The reference's points of a bar of a run; near points.
-/
import Derived.Test.YtpidjgljeooblaaRmE
import Derived.Test.YtpidjgljeooblaaQbl
namespace Go.Proofs.Ytpidjgljeooblaa
open Go.RowKit
set_option linter.unusedVariables false
set_option linter.unusedSimpArgs false
attribute [local go_sem ↓] Go.wp_at_zero Go.wp_at_succ

set_option maxHeartbeats 1000000 in
theorem rnear_any (v : Value) (l : List Pt) (w : World) (hp : Pts w v l) (hl : l.length ≤ 1099511627776) :
    Calls Try.prog 67 #[v] w fun e w' => e = .returned (.bool (l.all (ptIn 1048576))) ∧ Below w.heap.size w w' := by
  obtain ⟨ao, cap, rfl⟩ := hp.at_
  have HP := Lib.hid hp
  obtain ⟨ok, hok⟩ : ∃ ok, l.all (ptIn 1048576) = ok := ⟨_, rfl⟩
  have HO := Lib.hid hok
  rw [hok]
  clear hp hok
  go_enter Try.func67, Try.ntmps67
  go_wp2
  go_loopw [3] (fun i wr => ∃ k : Nat, k ≤ l.length ∧ i = .int .i64 k ∧ Below w.heap.size w wr ∧ Hid (∀ (j : Nat) p, j < k → l[j]? = some p → ptIn 1048576 p = true)) (fun i _ => l.length - (intOf i).toNat)
  case atStart => exact ⟨0, Nat.zero_le _, rfl, Below.refl _ _, fun j _ hj => by omega⟩
  case round =>
    obtain ⟨k, hk, rfl, hBr, hno⟩ := hrel
    by_cases hk2 : k < l.length
    · obtain ⟨p, hy⟩ : ∃ y, l[k]? = some y := ⟨_, List.getElem?_eq_getElem hk2⟩
      obtain ⟨b, off, rfl, hbl, c0, c1, c2⟩ := pts_get (HP.out.below hBr) hy
      have HY := Lib.hid hy
      have HN := Lib.hid (near_any p wr)
      have HB := Lib.hid hBr
      obtain ⟨q, hq⟩ : ∃ q, ptIn 1048576 p = q := ⟨_, rfl⟩
      rw [hq] at HN
      have HQ := Lib.hid hq
      clear hy hq hBr
      cases q
      · have HF : Hid (false = ok) := (allN_no HY.out HQ.out).symm.trans HO.out
        go_wp2_with fail
        refine HN.out.mono ?_
        rintro e w9 ⟨rfl, hb9⟩
        have HB9 := Lib.hid (bstep HB.out hb9)
        clear hb9
        go_wp2
        go_ret
        exact ⟨ret_bool HF.out, HB9.out⟩
      · go_wp2_with fail
        refine HN.out.mono ?_
        rintro e w9 ⟨rfl, hb9⟩
        have HB9 := Lib.hid (bstep HB.out hb9)
        clear hb9
        go_wp2
        go_roundw
        case rel => exact ⟨k + 1, by omega, by go_num, HB9.out, fun j z hj hz => by
          by_cases e : j = k
          · subst e; rw [HY.out] at hz; cases hz; exact HQ.out
          · exact hno.out j z (by omega) hz⟩
        case measure => simp [intOf]; omega
    · have HT : Hid (true = ok) := by
        unfold Hid
        rw [← HO.out]
        symm
        rw [List.all_eq_true]
        intro p hp
        obtain ⟨j, hj, rfl⟩ := List.getElem_of_mem hp
        exact hno.out j _ (by omega) (List.getElem?_eq_getElem hj)
      go_wp2
      go_ret
      exact ⟨ret_bool HT.out, hBr⟩

abbrev runCellsA (r : RunD) : Array Value := #[.string r.mark, .int .i64 r.tx, .int .i64 r.ty, .int .i64 r.at_.x, .int .i64 r.at_.y, .int .i64 r.at_.z, .int .i64 r.step.x, .int .i64 r.step.y, .int .i64 r.step.z, .int .i64 r.count]
structure PtsW (w : World) (A : Nat) (r : RunD) (q : Pt) (lv : Value) (P : List Pt) (o : Value) (D : List Pt) (wr : World) : Prop where
  below : Below w.heap.size w wr
  hA : w.heap.size + 1 < A
  run : BlkIs wr (w.heap.size + 1) 60 (runCellsA r)
  pos : BlkIs wr A 31 #[.int .i64 q.x, .int .i64 q.y, .int .i64 q.z]
  pth : Pts wr lv P
  old : ∀ b off n c, lv = .slice (some ⟨b, off, none⟩) n c → b < A
  own : OwnPts wr (A + 1) o D
abbrev PtsS4 (R : Nat) (s : Pt) (W : World) : Prop :=
  W.cell? ⟨R, 6, none⟩ = some (.int .i64 s.x) ∧ W.cell? ⟨R, 7, none⟩ = some (.int .i64 s.y) ∧ W.cell? ⟨R, 8, none⟩ = some (.int .i64 s.z)
abbrev PtsS9 (R A : Nat) (q : Pt) (x y : Int) (b o : Nat) (p : Pt) (W : World) : Prop :=
  W.cell? ⟨A, 0, none⟩ = some (.int .i64 q.x) ∧ W.cell? ⟨A, 1, none⟩ = some (.int .i64 q.y) ∧ W.cell? ⟨A, 2, none⟩ = some (.int .i64 q.z) ∧
  W.cell? ⟨R, 1, none⟩ = some (.int .i64 x) ∧ W.cell? ⟨R, 2, none⟩ = some (.int .i64 y) ∧
  W.cell? ⟨b, o, none⟩ = some (.int .i64 p.x) ∧ W.cell? ⟨b, o + 1, none⟩ = some (.int .i64 p.y) ∧ W.cell? ⟨b, o + 2, none⟩ = some (.int .i64 p.z)
section
variable {w : World} {A : Nat} {r : RunD} {q : Pt} {lv : Value} {P : List Pt} {o : Value} {D : List Pt} {wr wr' : World}
theorem PtsW.after (h : PtsW w A r q lv P o D wr) (hb : Below wr.heap.size wr wr') : PtsW w A r q lv P o D wr' :=
  ⟨bstep h.below hb, h.hA, h.run.below hb, h.pos.below hb, h.pth.below hb, h.old, OwnN.below h.own hb⟩
theorem PtsW.drew (h : PtsW w A r q lv P o D wr) : PtsW w A r q lv P o D wr.drew := ⟨h.below.drew, h.hA, h.run, h.pos, h.pth, h.old, h.own⟩
theorem PtsW.s4 (h : PtsW w A r q lv P o D wr) : PtsS4 (w.heap.size + 1) r.step wr := ⟨h.run.cell 6, h.run.cell 7, h.run.cell 8⟩
theorem PtsW.s9 {len cap j b off : Nat} {p : Pt} (h : PtsW w A r q (.slice (some ⟨b, off, none⟩) len cap) P o D wr) (hj : P[j]? = some p) : PtsS9 (w.heap.size + 1) A q r.tx r.ty b (off + j * 3) p wr := by
  obtain ⟨b', off', e, _, c0, c1, c2⟩ := pts_get h.pth hj
  cases e
  exact ⟨h.pos.cell 0, h.pos.cell 1, h.pos.cell 2, h.run.cell 1, h.run.cell 2, c0, c1, c2⟩
theorem PtsW.move (h : PtsW w A r q lv P (.slice none 0 0) [] wr) (q' : Pt) :
    PtsW w A r q' lv P (.slice none 0 0) [] (((wr.setCell ⟨A, 0, none⟩ (.int .i64 q'.x)).setCell ⟨A, 1, none⟩ (.int .i64 q'.y)).setCell ⟨A, 2, none⟩ (.int .i64 q'.z)) := by
  have hA := h.hA
  refine ⟨((h.below.setCell (by simp; omega) _).setCell (by simp; omega) _).setCell (by simp; omega) _, h.hA, ((h.run.far (by simp; omega) _).far (by simp; omega) _).far (by simp; omega) _, ((h.pos.set 0 _).set 1 _).set 2 _, h.pth.keep (by simp) (fun b o hb he => ?_), h.old, OwnN.nil _ _ _ _ _⟩
  obtain ⟨off, n, c, e⟩ := he
  have h1 := h.old _ _ _ _ e
  have hne : ∀ i, (⟨A, i, none⟩ : Addr) ≠ ⟨b, o, none⟩ := fun i e => by injection e with e1 _; omega
  rw [World.cell?_setCell_other _ _ _ _ (hne 2), World.cell?_setCell_other _ _ _ _ (hne 1), World.cell?_setCell_other _ _ _ _ (hne 0)]
theorem PtsW.push {o' : Value} {D' : List Pt} (h : PtsW w A r q lv P o D wr) (ho : OwnPts wr' (A + 1) o' D') (hg : wr.grownBy wr' o.ownBlock) : PtsW w A r q lv P o' D' wr' := by
  have hn : ∀ g, o.ownBlock = some g → A + 1 ≤ g := fun g hg => (h.own.lt g hg).1
  have hA := h.hA
  refine ⟨h.below.grown hg h.below.size (fun j hj => by have := hn j hj; omega), h.hA, ?_, ?_, h.pth.keep hg.size (fun b o' hb he => ?_), h.old, ho⟩
  · exact (hg.block _ h.run.lt (fun e => by have := hn _ e.symm; omega)).trans h.run
  · exact (hg.block _ h.pos.lt (fun e => by have := hn _ e.symm; omega)).trans h.pos
  · obtain ⟨off, n, c, e⟩ := he
    have h1 := h.old _ _ _ _ e
    exact World.cell?_of_block (a := ⟨b, o', none⟩) (hg.block b hb (fun e => by have := hn _ e.symm; omega))
end

def atK (r : RunD) (k : Int) : Pt := if 0 < k then padd r.at_ (pmul k r.step) else r.at_
def rptsOf (b : BarD) (r : RunD) (k : Int) : List Pt := (pathOf b).map fun p => padd (atK r k) (img r.tx r.ty p)
theorem rpts_eq (b : BarD) (r : RunD) (k : Int) : rptsOf b r k = (turnedOf b r).map (shiftP r k) := by
  unfold rptsOf turnedOf
  rw [List.map_map]
  refine List.map_congr_left fun p _ => ?_
  simp only [Function.comp, atK, shiftP]
  generalize img r.tx r.ty p = u
  split
  · rw [pmul_one]; unfold padd; simp only [Pt.mk.injEq]; omega
  · rw [pmul_one]; unfold padd; simp only [Pt.mk.injEq]; omega

set_option maxRecDepth 100000 in
set_option maxHeartbeats 4000000 in
theorem rpoints_any (b : BarD) (dv : Value) (r : RunD) (k : Int) (w : World) (hd : Ints w dv b.dims) (hok : barOk b = true) (ht : turnB r.tx r.ty = true) (ha : PtIn 1048576 r.at_) (hk0 : 0 ≤ k) (hk1 : k ≤ 999) (hs : 0 < k → PtIn 2097152 r.step) :
    Calls Try.prog 68 #[barv b dv, runv r, .int .i64 k] w fun e w' => ∃ o, e = .returned o ∧ Hid (OwnPts w' w.heap.size o (rptsOf b r k)) ∧ Below w.heap.size w w' := by
  obtain ⟨hx, hy⟩ := turn_axes ht
  have HPA := Lib.hid (fun W (hW : Below w.heap.size w W) => rpath_any b dv W (Sl.below hd hW) hok)
  have HNR : Hid (∀ p ∈ pathOf b, PtIn 1048576 p) := fun p hp => ptIn_iff.1 (List.all_eq_true.1 (path_near hok) p hp)
  have HL7 := Lib.hid (path_len (x := b))
  have HR : Hid (rptsOf b r k = (pathOf b).map fun p => padd (atK r k) (img r.tx r.ty p)) := rfl
  have hq : PtIn 4296015872 (atK r k) := by
    unfold atK
    split
    · rename_i h; exact (padd_bd ha (pstep_bd (hs h) hk0 hk1)).mono (by omega)
    · exact ha.mono (by omega)
  have HQ := Lib.hid hq
  have HT := Lib.hid (fun W (h : 0 < k) => times_any r.step k W ((pstep_bd (hs h) hk0 hk1).mono (by omega)))
  have HAT := Lib.hid (fun W (h : 0 < k) => rplus_any r.at_ (pmul k r.step) W (ha.mono (by omega)) ((pstep_bd (hs h) hk0 hk1).mono (by omega)))
  have HIM := Lib.hid (fun p (h : PtIn 1048576 p) W => rimage_any r.tx r.ty p W hx hy h)
  have HIB := Lib.hid (fun p (h : PtIn 1048576 p) => img_bd r.tx r.ty p hx hy h)
  have HQ0 : Hid (¬ 0 < k → atK r k = r.at_) := fun h => if_neg h
  have HQ1 : Hid (0 < k → atK r k = padd r.at_ (pmul k r.step)) := fun h => if_pos h
  clear hx hy ht ha hs hq
  generalize rptsOf b r k = R at *
  generalize pathOf b = P at *
  generalize atK r k = q at *
  obtain ⟨bm, bs, bc, bco, ds⟩ := b
  simp only at *
  obtain ⟨ao, cap, rfl, _⟩ := hd
  clear hok
  go_enter Try.func68, Try.ntmps68
  go_wp2_with fail
  refine (HPA.out _ (by go_grown)).mono ?_
  rintro e w1 ⟨lv, rfl, HLV, hb1⟩
  have hz1 : w.heap.size + 1 < w1.heap.size := by have := hb1.size; simp at this; omega
  have HRW : Hid (BlkIs w1 (w.heap.size + 1) 60 (runCellsA r)) := (BlkIs.new1 w _ _ _).below hb1
  have HB1 := Lib.hid (bstep (by go_grown) hb1 : Below w.heap.size w w1)
  have HF := Lib.hid (HLV.out.fl pt_len)
  have c3 := HRW.out.cell 3
  have c4 := HRW.out.cell 4
  have c5 := HRW.out.cell 5
  have HOLD : Hid (∀ b off n c, lv = .slice (some ⟨b, off, none⟩) n c → b < w1.heap.size) := fun b off n c e => by
    subst e
    rcases HLV.out.2 with ⟨h1, _⟩ | ⟨g, cap, cur, h1, _, hg, _⟩
    · cases h1
    · cases h1
      exact (Array.getElem?_eq_some_iff.1 hg).1
  obtain ⟨lo, lcap, rfl⟩ := HF.out.at_
  have HW0 : Hid (PtsW w w1.heap.size r r.at_ (.slice lo P.length lcap) P (.slice none 0 0) [] (w1.alloc (.cells #[.int .i64 r.at_.x, .int .i64 r.at_.y, .int .i64 r.at_.z] 31))) :=
    ⟨HB1.out.alloc HB1.out.size _, hz1, HRW.out.alloc _, BlkIs.new _ _ _, HF.out.below (below_new _ _), HOLD.out, OwnN.nil _ _ _ _ _⟩
  clear hb1 HLV HPA HB1 HF HRW HOLD
  go_upto_if 16 with fail
  obtain ⟨W0, hW0⟩ : ∃ W0, w1.alloc (.cells #[.int .i64 r.at_.x, .int .i64 r.at_.y, .int .i64 r.at_.z] 31) = W0 := ⟨_, rfl⟩
  rw [hW0] at HW0 ⊢
  clear hW0 c3 c4 c5
  go_cut [] (fun wc => Hid (PtsW w w1.heap.size r q (.slice lo P.length lcap) P (.slice none 0 0) [] wc))
  case first =>
    by_cases hk : 0 < k
    · have HW := Lib.hid HW0.out
      have HT1 := Lib.hid (fun W => HT.out W hk)
      have HT2 := Lib.hid (fun W => HAT.out W hk)
      have HQQ := Lib.hid (HQ1.out hk)
      clear HW0 HT HAT HQ1 HQ0
      obtain ⟨s0, s1, s2⟩ := HW.out.s4
      have c0 := fun d os => cell_regrown (HW.out.pos.cell 0) d os
      have c1 := fun d os => cell_regrown (HW.out.pos.cell 1) d os
      have c2 := fun d os => cell_regrown (HW.out.pos.cell 2) d os
      have c6 := fun d os => cell_regrown s0 d os
      have c7 := fun d os => cell_regrown s1 d os
      have c8 := fun d os => cell_regrown s2 d os
      clear s0 s1 s2
      go_upto_region 4 with fail
      refine wp_region_below_tail 6 (by kernel_rfl) (by kernel_rfl) ?_
      simp only [List.take_succ_cons, List.take_zero, List.drop_succ_cons, List.drop_zero]
      repeat (go_big_quiet_step ((first
        | (go_at_call 86; exact Calls.regrown_of (HT1.out _))
        | (go_at_call 58; exact Calls.regrown_of (HT2.out _)))))
      refine wpQuiet_nil ?_
      intro _ hw'
      obtain ⟨⟨nq, osq⟩, hw''⟩ := hw'
      subst hw''
      have HW2 := Lib.hid (HW.out.after (below_regrown _ nq osq))
      clear c0 c1 c2 c6 c7 c8 HW HT1 HT2
      generalize Go.Sort.grow (redrawn W0 nq) osq = W2 at *
      have c0 := HW2.out.pos.cell 0
      have c1 := HW2.out.pos.cell 1
      have c2 := HW2.out.pos.cell 2
      have f0 := HW2.out.pos.free
      have z0 := HW2.out.pos.lt
      go_wp2_with fail
      go_meet
      case rel => rw [HQQ.out]; exact HW2.out.move _
    · have HE := Lib.hid (HQ0.out (by omega))
      go_wp2_with fail
      go_meet
      case rel => rw [HE.out]; exact HW0.out
  case rest =>
    have HW1 := hcut
    have hIX : Hid (∀ (j : Nat) (p : Pt), P[j]? = some p → PtIn 1048576 p) := fun j p h => HNR.out p (List.mem_of_getElem? h)
    have hl7 := HL7.out
    clear hcut HW0 HT HAT HQ0 HQ1 HNR HL7
    go_wp2_with fail
    go_loopw [9, 10] (fun o i wr => ∃ j : Nat, j ≤ P.length ∧ i = .int .i64 j ∧ PtsW w w1.heap.size r q (.slice lo P.length lcap) P o ((P.take j).map fun p => padd q (img r.tx r.ty p)) wr) (fun _ i _ => P.length - (intOf i).toNat)
    case atStart => exact ⟨0, Nat.zero_le _, rfl, HW1.out⟩
    case round =>
      clear HW1
      obtain ⟨j, hj, rfl, hW⟩ := hrel
      by_cases hlt : j < P.length
      · obtain ⟨p, hp⟩ : ∃ y, P[j]? = some y := ⟨_, List.getElem?_eq_getElem hlt⟩
        obtain ⟨pb', poff, e, hpl, _, _, _⟩ := pts_get hW.pth hp
        cases e
        have HW := Lib.hid hW
        have HS := Lib.hid (snoc_map (fun p => padd q (img r.tx r.ty p)) hp)
        have HP := Lib.hid hp
        have hpn := hIX.out j p hp
        have HI := Lib.hid (fun W => HIM.out p hpn W)
        have HPL := Lib.hid (fun W => rplus_any q (img r.tx r.ty p) W (HQ.out.mono (by omega)) ((HIB.out p hpn).mono (by omega)))
        have hlen : ((P.take j).map fun p => padd q (img r.tx r.ty p)).length + 1 ≤ 1099511627776 := by simp; omega
        have i0 : (0 : Int) ≤ (j : Int) := by omega
        have i1 : (j : Int) < (P.length : Int) := by omega
        generalize hu : padd q (img r.tx r.ty p) = u at *
        generalize ((P.take j).map fun p => padd q (img r.tx r.ty p)) = D at *
        generalize img r.tx r.ty p = g at *
        clear hp hW hu hpn
        obtain ⟨wo, rfl⟩ : ∃ wo : World, wo = wr := ⟨_, rfl⟩
        obtain ⟨s0, s1, s2, s3, s4, s5, s6, s7⟩ := HW.out.s9 HP.out
        have c0 := fun d os => cell_regrown s0 d os
        have c1 := fun d os => cell_regrown s1 d os
        have c2 := fun d os => cell_regrown s2 d os
        have c3 := fun d os => cell_regrown s3 d os
        have c4 := fun d os => cell_regrown s4 d os
        have c5 := fun d os => cell_regrown s5 d os
        have c6 := fun d os => cell_regrown s6 d os
        have c7 := fun d os => cell_regrown s7 d os
        clear s0 s1 s2 s3 s4 s5 s6 s7
        go_upto_region 9 with fail
        refine wp_region_below_tail1 9 _ rfl rfl (by kernel_rfl) (by kernel_rfl) (fun _ _ _ h => h) ?_
        simp only [List.take_succ_cons, List.take_zero, List.drop_succ_cons, List.drop_zero, Act.put, List.setIfInBounds_toArray, List.set_cons_zero, List.set_cons_succ, go_sem]
        repeat (go_big_quiet_step ((first
          | (go_at_call 87; exact Calls.regrown_of (HI.out _))
          | (go_at_call 58; exact Calls.regrown_of (HPL.out _)))))
        refine wpQuiet_nil ?_
        intro _ hw'
        obtain ⟨⟨nq, osq⟩, hw''⟩ := hw'
        subst hw''
        have HW2 := Lib.hid (HW.out.after (below_regrown _ nq osq))
        clear c0 c1 c2 c3 c4 c5 c6 c7 HW HI HPL
        generalize Go.Sort.grow (redrawn wo nq) osq = W2 at *
        have hb2 : w1.heap.size + 1 ≤ W2.heap.size := by have := HW2.out.pos.lt; omega
        go_wp2_with (at_builtin; refine wpList_pushAt _ W2.heap.size rfl rfl _ _ 82 rfl 31 3 24 elemPt (w1.heap.size + 1) ptCells _ _ u _ rfl rfl (pt_one _) HW2.out.own rfl rfl hlen (by omega) hb2 ?_; intro v' w' hown' hg' hat'; have HN := Lib.hid (HW2.out.push hown' hg'); clear hown' hg' hat')
        go_roundw
        case rel => exact ⟨j + 1, by omega, by go_num, by rw [HS.out]; exact HN.out⟩
        case measure => simp [intOf]; omega
      · obtain rfl : j = P.length := by omega
        rw [List.take_length] at hW
        have HO := Lib.hid hW.own
        have HBW := Lib.hid hW.below
        have hz2 : w.heap.size ≤ w1.heap.size + 1 := by omega
        clear hW
        go_wp2
        go_ret
        exact ⟨_, rfl, by rw [HR.out]; exact HO.out.mono hz2, HBW.out⟩
end Go.Proofs.Ytpidjgljeooblaa
