/-
  The reference's path of a bar is the program's.
-/
import Derived.Test.YtpidjgljeooblaaRmC
namespace Go.Proofs.Ytpidjgljeooblaa
open Go.RowKit
set_option linter.unusedVariables false
set_option linter.unusedSimpArgs false
attribute [local go_sem ↓] Go.wp_at_zero Go.wp_at_succ

def sumP (ms : List Pt) (k : Nat) : Pt := (ms.take k).foldl padd ⟨0, 0, 0⟩
def sumsP (ms : List Pt) (k : Nat) : List Pt := (List.range (k + 1)).map (sumP ms)
theorem sumP_succ {ms : List Pt} {k : Nat} {m : Pt} (h : ms[k]? = some m) : sumP ms (k + 1) = padd (sumP ms k) m := by
  have hk := (List.getElem?_eq_some_iff.1 h).1
  unfold sumP
  rw [List.take_succ_eq_append_getElem hk, List.foldl_append, (List.getElem?_eq_some_iff.1 h).2]
  rfl
theorem sumsP_succ (ms : List Pt) (k : Nat) : sumsP ms (k + 1) = sumsP ms k ++ [sumP ms (k + 1)] := by
  unfold sumsP
  rw [List.range_succ, List.map_append]; rfl
theorem sumsP_len (ms : List Pt) (k : Nat) : (sumsP ms k).length = k + 1 := by simp [sumsP]
theorem sumP_pos (d : List Int) (ls : List (Nat × Nat)) (k : Nat) : sumP (ls.map (moveOf d)) k = posP d ls k := by
  have key : ∀ (l : List (Nat × Nat)) (p : Pt), (l.map (moveOf d)).foldl padd p = l.foldl (fun p l => stepP p l.2 (d[l.1]?.getD 0)) p := by
    intro l
    induction l with
    | nil => intro p; rfl
    | cons a l ih =>
      intro p
      simp only [List.map_cons, List.foldl_cons]
      rw [ih, stepP_move p]
      rfl
  unfold sumP posP
  rw [← List.map_take, key]
theorem sumsP_path (x : BarD) : sumsP (movesOf x) (movesOf x).length = pathOf x := by
  unfold sumsP pathOf pathN movesOf
  rw [List.length_map]
  exact List.map_congr_left fun k _ => sumP_pos _ _ k

structure RPathW (w : World) (A : Nat) (ms : List Pt) (mv : Value) (k j : Nat) (o : Value) (wr : World) : Prop where
  below : Below w.heap.size w wr
  hA : w.heap.size < A
  pos : BlkIs wr A 31 #[.int .i64 (sumP ms j).x, .int .i64 (sumP ms j).y, .int .i64 (sumP ms j).z]
  own : OwnPts wr (A + 1) o (sumsP ms k)
  mvs : Pts wr mv ms
  old : ∀ b off n c, mv = .slice (some ⟨b, off, none⟩) n c → b < A
section
variable {w : World} {A : Nat} {ms : List Pt} {mv : Value} {k j : Nat} {o : Value} {wr : World}
theorem RPathW.new (h : RPathW w A ms mv k j o wr) (ob : Obj) : RPathW w A ms mv k j o (wr.alloc ob) :=
  ⟨h.below.alloc h.below.size _, h.hA, h.pos.alloc _, h.own.alloc _, h.mvs.below (below_new _ _), h.old⟩
theorem RPathW.drew (h : RPathW w A ms mv k j o wr) : RPathW w A ms mv k j o wr.drew := ⟨h.below.drew, h.hA, h.pos, h.own, h.mvs, h.old⟩
theorem RPathW.move (h : RPathW w A ms mv k j o wr) {q : Pt} (hq : sumP ms (j + 1) = q) :
    RPathW w A ms mv k (j + 1) o (((wr.setCell ⟨A, 0, none⟩ (.int .i64 q.x)).setCell ⟨A, 1, none⟩ (.int .i64 q.y)).setCell ⟨A, 2, none⟩ (.int .i64 q.z)) := by
  have hA := h.hA
  subst hq
  refine ⟨((h.below.setCell (by simp; omega) _).setCell (by simp; omega) _).setCell (by simp; omega) _, h.hA, ((h.pos.set 0 _).set 1 _).set 2 _, ((h.own.far (by omega)).far (by omega)).far (by omega), h.mvs.keep (by simp) (fun b o hb he => ?_), h.old⟩
  obtain ⟨off, n, c, e⟩ := he
  have h1 := h.old _ _ _ _ e
  have hne : ∀ i, (⟨A, i, none⟩ : Addr) ≠ ⟨b, o, none⟩ := fun i e => by injection e with e1 _; omega
  rw [World.cell?_setCell_other _ _ _ _ (hne 2), World.cell?_setCell_other _ _ _ _ (hne 1), World.cell?_setCell_other _ _ _ _ (hne 0)]
theorem RPathW.push {v' : Value} {w' : World} (h : RPathW w A ms mv k (k + 1) o wr) (ho : OwnPts w' (A + 1) v' (sumsP ms k ++ [sumP ms (k + 1)])) (hg : wr.grownBy w' o.ownBlock) : RPathW w A ms mv (k + 1) (k + 1) v' w' := by
  have hn : ∀ g, o.ownBlock = some g → A + 1 ≤ g := fun g hg => (h.own.lt g hg).1
  have hA := h.hA
  refine ⟨h.below.grown hg h.below.size (fun j hj => by have := hn j hj; omega), h.hA, ?_, by rw [sumsP_succ]; exact ho, h.mvs.keep hg.size (fun b o' hb he => ?_), h.old⟩
  · exact (hg.block _ h.pos.lt (fun e => by have := hn _ e.symm; omega)).trans h.pos
  · obtain ⟨off, n, c, e⟩ := he
    have h1 := h.old _ _ _ _ e
    exact World.cell?_of_block (a := ⟨b, o', none⟩) (hg.block b hb (fun e => by have := hn _ e.symm; omega))
end

set_option maxRecDepth 100000 in
set_option maxHeartbeats 4000000 in
theorem rpath_any (x : BarD) (dv : Value) (w : World) (hd : Ints w dv x.dims) (hok : barOk x = true) :
    Calls Try.prog 85 #[barv x dv] w fun e w' => ∃ o, e = .returned o ∧ Hid (OwnPts w' w.heap.size o (pathOf x)) ∧ Below w.heap.size w w' := by
  obtain ⟨p1, p2, p3, p4⟩ := barOk_parts hok
  have HM := Lib.hid (fun W (hW : Below w.heap.size w W) => rmoves_any x dv W (Sl.below hd hW) hok)
  have HP := Lib.hid (sumsP_path x)
  have HBD : Hid (∀ k : Nat, PtIn (k * 262144) (sumP (movesOf x) k)) := fun k => by unfold movesOf; rw [sumP_pos]; exact pos_bd p2 p3 k
  have hl6 : (movesOf x).length ≤ 6 := by unfold movesOf; rw [List.length_map]; exact legs_len6 _
  generalize pathOf x = P at *
  generalize movesOf x = ms at *
  obtain ⟨m, s, c, co, ds⟩ := x
  simp only at *
  obtain ⟨ao, cap, rfl, _⟩ := hd
  clear p1 p2 p3 p4 hok
  go_enter Try.func85, Try.ntmps85
  go_wp2_with fail
  refine (HM.out _ (by go_grown)).mono ?_
  rintro e w1 ⟨mv, rfl, HMV, hb1⟩
  have HB1 := Lib.hid (bstep (by go_grown) hb1 : Below w.heap.size w w1)
  have hz1 : w.heap.size < w1.heap.size := by have := hb1.size; simp at this; omega
  have HF := Lib.hid (HMV.out.fl pt_len)
  have HW0 : Hid (RPathW w w1.heap.size ms mv 0 0 (.slice (some ⟨w1.heap.size + 1, 0, none⟩) 1 1) ((w1.alloc (.cells #[.int .i64 0, .int .i64 0, .int .i64 0] 31)).alloc (.cells #[.int .i64 0, .int .i64 0, .int .i64 0] 31))) := by
    refine ⟨(HB1.out.alloc HB1.out.size _).alloc (by have := HB1.out.size; simp; omega) _, hz1, (BlkIs.new w1 _ _).alloc _, ?_, (HF.out.below (below_new _ _)).below (below_new _ _), fun b off n c e => ?_⟩
    · have h := own_lit (w1.alloc (.cells #[.int .i64 0, .int .i64 0, .int .i64 0] 31)) 31 3 ptCells (sumsP ms 0) #[.int .i64 0, .int .i64 0, .int .i64 0] 1 (w1.heap.size + 1) (by simp) rfl rfl pt_len (by simp [sumsP])
      rw [World.size_alloc] at h
      exact h
    · subst e
      rcases HMV.out.2 with ⟨h1, _⟩ | ⟨g, cap, cur, h1, _, hg, _⟩
      · cases h1
      · cases h1
        exact (Array.getElem?_eq_some_iff.1 hg).1
  obtain ⟨mo, mcap, rfl⟩ := HF.out.at_
  clear hb1 HMV HF HM
  go_wp2_with fail
  go_loopw [5, 6] (fun o i wr => ∃ k : Nat, k ≤ ms.length ∧ i = .int .i64 k ∧ RPathW w w1.heap.size ms (.slice mo ms.length mcap) k k o wr) (fun _ i _ => ms.length - (intOf i).toNat)
  case atStart => exact ⟨0, Nat.zero_le _, rfl, HW0.out⟩
  case round =>
    clear HW0
    obtain ⟨k, hk, rfl, HW⟩ := hrel
    by_cases hlt : k < ms.length
    · obtain ⟨y, hy⟩ : ∃ y, ms[k]? = some y := ⟨_, List.getElem?_eq_getElem hlt⟩
      obtain ⟨b, off, rfl, hbl, g0, g1, g2⟩ := pts_get HW.mvs hy
      have HS := Lib.hid (sumP_succ hy)
      obtain ⟨q1, q2, q3, q4, q5, q6⟩ := HBD.out k
      obtain ⟨r1, r2, r3, r4, r5, r6⟩ := HBD.out (k + 1)
      rw [HS.out] at r1 r2 r3 r4 r5 r6
      simp only [padd] at r1 r2 r3 r4 r5 r6
      have t0 := HW.pos.cell 0
      have t1 := HW.pos.cell 1
      have t2 := HW.pos.cell 2
      have tf := HW.pos.free
      have hzw := HW.pos.lt
      have hplen : (sumsP ms k).length + 1 ≤ 1099511627776 := by rw [sumsP_len]; omega
      have hbase := HW.hA
      have HW := Lib.hid HW
      generalize hq : sumP ms k = q at *
      have HQ := Lib.hid hq
      have HM2 := Lib.hid (HW.out.drew.move (j := k) (q := padd q y) HS.out)
      have HS2 : Hid (sumP ms (k + 1) = padd q y) := HS
      clear hy hq HS
      go_upto_region 7 with fail
      go_still_tail 25, (by kernel_rfl)
      change wpList _ _ _ _ _ wr.drew
      simp only [padd] at HM2
      go_wp2_with (at_builtin; refine wpList_pushAt _ wr.heap.size (by simp) rfl _ _ 82 rfl 31 3 24 elemPt (w1.heap.size + 1) ptCells _ _ (padd q y) _ rfl rfl (pt_one _) HM2.out.own rfl rfl hplen (by omega) (by omega) ?_; intro v' w' hown' hg' hat'; have HP9 := Lib.hid (HM2.out.push (by rw [HS2.out]; exact hown') hg'); clear hown' hg' hat')
      go_roundw
      case rel => exact ⟨k + 1, by omega, by go_num, HP9.out⟩
      case measure => simp [intOf]; omega
    · obtain rfl : k = ms.length := by omega
      have HO := Lib.hid HW.own
      have HBW := Lib.hid HW.below
      have hz2 : w.heap.size ≤ w1.heap.size + 1 := by omega
      clear HW
      go_wp2
      go_ret
      exact ⟨_, rfl, by rw [← HP.out]; exact HO.out.mono hz2, HBW.out⟩
end Go.Proofs.Ytpidjgljeooblaa
