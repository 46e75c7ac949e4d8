/-
  The reference's hull of points is the program's.
-/
import Derived.Test.YtpidjgljeooblaaRmD
import Derived.Test.YtpidjgljeooblaaLgs
namespace Go.Proofs.Ytpidjgljeooblaa
open Go.RowKit
set_option linter.unusedVariables false
set_option linter.unusedSimpArgs false
attribute [local go_sem ↓] Go.wp_at_zero Go.wp_at_succ

theorem hull2_self (p : Pt) : hull2 (pb p) (pb p) = pb p := by
  unfold hull2 pb mn mx
  simp
theorem hullN_one {l : List Pt} {p : Pt} (h : l[0]? = some p) : hullN (pb p) (l.map pb) 1 = pb p := by
  have h1 : (l.map pb)[0]? = some (pb p) := by rw [List.getElem?_map, h]; rfl
  have h2 := hullN_succ (x := pb p) h1
  rw [Nat.zero_add] at h2
  rw [h2]
  exact hull2_self p
theorem hullP_eq {l : List Pt} {p : Pt} (h : l[0]? = some p) : hullP l = hullN (pb p) (l.map pb) l.length := by
  unfold hullP
  rw [List.length_map, List.getD_eq_getElem?_getD, h]
  rfl

set_option maxRecDepth 100000 in
set_option maxHeartbeats 4000000 in
theorem rhull_any (v : Value) (l : List Pt) (p : Pt) (w : World) (hp : Pts w v l) (hl : l.length ≤ 140737488355328) (hx : l[0]? = some p) :
    Calls Try.prog 46 #[v] w fun e w' => e = .returned (bxv (hullP l)) ∧ Below w.heap.size w w' := by
  obtain ⟨ao, cap, rfl⟩ := hp.at_
  have HP := Lib.hid hp
  have hl0 : 0 < l.length := (List.getElem?_eq_some_iff.1 hx).1
  have i0 : (0 : Int) < (l.length : Int) := by omega
  have HX := Lib.hid hx
  have HQ := Lib.hid (hullP_eq hx)
  have H1 := Lib.hid (hullN_one hx)
  generalize hullP l = R at *
  clear hp hx
  go_enter Try.func46, Try.ntmps46
  go_upto_region 1 with fail
  obtain ⟨W, hW⟩ : ∃ W, w.alloc (.cells #[.int .i64 0, .int .i64 0, .int .i64 0, .int .i64 0, .int .i64 0, .int .i64 0] 33) = W := ⟨_, rfl⟩
  have HB0 : Hid (Below w.heap.size w W) := by rw [← hW]; exact below_new _ _
  have HR0 : Hid (BlkIs W w.heap.size 33 #[.int .i64 0, .int .i64 0, .int .i64 0, .int .i64 0, .int .i64 0, .int .i64 0]) := by rw [← hW]; exact BlkIs.new _ _ _
  have hz0 : W.heap.size = w.heap.size + 1 := by rw [← hW]; simp
  obtain ⟨b, off, rfl, hbl, c0, c1, c2⟩ := pts_get (HP.out.below HB0.out) HX.out
  rw [Nat.zero_mul, Nat.add_zero] at c0 c1 c2
  rw [hW]
  have HZ0 := Lib.hid hz0
  clear hW hz0
  go_region_held3 (fun w' => w'.cell? ⟨b, off, none⟩ = some (.int .i64 p.x) ∧ w'.cell? ⟨b, off + 1, none⟩ = some (.int .i64 p.y) ∧ w'.cell? ⟨b, off + 2, none⟩ = some (.int .i64 p.z)) ((first | (refine ⟨?_, ?_, ?_⟩ <;> (go_simp; done)) | fail)) ((first | fail | fail))
  go_wp2_with fail
  have H0 : Hid (HullW w W.heap.size (hullN (pb p) (l.map pb) 1) (W.alloc (.cells (bxCellsA (pb p)) 33)).drew) := by rw [H1.out]; exact ⟨(HB0.out.alloc HB0.out.size _).drew, HR0.out.lt, HR0.out.alloc _, BlkIs.new _ _ _⟩
  clear HB0 HR0 HZ0 c0 c1 c2 hbl
  go_loopw [4] (fun i wr => ∃ k : Nat, 1 ≤ k ∧ k ≤ l.length ∧ i = .int .i64 k ∧ HullW w W.heap.size (hullN (pb p) (l.map pb) k) wr) (fun i _ => l.length - (intOf i).toNat)
  case atStart => exact ⟨1, by omega, hl0, rfl, H0.out⟩
  case round =>
    clear H0
    obtain ⟨k, hk1, hk, rfl, HI⟩ := hrel
    by_cases hk2 : k < l.length
    · obtain ⟨y, hy⟩ : ∃ y, l[k]? = some y := ⟨_, List.getElem?_eq_getElem hk2⟩
      obtain ⟨bb, boff, e, hbl2, c0, c1, c2⟩ := pts_get (HP.out.below HI.below) hy
      cases e
      have HS := Lib.hid (hullN_succ (x := pb p) (l := l.map pb) (k := k) (y := pb y) (by rw [List.getElem?_map, hy]; rfl))
      generalize hullN (pb p) (l.map pb) k = cur at *
      have HN := Lib.hid (HI.next (y := pb y) (.cells #[.int .i64 y.x, .int .i64 y.y, .int .i64 y.z] 31))
      have d0 := HI.cur.cell 0
      have d1 := HI.cur.cell 1
      have d2 := HI.cur.cell 2
      have d3 := HI.cur.cell 3
      have d4 := HI.cur.cell 4
      have d5 := HI.cur.cell 5
      have df := HI.cur.free
      have dz := HI.cur.lt
      clear hy HI
      go_wp2
      go_roundw
      case rel => exact ⟨k + 1, by omega, by omega, by go_num, by rw [HS.out]; exact HN.out⟩
      case measure => simp [intOf]; omega
    · obtain rfl : k = l.length := by omega
      generalize hq : hullN (pb p) (l.map pb) l.length = cur at *
      have HQ2 := Lib.hid hq
      clear hq
      have d0 := HI.cur.cell 0
      have d1 := HI.cur.cell 1
      have d2 := HI.cur.cell 2
      have d3 := HI.cur.cell 3
      have d4 := HI.cur.cell 4
      have d5 := HI.cur.cell 5
      have e0 := HI.res.cell 0
      have e1 := HI.res.cell 1
      have e2 := HI.res.cell 2
      have e3 := HI.res.cell 3
      have e4 := HI.res.cell 4
      have e5 := HI.res.cell 5
      have ef := HI.res.free
      have HII := Lib.hid HI
      clear HI
      go_wp2
      refine bodyPost_ret (v := bxv cur) (by simp [results, Try.results46, go_sem, e0, e1, e2, e3, e4, e5, ef]) rfl ⟨by rw [HQ.out], ?_⟩
      exact HII.out.below.grown (grown_set6 _ _ _ _ _ _ _ _) HII.out.below.size (fun g e => by cases e; exact Nat.le_refl _)
end Go.Proofs.Ytpidjgljeooblaa
