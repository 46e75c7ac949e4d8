/-
  The hull of boxes.
-/
import Derived.Test.YtpidjgljeooblaaBxA
import Derived.Test.YtpidjgljeooblaaLdH
namespace Go.Proofs.Ytpidjgljeooblaa
open Go.RowKit
set_option linter.unusedVariables false
set_option linter.unusedSimpArgs false

def mn (a b : Int) : Int := if b < a then b else a
def mx (a b : Int) : Int := if a < b then b else a
def hull2 (a b : Bx) : Bx := ⟨⟨mn a.lo.x b.lo.x, mn a.lo.y b.lo.y, mn a.lo.z b.lo.z⟩, ⟨mx a.hi.x b.hi.x, mx a.hi.y b.hi.y, mx a.hi.z b.hi.z⟩⟩
def hullN (x : Bx) (l : List Bx) (k : Nat) : Bx := (l.take k).foldl hull2 x
theorem hullN_succ {x : Bx} {l : List Bx} {k : Nat} {y : Bx} (h : l[k]? = some y) : hullN x l (k + 1) = hull2 (hullN x l k) y := by
  have hk := (List.getElem?_eq_some_iff.1 h).1
  unfold hullN
  rw [List.take_succ_eq_append_getElem hk, List.foldl_append, (List.getElem?_eq_some_iff.1 h).2]
  rfl
/-- The hull of boxes, the first of which is x. -/
def hullL (l : List Bx) : Bx := match l with | [] => ⟨⟨0, 0, 0⟩, ⟨0, 0, 0⟩⟩ | x :: l => hullN x (x :: l) (x :: l).length

abbrev set6 (w : World) (g : Nat) (a b c d e f : Value) : World := (((((w.setCell ⟨g, 0, none⟩ a).setCell ⟨g, 1, none⟩ b).setCell ⟨g, 2, none⟩ c).setCell ⟨g, 3, none⟩ d).setCell ⟨g, 4, none⟩ e).setCell ⟨g, 5, none⟩ f
theorem blk_set6 {w : World} {g : Nat} {t : TypeId} {a0 a1 a2 a3 a4 a5 : Value} (h : BlkIs w g t #[a0, a1, a2, a3, a4, a5]) (a b c d e f : Value) : BlkIs (set6 w g a b c d e f) g t #[a, b, c, d, e, f] :=
  (((((h.set 0 a).set 1 b).set 2 c).set 3 d).set 4 e).set 5 f
theorem grown_set6 (w : World) (g : Nat) (a b c d e f : Value) : w.grownBy (set6 w g a b c d e f) (some g) :=
  only_trans (only_trans (only_trans (only_trans (only_trans (only_set w g _ a) (only_set _ g _ b)) (only_set _ g _ c)) (only_set _ g _ d)) (only_set _ g _ e)) (only_set _ g _ f)
theorem blk_far6 {w : World} {g G : Nat} {t : TypeId} {cs : Array Value} (h : BlkIs w g t cs) (hne : g ≠ G) (a b c d e f : Value) : BlkIs (set6 w G a b c d e f) g t cs :=
  (((((h.far hne a).far hne b).far hne c).far hne d).far hne e).far hne f
structure HullW (w : World) (H : Nat) (cur : Bx) (wr : World) : Prop where
  below : Below w.heap.size w wr
  hH : w.heap.size < H
  res : BlkIs wr w.heap.size 33 #[.int .i64 0, .int .i64 0, .int .i64 0, .int .i64 0, .int .i64 0, .int .i64 0]
  cur : BlkIs wr H 33 (bxCellsA cur)
theorem HullW.next {w : World} {H : Nat} {cur y : Bx} {wr : World} (h : HullW w H cur wr) (ob : Obj) :
    HullW w H (hull2 cur y) ((set6 wr H (.int .i64 (mn cur.lo.x y.lo.x)) (.int .i64 (mn cur.lo.y y.lo.y)) (.int .i64 (mn cur.lo.z y.lo.z)) (.int .i64 (mx cur.hi.x y.hi.x)) (.int .i64 (mx cur.hi.y y.hi.y)) (.int .i64 (mx cur.hi.z y.hi.z))).alloc ob) := by
  have hH := h.hH
  have hg := grown_set6 wr H (.int .i64 (mn cur.lo.x y.lo.x)) (.int .i64 (mn cur.lo.y y.lo.y)) (.int .i64 (mn cur.lo.z y.lo.z)) (.int .i64 (mx cur.hi.x y.hi.x)) (.int .i64 (mx cur.hi.y y.hi.y)) (.int .i64 (mx cur.hi.z y.hi.z))
  exact ⟨(h.below.grown hg h.below.size (fun g e => by cases e; omega)).alloc (Nat.le_trans h.below.size hg.size) _, hH, (blk_far6 h.res (by omega) _ _ _ _ _ _).alloc _, (blk_set6 h.cur _ _ _ _ _ _).alloc _⟩

set_option maxRecDepth 100000 in
set_option maxHeartbeats 4000000 in
theorem bhull_any (v : Value) (l : List Bx) (x : Bx) (w : World) (hp : Bxs w v l) (hl : l.length ≤ 140737488355328) (hx : l[0]? = some x) (hv : l.all bxOk = true) :
    Calls Try.prog 39 #[v] w fun e w' => e = .returned (.tuple #[bxv (hullN x l l.length), .int .i64 0]) ∧ Below w.heap.size w w' := by
  obtain ⟨ao, cap, rfl⟩ := hp.at_
  have HP := Lib.hid hp
  have HA := Lib.hid (ball_any _ l _ (hp.below (below_new _ (.cells #[.int .i64 0, .int .i64 0, .int .i64 0, .int .i64 0, .int .i64 0, .int .i64 0] 33))) hl)
  rw [hv] at HA
  have hl0 : 0 < l.length := (List.getElem?_eq_some_iff.1 hx).1
  have hl1 : ((l.length : Int) == 0) = false := beq_no (by omega)
  have HX := Lib.hid hx
  clear hp hv hx
  go_enter Try.func39, Try.ntmps39
  go_wp2_with fail
  refine HA.out.mono ?_
  rintro e w1 ⟨rfl, hb1⟩
  have HB1 := Lib.hid (bstep (below_new _ _) hb1)
  have HR1 := Lib.hid ((BlkIs.new w _ _).below hb1)
  obtain ⟨b, off, rfl, hbl, c0, c1, c2, c3, c4, c5⟩ := bxs_get (HP.out.below HB1.out) HX.out
  have i0 : (0 : Int) < (l.length : Int) := by omega
  clear hb1
  rw [Nat.zero_mul, Nat.add_zero] at c0 c1 c2 c3 c4 c5
  go_wp2_with fail
  have H0 : Hid (HullW w w1.heap.size (hullN x l 0) (w1.alloc (.cells (bxCellsA x) 33))) := ⟨HB1.out.alloc HB1.out.size _, HR1.out.lt, HR1.out.alloc _, BlkIs.new _ _ _⟩
  clear c0 c1 c2 c3 c4 c5 HA
  go_loopw [22] (fun i wr => ∃ k : Nat, k ≤ l.length ∧ i = .int .i64 k ∧ HullW w w1.heap.size (hullN x l k) wr) (fun i _ => l.length - (intOf i).toNat)
  case atStart => exact ⟨0, Nat.zero_le _, rfl, H0.out⟩
  case round =>
    obtain ⟨k, hk, rfl, HI⟩ := hrel
    by_cases hk2 : k < l.length
    · obtain ⟨y, hy⟩ : ∃ y, l[k]? = some y := ⟨_, List.getElem?_eq_getElem hk2⟩
      obtain ⟨bb, boff, e, hbl2, c0, c1, c2, c3, c4, c5⟩ := bxs_get (HP.out.below HI.below) hy
      cases e
      have HS := Lib.hid (hullN_succ (x := x) hy)
      generalize hullN x l k = cur at *
      have HN := Lib.hid (HI.next (y := y) (.cells (bxCellsA y) 33))
      have d0 := HI.cur.cell 0
      have d1 := HI.cur.cell 1
      have d2 := HI.cur.cell 2
      have d3 := HI.cur.cell 3
      have d4 := HI.cur.cell 4
      have d5 := HI.cur.cell 5
      have df := HI.cur.free
      have dz := HI.cur.lt
      clear hy
      go_wp2
      go_roundw
      case rel => exact ⟨k + 1, by omega, by go_num, by rw [HS.out]; exact HN.out⟩
      case measure => simp [intOf]; omega
    · obtain rfl : k = l.length := by omega
      generalize hq : hullN x l l.length = cur at *
      have HQ := Lib.hid hq
      clear hq
      have d0 := HI.cur.cell 0
      have d1 := HI.cur.cell 1
      have d2 := HI.cur.cell 2
      have d3 := HI.cur.cell 3
      have d4 := HI.cur.cell 4
      have d5 := HI.cur.cell 5
      have e0 := HI.res.cell 0
      have e1 := HI.res.cell 1
      have e2 := HI.res.cell 2
      have e3 := HI.res.cell 3
      have e4 := HI.res.cell 4
      have e5 := HI.res.cell 5
      have ef := HI.res.free
      have HII := Lib.hid HI
      clear HI
      go_wp2
      refine bodyPost_ret (v := .tuple #[bxv cur, .int .i64 0]) (by simp [results, Try.results39, go_sem, e0, e1, e2, e3, e4, e5, ef]) rfl ⟨by rw [HQ.out], ?_⟩
      exact HII.out.below.grown (grown_set6 _ _ _ _ _ _ _ _) HII.out.below.size (fun g e => by cases e; exact Nat.le_refl _)
end Go.Proofs.Ytpidjgljeooblaa
