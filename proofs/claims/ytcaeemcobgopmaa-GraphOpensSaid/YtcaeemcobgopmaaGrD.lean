/-
  Graph: the edges at each node (beside), walked for each of its three closures.
-/
import Derived.Test.YtcaeemcobgopmaaGrC
import Derived.Deep.RegionLaw
import Derived.BigRegion
import Derived.Deep.DeepCutAuto
namespace Go.Proofs.Ytcaeemcobgopmaa
open Go.RowKit
set_option linter.unusedVariables false
attribute [local go_sem ↓] Go.wp_at_zero Go.wp_at_succ

def BesPost (w : World) (n : Nat) (ns : List (Nat × Nat)) (used : Nat → Bool) (e : Ending) (w' : World) : Prop :=
  ∃ V, e = .returned V ∧ Mat w' w.heap.size V (besTo n ns used ns.length) ∧ Below w.heap.size w w'

/-- One row more: what the statement 'out[x] = append(out[x], i)' leaves. -/
theorem mat_step {w w1 : World} {base G n cap : Nat} {vals : List Value} {rows : List (List Nat)} (h : MatVals w base (.slice (some ⟨G, 0, none⟩) n cap) vals rows) {k y : Nat} {v v1 : Value} {r : List Nat} (hv : vals[k]? = some v) (hr : rows[k]? = some r)
    (hown : Own w1 base 3 natf v1 (r ++ [y])) (hg : w.grownBy w1 v.ownBlock) (hat : v1.ownBlock = v.ownBlock ∨ ∃ g, w.heap.size ≤ g ∧ v1.ownBlock = some g) :
    Mat (w1.setCell ⟨G, k, none⟩ v1) base (.slice (some ⟨G, 0, none⟩) n cap) (addAt rows k y) := by
  rw [addAt_get hr]
  exact h.pushAt hv hr hown hg hat

theorem undrew {w w1 : World} {r : Option Nat} (h : w.drew.grownBy w1 r) : w.grownBy w1 r := ⟨h.os, h.tape, h.output, h.size, h.block⟩

/-- The box of the edge at hand, and the matrix, as the statements of a round leave them. -/
def BesMid (w : World) (n X x y : Nat) (rows : List (List Nat)) (wx : World) : Prop :=
  Mat wx w.heap.size (.slice (some ⟨w.heap.size, 0, none⟩) n n) rows ∧ Below w.heap.size w wx ∧ w.heap.size ≤ X ∧ wx.heap[X]? = some (.cells #[.int .i64 (x : Int), .int .i64 (y : Int)] 43 (0, 0))

theorem BesMid.x {w wx : World} {n X x y : Nat} {rows : List (List Nat)} (h : BesMid w n X x y rows wx) : X < wx.heap.size ∧ wx.cell? ⟨X, 0, none⟩ = some (.int .i64 (x : Int)) ∧ wx.cell? ⟨X, 1, none⟩ = some (.int .i64 (y : Int)) := by
  obtain ⟨_, _, _, h⟩ := h
  refine ⟨(Array.getElem?_eq_some_iff.1 h).1, ?_, ?_⟩
  · simp [World.cell?, h]
  · simp [World.cell?, h]

/-- Behind the append and the store of one statement. -/
theorem BesMid.next {w W1 w2 : World} {n X x y k z : Nat} {rows : List (List Nat)} {vals : List Value} {v1 v2 : Value} {r1 : List Nat} (h : BesMid w n X x y rows W1) (hMV : MatVals W1 w.heap.size (.slice (some ⟨w.heap.size, 0, none⟩) n n) vals rows)
    (hv : vals[z]? = some v1) (hr : rows[z]? = some r1) (hown : Own w2 w.heap.size 3 natf v2 (r1 ++ [k])) (hg : W1.grownBy w2 v1.ownBlock) (hat : v2.ownBlock = v1.ownBlock ∨ ∃ g, W1.heap.size ≤ g ∧ v2.ownBlock = some g) :
    BesMid w n X x y (addAt rows z k) (w2.setCell ⟨w.heap.size, z, none⟩ v2) := by
  obtain ⟨h1, h2, h3, h4⟩ := h
  have hrow := hMV.2.2.1 z v1 r1 hv hr
  have hX := hrow.apart_blk h4 (by decide)
  have hX2 : w.heap.size ≠ X := fun e => by
    exact hMV.2.1.apart_blk h4 (by decide) _ rfl e
  have hz := h2.size
  refine ⟨mat_step hMV hv hr hown hg hat, ?_, h3, ?_⟩
  · have hb : Below w.heap.size w w2 := below_grown h2 hg hz (fun g hg' => (hrow.lt g hg').1)
    exact hb.setCell (Nat.le_refl _) _
  · rw [heap_setCell_other w2 ⟨w.heap.size, z, none⟩ X v2 (fun e => hX2 e.symm), hg.block X (Array.getElem?_eq_some_iff.1 h4).1 (fun e => hX X e.symm rfl)]
    exact h4
theorem BesMid.drewN {w wx : World} {n X x y : Nat} {rows : List (List Nat)} (h : BesMid w n X x y rows wx) (m : Nat) : BesMid w n X x y rows (wx.drewN m) := ⟨Mat.below h.1 (bdraw m), below_drewN' h.2.1 m, h.2.2.1, h.2.2.2⟩

set_option maxRecDepth 100000 in
set_option maxHeartbeats 4000000 in
theorem beside_any (F : Nat) (caps : Array Value) (used : Nat → Bool) (n : Nat) (v : Value) (ns : List (Nat × Nat)) (w : World) (hn : n ≤ 1000) (hm : ns.length ≤ 4000) (hp : NPairs w v ns) (he : Ends n ns) (hF : ∀ (xs : Array Value) (W : World), (callFunc F xs).run Try.prog W = .ok (.enter F xs) W) (hu : ∀ (k : Nat) (W : World), k < ns.length → Below w.heap.size w W → Calls Try.prog F (#[.int .i64 (k : Int)] ++ caps) W fun e w1 => e = .returned (.bool (used k)) ∧ W = w1) :
    Calls Try.prog 37 #[.int .i64 (n : Int), v, .func (.func F) #[] caps] w (BesPost w n ns used) := by
  obtain ⟨ao, cap, rfl, h⟩ := hp.open_
  have HE := Lib.hid he
  clear he hp
  have hmk := fun W => run_make_one (P := Try.prog) 35 25 24 (.slice none 0 0) Try.underlying35 (by kernel_rfl) (by omega) n (by omega) W
  have HM := Lib.hid (Mat.new (own_made w 25 rowf (.slice none 0 0) (.slice none 0 0) rfl n (by omega) w.heap.size (Nat.le_refl _)))
  go_enter Try.func37, Try.ntmps37
  go_wp2_with fail
  have hB0 := below_new w (.cells (madeCells (Value.slice none 0 0).cells n) 25)
  clear hmk
  go_loopw [14] (fun i wr => ∃ k : Nat, k ≤ ns.length ∧ i = .int .i64 k ∧ Hid (Mat wr w.heap.size (.slice (some ⟨w.heap.size, 0, none⟩) n n) (besTo n ns used k)) ∧ Below w.heap.size w wr) (fun i _ => ns.length - (intOf i).toNat)
  case atStart => exact ⟨0, Nat.zero_le _, rfl, HM.out, hB0⟩
  case round =>
    obtain ⟨k, hk, rfl, hM, hB⟩ := hrel
    have hz := hB.size
    clear HM hB0
    by_cases hlt : k < ns.length
    · obtain ⟨b, off, rfl, hbl, hc⟩ := h (by omega)
      obtain ⟨⟨x, y⟩, hy⟩ : ∃ y, ns[k]? = some y := ⟨_, List.getElem?_eq_getElem hlt⟩
      obtain ⟨hc1, hc2⟩ := hc k _ hy
      have hxy := HE.out k _ hy
      have hd1 := (hB.cell (p := ⟨b, off + k * 2, none⟩) hbl).trans hc1
      have hd2 := (hB.cell (p := ⟨b, off + k * 2 + 1, none⟩) hbl).trans hc2
      simp only at hd1 hd2 hxy
      obtain ⟨hx, hy', hne⟩ := hxy
      have HY := Lib.hid hy
      clear hy hc h hc1 hc2
      have HNX : Hid (besTo n ns used (k + 1) = if used k then addAt (addAt (besTo n ns used k) x k) y k else besTo n ns used k) := by
        have e := HY.out
        show besTo n ns used (k + 1) = _
        rw [besTo, e]
      obtain ⟨W1, hW1⟩ : ∃ W1, W1 = wr.alloc (.cells #[.int .i64 (x : Int), .int .i64 (y : Int)] 43) := ⟨_, rfl⟩
      obtain ⟨X, hX⟩ : ∃ X, X = wr.heap.size := ⟨_, rfl⟩
      have HMID : Hid (BesMid w n X x y (besTo n ns used k) W1) := by
        rw [hW1, hX]
        exact ⟨hM.out.alloc _, hB.alloc hz _, hz, heap_alloc_new wr _⟩
      have HC := hu k W1 hlt (by rw [hW1]; exact hB.alloc hz _)
      go_wp2_with fail
      rw [← hW1, ← hX]
      refine HC.mono ?_
      cases hU : used k
      · have HU := Lib.hid hU
        clear hU
        rintro e w9 ⟨rfl, rfl⟩
        have HW1 := Lib.hid hW1
        have HXX := Lib.hid hX
        clear hW1 hX hd1 hd2
        go_wp2
        go_roundw
        case rel => exact ⟨k + 1, by omega, by go_num, by rw [HNX.out, if_neg (by rw [HU.out]; simp)]; exact HMID.out.1, HMID.out.2.1⟩
        case measure => simp [intOf]; omega
      have HU := Lib.hid hU
      clear hU
      rintro e w9 ⟨rfl, rfl⟩
      have HW1 := Lib.hid hW1
      have HXX := Lib.hid hX
      clear hW1 hX hd1 hd2
      go_upto_region 6 with fail
      obtain ⟨vals, hMV⟩ := HMID.out.1
      have hlenr : (besTo n ns used k).length = n := by first | exact besTo_len n ns used k | (rw [addAt_len]; exact besTo_len n ns used k)
      obtain ⟨r1, hr1⟩ : ∃ r, (besTo n ns used k)[x]? = some r := ⟨_, List.getElem?_eq_getElem (by omega)⟩
      obtain ⟨v1, hv1⟩ : ∃ v, vals[x]? = some v := ⟨_, List.getElem?_eq_getElem (by rw [hMV.1]; omega)⟩
      have hrow1 : Own W1 w.heap.size 3 natf v1 r1 := hMV.2.2.1 x v1 r1 hv1 hr1
      have b3 : W1.cell? ⟨w.heap.size, x, none⟩ = some v1 := hMV.2.1.cell hv1
      have b4 := hMV.2.1.free x
      have hr1len : r1.length + 1 ≤ 1099511627776 := by
        have := besTo_rows n ns used k
        first | (have h9 := this r1 (List.mem_of_getElem? hr1); omega) | (have h9 := addAt_rows this r1 (List.mem_of_getElem? hr1); omega)
      have hgl := (hMV.2.1.lt _ rfl).2
      have hag1 : v1.ownBlock ≠ some w.heap.size := fun e => hrow1.apart hMV.2.1 (by decide) _ e rfl
      have hag2 : v1.ownBlock ≠ some X := fun e => hrow1.apart_blk HMID.out.2.2.2 (by decide) _ e rfl
      have HMV := Lib.hid hMV
      have HR1 := Lib.hid hr1
      have HV1 := Lib.hid hv1
      obtain ⟨ao1, cap1, hsh1⟩ := hrow1.shape
      have HSH1 := Lib.hid hsh1
      clear hMV hr1 hv1 hlenr hsh1
      obtain ⟨sz1, b1, b2⟩ := HMID.out.x
      have szW := HMID.out.2.1.size
      have b3' := (World.cell?_alloc_lt W1 (.cells #[.int .i64 (k : Int)] 3) ⟨w.heap.size, x, none⟩ (by simp; omega)).trans b3
      have b1' := (World.cell?_alloc_lt W1 (.cells #[.int .i64 (k : Int)] 3) ⟨X, 0, none⟩ sz1).trans b1
      have b2' := (World.cell?_alloc_lt W1 (.cells #[.int .i64 (k : Int)] 3) ⟨X, 1, none⟩ sz1).trans b2
      have hrowW : Own W1.drew w.heap.size 3 natf v1 r1 := hrow1
      have z0 : (0 : Int) ≤ (x : Int) := Int.natCast_nonneg _
      have z1 : (x : Int) < (n : Int) := by omega
      go_cut [] (fun wx => Hid (BesMid w n X x y (addAt (besTo n ns used k) x k) wx))
      case first =>
        go_region_law
          ((refine step_push _ (by rfl) _ _ _ (by rfl) 3 8 elemInt w.heap.size natf v1 r1 k rfl hrowW (by rfl) (by rfl) hr1len (by omega) (by simp; omega) ?_; intro v2 w2 hown2 hg2 hat2; obtain ⟨ao2, c2, rfl⟩ := hown2.shape; rw [List.length_append, List.length_singleton] at hown2 hat2; have hfz2 : w2.frozen? ⟨w.heap.size, x, none⟩ = false := (hg2.frozen_far ⟨w.heap.size, x, none⟩ (by simp; omega) (Ne.symm hag1)).trans b4; have hcl2 : w2.cell? ⟨w.heap.size, x, none⟩ = some v1 := (hg2.cell_far ⟨w.heap.size, x, none⟩ (by simp; omega) (Ne.symm hag1)).trans b3; have hbx2 : w2.cell? ⟨X, 0, none⟩ = some (.int .i64 (x : Int)) := (hg2.cell_far ⟨X, 0, none⟩ (by simp; omega) (Ne.symm hag2)).trans b1; have hby2 : w2.cell? ⟨X, 1, none⟩ = some (.int .i64 (y : Int)) := (hg2.cell_far ⟨X, 1, none⟩ (by simp; omega) (Ne.symm hag2)).trans b2))
        all_goals
          go_wp2_with fail
          go_meet
          case rel => exact BesMid.next HMID.out HMV.out HV1.out HR1.out hown2 (undrew hg2) hat2
      case rest =>
        clear hrow1 b3 b4 b3' b1' b2' hrowW b1 b2 sz1 szW hgl HMV HR1 HV1 HSH1 hr1len hag1 hag2
        clear HMID
        obtain ⟨W1, rfl⟩ : ∃ W1, W1 = wc := ⟨_, rfl⟩
        have HMID := hcut
        clear hcut
        go_upto_region 7 with fail
        obtain ⟨vals, hMV⟩ := HMID.out.1
        have hlenr : (addAt (besTo n ns used k) x k).length = n := by first | exact besTo_len n ns used k | (rw [addAt_len]; exact besTo_len n ns used k)
        obtain ⟨r1, hr1⟩ : ∃ r, (addAt (besTo n ns used k) x k)[y]? = some r := ⟨_, List.getElem?_eq_getElem (by omega)⟩
        obtain ⟨v1, hv1⟩ : ∃ v, vals[y]? = some v := ⟨_, List.getElem?_eq_getElem (by rw [hMV.1]; omega)⟩
        have hrow1 : Own W1 w.heap.size 3 natf v1 r1 := hMV.2.2.1 y v1 r1 hv1 hr1
        have b3 : W1.cell? ⟨w.heap.size, y, none⟩ = some v1 := hMV.2.1.cell hv1
        have b4 := hMV.2.1.free y
        have hr1len : r1.length + 1 ≤ 1099511627776 := by
          have := besTo_rows n ns used k
          first | (have h9 := this r1 (List.mem_of_getElem? hr1); omega) | (have h9 := addAt_rows this r1 (List.mem_of_getElem? hr1); omega)
        have hgl := (hMV.2.1.lt _ rfl).2
        have hag1 : v1.ownBlock ≠ some w.heap.size := fun e => hrow1.apart hMV.2.1 (by decide) _ e rfl
        have hag2 : v1.ownBlock ≠ some X := fun e => hrow1.apart_blk HMID.out.2.2.2 (by decide) _ e rfl
        have HMV := Lib.hid hMV
        have HR1 := Lib.hid hr1
        have HV1 := Lib.hid hv1
        obtain ⟨ao1, cap1, hsh1⟩ := hrow1.shape
        have HSH1 := Lib.hid hsh1
        clear hMV hr1 hv1 hlenr hsh1
        obtain ⟨sz1, b1, b2⟩ := HMID.out.x
        have szW := HMID.out.2.1.size
        have b3' := (World.cell?_alloc_lt W1 (.cells #[.int .i64 (k : Int)] 3) ⟨w.heap.size, y, none⟩ (by simp; omega)).trans b3
        have b1' := (World.cell?_alloc_lt W1 (.cells #[.int .i64 (k : Int)] 3) ⟨X, 0, none⟩ sz1).trans b1
        have b2' := (World.cell?_alloc_lt W1 (.cells #[.int .i64 (k : Int)] 3) ⟨X, 1, none⟩ sz1).trans b2
        have hrowW : Own W1.drew w.heap.size 3 natf v1 r1 := hrow1
        have z0 : (0 : Int) ≤ (y : Int) := Int.natCast_nonneg _
        have z1 : (y : Int) < (n : Int) := by omega
        go_region_law
          ((refine step_push _ (by rfl) _ _ _ (by rfl) 3 8 elemInt w.heap.size natf v1 r1 k rfl hrowW (by rfl) (by rfl) hr1len (by omega) (by simp; omega) ?_; intro v2 w2 hown2 hg2 hat2; obtain ⟨ao2, c2, rfl⟩ := hown2.shape; rw [List.length_append, List.length_singleton] at hown2 hat2; have hfz2 : w2.frozen? ⟨w.heap.size, y, none⟩ = false := (hg2.frozen_far ⟨w.heap.size, y, none⟩ (by simp; omega) (Ne.symm hag1)).trans b4; have hcl2 : w2.cell? ⟨w.heap.size, y, none⟩ = some v1 := (hg2.cell_far ⟨w.heap.size, y, none⟩ (by simp; omega) (Ne.symm hag1)).trans b3; have hbx2 : w2.cell? ⟨X, 0, none⟩ = some (.int .i64 (x : Int)) := (hg2.cell_far ⟨X, 0, none⟩ (by simp; omega) (Ne.symm hag2)).trans b1; have hby2 : w2.cell? ⟨X, 1, none⟩ = some (.int .i64 (y : Int)) := (hg2.cell_far ⟨X, 1, none⟩ (by simp; omega) (Ne.symm hag2)).trans b2))
        all_goals
          have HF := Lib.hid (BesMid.next HMID.out HMV.out HV1.out HR1.out hown2 (undrew hg2) hat2)
          go_wp2
          go_roundw
          case rel => first | exact ⟨k + 1, by omega, by go_num, by rw [HNX.out, if_pos HU.out]; exact HF.out.1, HF.out.2.1⟩ | ((repeat apply Exists.intro); exact ⟨⟨k + 1, by omega, by go_num, by rw [HNX.out, if_pos HU.out]; exact HF.out.1, HF.out.2.1⟩, rfl⟩)
          case measure => simp [intOf]; omega
    · clear h
      go_wp2
      go_ret
      have hkl : k = ns.length := by omega
      rw [hkl] at hM
      exact ⟨_, rfl, hM.out, hB⟩

end Go.Proofs.Ytcaeemcobgopmaa
