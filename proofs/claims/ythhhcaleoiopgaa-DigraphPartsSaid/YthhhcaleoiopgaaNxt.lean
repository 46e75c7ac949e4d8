/-
  Directed graphs: nexts, walked.
-/
import Derived.Test.YthhhcaleoiopgaaNxP
import Derived.Test.YthhhcaleoiopgaaDgO
namespace Go.Proofs.Ythhhcaleoiopgaa
open Go.RowKit
set_option linter.unusedVariables false
attribute [local go_sem ↓] Go.wp_at_zero Go.wp_at_succ

def NextsPost (w : World) (n : Nat) (es : List (Nat × Nat)) (e : Ending) (w' : World) : Prop :=
  (∃ V, e = .returned V ∧ Mat w' w.heap.size V (nxS n es)) ∧ Below w.heap.size w w'

set_option maxRecDepth 100000 in
set_option maxHeartbeats 4000000 in
theorem nexts_any (n : Nat) (v : Value) (es : List (Nat × Nat)) (w : World) (hg : Dg w n v es) :
    Calls Try.prog 44 #[.int .i64 (n : Int), v] w (NextsPost w n es) := by
  have hn := hg.n_le
  have hm := hg.m_le
  have HG := Lib.hid hg
  clear hg
  obtain ⟨eao, ecap, rfl, _⟩ := HG.out.pairs.open_
  have hmk2 := fun W => run_make_one (P := Try.prog) 48 23 24 (.slice none 0 0) Try.underlying48 (by kernel_rfl) (by omega) n (by omega) W
  have HM0 := Lib.hid (Mat.new (own_made w 23 rowf (.slice none 0 0) (.slice none 0 0) rfl n (by omega) w.heap.size (Nat.le_refl _)))
  have hB0 := below_new w (.cells (madeCells (Value.slice none 0 0).cells n) 23)
  obtain ⟨wo, rfl⟩ : ∃ wo : World, wo = w := ⟨_, rfl⟩
  go_enter Try.func44, Try.ntmps44
  go_wp2_with fail
  go_loopw [7, 13] (fun _ s13 wr => ∃ k : Nat, k ≤ es.length ∧ s13 = .int .i64 (k : Int) ∧ Hid (Mat wr wo.heap.size (.slice (some ⟨wo.heap.size, 0, none⟩) n n) (nxRows n (es.take k)) ∧ Below wo.heap.size wo wr)) (fun _ s13 _ => es.length - (intOf s13).toNat)
  case atStart => exact ⟨0, Nat.zero_le _, rfl, by rw [List.take_zero, nxRows_nil]; exact HM0.out, hB0⟩
  case round =>
    obtain ⟨k, hk, rfl, H⟩ := hrel
    clear HM0 hB0
    by_cases hlt : k < es.length
    · obtain ⟨⟨x, y⟩, hxy⟩ : ∃ e, es[k]? = some e := ⟨_, List.getElem?_eq_getElem hlt⟩
      have hends := HG.out.ends k _ hxy
      obtain ⟨eb, eoff, rfl, heb, d1, d2⟩ := (HG.out.pairs.below H.out.2).edge hxy
      simp only at hends d1 d2
      obtain ⟨hx, hy⟩ := hends
      have HN := Lib.hid (show nxRows n (es.take (k + 1)) = addAt (nxRows n (es.take k)) x y by rw [take_edge hxy]; exact nxRows_snoc _ x y hx)
      obtain ⟨W1, hW1⟩ : ∃ W1, W1 = wr.alloc (.cells #[.int .i64 (x : Int), .int .i64 (y : Int)] 38) := ⟨_, rfl⟩
      obtain ⟨X, hX⟩ : ∃ X, X = wr.heap.size := ⟨_, rfl⟩
      have HMID : Hid (BesMid wo n X x y (nxRows n (es.take k)) W1) := by
        rw [hW1, hX]
        exact ⟨H.out.1.alloc _, H.out.2.alloc H.out.2.size _, H.out.2.size, heap_alloc_new wr _⟩
      go_upto_region 5 with fail
      rw [← hW1, ← hX]
      have HW1 := Lib.hid hW1
      have HXX := Lib.hid hX
      clear hW1 hX d1 d2 hxy H
      obtain ⟨vals, hMV⟩ := HMID.out.1
      have hlenr : (nxRows n (es.take k)).length = n := nxRows_len _ _
      obtain ⟨r1, hr1⟩ : ∃ r, (nxRows n (es.take k))[x]? = some r := ⟨_, List.getElem?_eq_getElem (by omega)⟩
      obtain ⟨v1, hv1⟩ : ∃ v, vals[x]? = some v := ⟨_, List.getElem?_eq_getElem (by rw [hMV.1]; omega)⟩
      have hrow1 : Own W1 wo.heap.size 3 natf v1 r1 := hMV.2.2.1 x v1 r1 hv1 hr1
      have b3 : W1.cell? ⟨wo.heap.size, x, none⟩ = some v1 := hMV.2.1.cell hv1
      have b4 := hMV.2.1.free x
      have hr1len : r1.length + 1 ≤ 1099511627776 := by
        rw [nxRows_get _ hx] at hr1
        cases hr1
        have := nextsM_len (es.take k) x
        rw [List.length_take] at this
        omega
      have hgl := (hMV.2.1.lt _ rfl).2
      have hag1 : v1.ownBlock ≠ some wo.heap.size := fun e => hrow1.apart hMV.2.1 (by decide) _ e rfl
      have hag2 : v1.ownBlock ≠ some X := fun e => hrow1.apart_blk HMID.out.2.2.2 (by decide) _ e rfl
      have HMV := Lib.hid hMV
      have HR1 := Lib.hid hr1
      have HV1 := Lib.hid hv1
      obtain ⟨ao1, cap1, hsh1⟩ := hrow1.shape
      have HSH1 := Lib.hid hsh1
      clear hMV hr1 hv1 hlenr hsh1
      obtain ⟨sz1, b1, b2⟩ := HMID.out.x
      have szW := HMID.out.2.1.size
      have b3' := (World.cell?_alloc_lt W1 (.cells #[.int .i64 (y : Int)] 3) ⟨wo.heap.size, x, none⟩ (by simp; omega)).trans b3
      have b1' := (World.cell?_alloc_lt W1 (.cells #[.int .i64 (y : Int)] 3) ⟨X, 0, none⟩ sz1).trans b1
      have b2' := (World.cell?_alloc_lt W1 (.cells #[.int .i64 (y : Int)] 3) ⟨X, 1, none⟩ sz1).trans b2
      have hrowW : Own W1.drew wo.heap.size 3 natf v1 r1 := hrow1
      have z0 : (0 : Int) ≤ (x : Int) := Int.natCast_nonneg _
      have z1 : (x : Int) < (n : Int) := by omega
      go_region_law
        ((refine step_push _ (by rfl) _ _ _ (by rfl) 3 8 elemInt wo.heap.size natf v1 r1 y rfl hrowW (by rfl) (by rfl) hr1len (by omega) (by simp; omega) ?_; intro v2 w2 hown2 hg2 hat2; obtain ⟨ao2, c2, rfl⟩ := hown2.shape; rw [List.length_append, List.length_singleton] at hown2 hat2; have hfz2 : w2.frozen? ⟨wo.heap.size, x, none⟩ = false := (hg2.frozen_far ⟨wo.heap.size, x, none⟩ (by simp; omega) (Ne.symm hag1)).trans b4; have hcl2 : w2.cell? ⟨wo.heap.size, x, none⟩ = some v1 := (hg2.cell_far ⟨wo.heap.size, x, none⟩ (by simp; omega) (Ne.symm hag1)).trans b3; have hbx2 : w2.cell? ⟨X, 0, none⟩ = some (.int .i64 (x : Int)) := (hg2.cell_far ⟨X, 0, none⟩ (by simp; omega) (Ne.symm hag2)).trans b1; have hby2 : w2.cell? ⟨X, 1, none⟩ = some (.int .i64 (y : Int)) := (hg2.cell_far ⟨X, 1, none⟩ (by simp; omega) (Ne.symm hag2)).trans b2))
      all_goals
        have HF := Lib.hid (BesMid.next HMID.out HMV.out HV1.out HR1.out hown2 (undrew hg2) hat2)
        go_wp2
        go_roundw
        case rel => first | exact ⟨k + 1, by omega, by go_num, by rw [HN.out]; exact ⟨HF.out.1, HF.out.2.1⟩⟩ | ((repeat apply Exists.intro); exact ⟨⟨k + 1, by omega, by go_num, by rw [HN.out]; exact ⟨HF.out.1, HF.out.2.1⟩⟩, rfl⟩)
        case measure => simp [intOf]; omega
    · obtain rfl : k = es.length := by omega
      rw [List.take_length, ← midS_zero] at H
      obtain ⟨w2, rfl⟩ : ∃ w2 : World, w2 = wr := ⟨_, rfl⟩
      go_wp2_with fail
      go_loopw [8, 33] (fun _ s33 wr => ∃ k : Nat, k ≤ n ∧ s33 = .int .i64 (k : Int) ∧ Hid (Mat wr wo.heap.size (.slice (some ⟨wo.heap.size, 0, none⟩) n n) (midS n es k) ∧ Below wo.heap.size wo wr)) (fun _ s33 _ => n - (intOf s33).toNat)
      case atStart => exact ⟨0, Nat.zero_le _, rfl, H.out⟩
      case round =>
        clear H
        obtain ⟨k, hk, rfl, H⟩ := hrel
        by_cases hlt : k < n
        · obtain ⟨vals, hMV⟩ := H.out.1
          obtain ⟨v, hv⟩ : ∃ v, vals[k]? = some v := ⟨_, List.getElem?_eq_getElem (by rw [hMV.1, midS_len]; exact hlt)⟩
          have hr : (midS n es k)[k]? = some (nextsM es k) := by rw [midS_get _ _ hlt, if_neg (by omega)]
          have hrow := hMV.2.2.1 k v _ hv hr
          have hrl := nextsM_len es k
          have HSR := Lib.hid (sort_own hrow (by omega))
          have c1 := hMV.2.1.cell hv
          have HMV := Lib.hid hMV
          have HV := Lib.hid hv
          have HR := Lib.hid hr
          have hag1 : v.ownBlock ≠ some wo.heap.size := fun e => hrow.apart hMV.2.1 (by decide) _ e rfl
          have hown : ∀ g, v.ownBlock = some g → wo.heap.size ≤ g := fun g e => (hrow.lt g e).1
          have k0 : (0 : Int) ≤ (k : Int) := Int.natCast_nonneg _
          have k1 : (k : Int) < (n : Int) := by omega
          clear hMV hv hr hrow
          go_wp2_with fail
          refine HSR.out.mono ?_
          rintro e w3 ⟨rfl, hs1, hs2⟩
          have HM1 := Lib.hid (HMV.out.turn HV.out HR.out hs1 hs2)
          have hB1 : Below wo.heap.size wo w3 := below_grown H.out.2 hs2 H.out.2.size hown
          have HCR := Lib.hid (compact_own hs1 (by rw [(sortN_perm _).length_eq]; omega) (sortN_sorted _) (nextsS_sorted n es k) (fun x => by
            rw [sortN_mem, nextsS_mem, nextsM_mem]
            exact ⟨fun h => h.2, fun h => ⟨by obtain ⟨q, hq⟩ := List.mem_iff_getElem?.1 h; exact (HG.out.ends q _ hq).2, h⟩⟩))
          have c2 := HM1.out.2.1.cell HV.out
          clear c1 hs1 hs2 HSR
          go_wp2_with fail
          refine HCR.out.mono ?_
          rintro e w4 ⟨v', rfl, hc1, hc2, hc3⟩
          obtain ⟨ao2, cp2, rfl⟩ := hc1.shape
          have hr2 : ((midS n es k).set k (sortN (nextsM es k)))[k]? = some (sortN (nextsM es k)) := List.getElem?_set_self (by rw [midS_len]; exact hlt)
          have HM2 := Lib.hid (HM1.out.put HV.out hr2 hc1 hc3 hc2)
          rw [List.set_set, ← midS_step] at HM2
          have hB2 : Below wo.heap.size wo w4 := below_grown hB1 hc3 hB1.size hown
          have c3 := (hc3.cell_far ⟨wo.heap.size, k, none⟩ (by simpa using (HM1.out.2.1.lt _ rfl).2) (Ne.symm hag1)).trans c2
          have f3 := (hc3.frozen_far ⟨wo.heap.size, k, none⟩ (by simpa using (HM1.out.2.1.lt _ rfl).2) (Ne.symm hag1)).trans (HM1.out.2.1.free k)
          clear c2 hc1 hc2 hc3 HCR
          go_wp2
          go_roundw
          case rel => exact ⟨k + 1, by omega, by go_num, ⟨_, HM2.out⟩, hB2.setCell (p := ⟨wo.heap.size, k, none⟩) (Nat.le_refl _) _⟩
          case measure => simp [intOf]; omega
        · obtain rfl : k = n := by omega
          rw [midS_all] at H
          go_wp2
          go_ret
          exact ⟨⟨_, rfl, H.out.1⟩, H.out.2⟩
end Go.Proofs.Ythhhcaleoiopgaa
