/-
  Directed graphs: order, walked.
-/
import Derived.Test.YthhhcaleoiopgaaDgB
namespace Go.Proofs.Ythhhcaleoiopgaa
open Go.RowKit
set_option linter.unusedVariables false
attribute [local go_sem ↓] Go.wp_at_zero Go.wp_at_succ

set_option maxRecDepth 100000 in
set_option maxHeartbeats 4000000 in
theorem order_any (n : Nat) (v : Value) (es : List (Nat × Nat)) (w : World) (hg : Dg w n v es) :
    Calls Try.prog 43 #[.int .i64 (n : Int), v] w (OrderPost w n es) := by
  have hn := hg.n_le
  have hm := hg.m_le
  have HG := Lib.hid hg
  clear hg
  obtain ⟨eao, ecap, rfl, _⟩ := HG.out.pairs.open_
  have hmk := fun W => run_make_one (P := Try.prog) 23 3 8 (.int .i64 0) Try.underlying23 (by kernel_rfl) (by omega) n (by omega) W
  have hmk2 := fun W => run_make_one (P := Try.prog) 48 23 24 (.slice none 0 0) Try.underlying48 (by kernel_rfl) (by omega) n (by omega) W
  have HA0 : Hid (Own (w.alloc (.cells (madeCells (Value.int .i64 0).cells n) 3)) w.heap.size 3 intf (.slice (some ⟨w.heap.size, 0, none⟩) n n) (degs n [])) := by
    have h1 := own_made w 3 intf 0 (.int .i64 0) rfl n (by omega) w.heap.size (Nat.le_refl _)
    have e1 : degs n [] = List.replicate n 0 := List.ext_getElem (by simp [degs]) fun i h1 h2 => by simp [degs, inDeg]
    rw [e1]; exact h1
  have hB0 := below_new w (.cells (madeCells (Value.int .i64 0).cells n) 3)
  go_enter Try.func43, Try.ntmps43
  go_wp2_with fail
  go_loopw [8, 20] (fun _ s20 wr => ∃ k : Nat, k ≤ es.length ∧ s20 = .int .i64 (k : Int) ∧ Hid (Own wr w.heap.size 3 intf (.slice (some ⟨w.heap.size, 0, none⟩) n n) (degs n (es.take k))) ∧ Below w.heap.size w wr) (fun _ s20 _ => es.length - (intOf s20).toNat)
  case atStart => exact ⟨0, Nat.zero_le _, rfl, HA0.out, hB0⟩
  case round =>
    clear HA0 hB0
    obtain ⟨k, hk, rfl, HA, hB⟩ := hrel
    by_cases hlt : k < es.length
    · obtain ⟨⟨x, y⟩, hxy⟩ : ∃ e, es[k]? = some e := ⟨_, List.getElem?_eq_getElem hlt⟩
      have hends := HG.out.ends k _ hxy
      obtain ⟨eb, eoff, rfl, heb, d1, d2⟩ := (HG.out.pairs.below hB).edge hxy
      simp only at hends d1 d2
      obtain ⟨hx, hy⟩ := hends
      have HN := Lib.hid (show degs n (es.take (k + 1)) = (degs n (es.take k)).set y (inDeg (es.take k) y + 1) by rw [take_edge hxy]; exact degs_snoc _ (x, y) hy)
      have hbd := inDeg_le (es.take k) y
      have hbd2 : (es.take k).length ≤ 1000 := by simp; omega
      have HA2 := Lib.hid (Own.alloc HA.out (.cells #[.int .i64 (x : Int), .int .i64 (y : Int)] 38))
      have c1 := HA2.out.cell (degs_get _ hy)
      have f1 := HA2.out.free y
      obtain ⟨z, hz⟩ : ∃ z, inDeg (es.take k) y = z := ⟨_, rfl⟩
      rw [hz] at HN hbd c1
      unfold intf at c1
      have y0 : (0 : Int) ≤ (y : Int) := Int.natCast_nonneg _
      have y1 : (y : Int) < (n : Int) := by omega
      have hzw := hB.size
      have hbx : (wr.alloc (.cells #[.int .i64 (x : Int), .int .i64 (y : Int)] 38)).cell? ⟨wr.heap.size, 1, none⟩ = some (.int .i64 (y : Int)) := by rw [World.cell?_alloc_at _ _ _ _ rfl]; rfl
      have hgl := (HA2.out.lt w.heap.size rfl).2
      clear hxy hz HA
      go_wp2
      go_roundw
      case rel => exact ⟨k + 1, by omega, by go_num, by rw [HN.out]; exact HA2.out.set y (z + 1), (hB.alloc hzw _).setCell (p := ⟨w.heap.size, y, none⟩) (Nat.le_refl _) _⟩
      case measure => simp [intOf]; omega
    · obtain rfl : k = es.length := by omega
      rw [List.take_length] at HA
      obtain ⟨W2, hW2⟩ : ∃ W2, W2 = wr := ⟨_, rfl⟩
      have HM0 := Lib.hid (Mat.new (own_made wr 23 rowf (.slice none 0 0) (.slice none 0 0) rfl n (by omega) wr.heap.size (Nat.le_refl _)))
      have hB0 := below_new wr (.cells (madeCells (Value.slice none 0 0).cells n) 23)
      obtain ⟨wo, rfl⟩ : ∃ wo : World, wo = wr := ⟨_, rfl⟩
      go_wp2_with fail
      go_loopw [11, 36] (fun _ s36 wr => ∃ k : Nat, k ≤ es.length ∧ s36 = .int .i64 (k : Int) ∧ Hid (Mat wr wo.heap.size (.slice (some ⟨wo.heap.size, 0, none⟩) n n) (nxRows n (es.take k)) ∧ Below wo.heap.size wo wr)) (fun _ s36 _ => es.length - (intOf s36).toNat)
      case atStart => exact ⟨0, Nat.zero_le _, rfl, by rw [List.take_zero, nxRows_nil]; exact HM0.out, hB0⟩
      case round =>
        obtain ⟨k, hk, rfl, H⟩ := hrel
        clear HM0 hB0
        by_cases hlt : k < es.length
        · obtain ⟨⟨x, y⟩, hxy⟩ : ∃ e, es[k]? = some e := ⟨_, List.getElem?_eq_getElem hlt⟩
          have hends := HG.out.ends k _ hxy
          obtain ⟨eb, eoff, rfl, heb, d1, d2⟩ := (HG.out.pairs.below (bstep hB H.out.2)).edge hxy
          simp only at hends d1 d2
          obtain ⟨hx, hy⟩ := hends
          have HN := Lib.hid (show nxRows n (es.take (k + 1)) = addAt (nxRows n (es.take k)) x y by rw [take_edge hxy]; exact nxRows_snoc _ x y hx)
          obtain ⟨W1, hW1⟩ : ∃ W1, W1 = wr.alloc (.cells #[.int .i64 (x : Int), .int .i64 (y : Int)] 38) := ⟨_, rfl⟩
          obtain ⟨X, hX⟩ : ∃ X, X = wr.heap.size := ⟨_, rfl⟩
          have HMID : Hid (BesMid wo n X x y (nxRows n (es.take k)) W1) := by
            rw [hW1, hX]
            exact ⟨H.out.1.alloc _, H.out.2.alloc H.out.2.size _, H.out.2.size, heap_alloc_new wr _⟩
          go_upto_region 11 with fail
          rw [← hW1, ← hX]
          have HW1 := Lib.hid hW1
          have HXX := Lib.hid hX
          clear hW1 hX d1 d2 hxy H
          obtain ⟨vals, hMV⟩ := HMID.out.1
          have hlenr : (nxRows n (es.take k)).length = n := nxRows_len _ _
          obtain ⟨r1, hr1⟩ : ∃ r, (nxRows n (es.take k))[x]? = some r := ⟨_, List.getElem?_eq_getElem (by omega)⟩
          obtain ⟨v1, hv1⟩ : ∃ v, vals[x]? = some v := ⟨_, List.getElem?_eq_getElem (by rw [hMV.1]; omega)⟩
          have hrow1 : Own W1 wo.heap.size 3 natf v1 r1 := hMV.2.2.1 x v1 r1 hv1 hr1
          have b3 : W1.cell? ⟨wo.heap.size, x, none⟩ = some v1 := hMV.2.1.cell hv1
          have b4 := hMV.2.1.free x
          have hr1len : r1.length + 1 ≤ 1099511627776 := by
            rw [nxRows_get _ hx] at hr1
            cases hr1
            have := nextsM_len (es.take k) x
            rw [List.length_take] at this
            omega
          have hgl := (hMV.2.1.lt _ rfl).2
          have hag1 : v1.ownBlock ≠ some wo.heap.size := fun e => hrow1.apart hMV.2.1 (by decide) _ e rfl
          have hag2 : v1.ownBlock ≠ some X := fun e => hrow1.apart_blk HMID.out.2.2.2 (by decide) _ e rfl
          have HMV := Lib.hid hMV
          have HR1 := Lib.hid hr1
          have HV1 := Lib.hid hv1
          obtain ⟨ao1, cap1, hsh1⟩ := hrow1.shape
          have HSH1 := Lib.hid hsh1
          clear hMV hr1 hv1 hlenr hsh1
          obtain ⟨sz1, b1, b2⟩ := HMID.out.x
          have szW := HMID.out.2.1.size
          have b3' := (World.cell?_alloc_lt W1 (.cells #[.int .i64 (y : Int)] 3) ⟨wo.heap.size, x, none⟩ (by simp; omega)).trans b3
          have b1' := (World.cell?_alloc_lt W1 (.cells #[.int .i64 (y : Int)] 3) ⟨X, 0, none⟩ sz1).trans b1
          have b2' := (World.cell?_alloc_lt W1 (.cells #[.int .i64 (y : Int)] 3) ⟨X, 1, none⟩ sz1).trans b2
          have hrowW : Own W1.drew wo.heap.size 3 natf v1 r1 := hrow1
          have z0 : (0 : Int) ≤ (x : Int) := Int.natCast_nonneg _
          have z1 : (x : Int) < (n : Int) := by omega
          go_region_law
            ((refine step_push _ (by rfl) _ _ _ (by rfl) 3 8 elemInt wo.heap.size natf v1 r1 y rfl hrowW (by rfl) (by rfl) hr1len (by omega) (by simp; omega) ?_; intro v2 w2 hown2 hg2 hat2; obtain ⟨ao2, c2, rfl⟩ := hown2.shape; rw [List.length_append, List.length_singleton] at hown2 hat2; have hfz2 : w2.frozen? ⟨wo.heap.size, x, none⟩ = false := (hg2.frozen_far ⟨wo.heap.size, x, none⟩ (by simp; omega) (Ne.symm hag1)).trans b4; have hcl2 : w2.cell? ⟨wo.heap.size, x, none⟩ = some v1 := (hg2.cell_far ⟨wo.heap.size, x, none⟩ (by simp; omega) (Ne.symm hag1)).trans b3; have hbx2 : w2.cell? ⟨X, 0, none⟩ = some (.int .i64 (x : Int)) := (hg2.cell_far ⟨X, 0, none⟩ (by simp; omega) (Ne.symm hag2)).trans b1; have hby2 : w2.cell? ⟨X, 1, none⟩ = some (.int .i64 (y : Int)) := (hg2.cell_far ⟨X, 1, none⟩ (by simp; omega) (Ne.symm hag2)).trans b2))
          all_goals
            have HF := Lib.hid (BesMid.next HMID.out HMV.out HV1.out HR1.out hown2 (undrew hg2) hat2)
            go_wp2
            go_roundw
            case rel => first | exact ⟨k + 1, by omega, by go_num, by rw [HN.out]; exact ⟨HF.out.1, HF.out.2.1⟩⟩ | ((repeat apply Exists.intro); exact ⟨⟨k + 1, by omega, by go_num, by rw [HN.out]; exact ⟨HF.out.1, HF.out.2.1⟩⟩, rfl⟩)
            case measure => simp [intOf]; omega
        · obtain rfl : k = es.length := by omega
          rw [List.take_length] at H
          have hsz0 : w.heap.size < wo.heap.size := (HA.out.lt w.heap.size rfl).2
          have HO : Hid (OAt w wo wr n (waitL n es []) [] (.slice none 0 0) wr) := ⟨fun g _ _ => rfl, Nat.le_refl _, by rw [← waitL_nil]; exact HA.out.below H.out.2, Own.nil _ _ _ _, bstep hB H.out.2, hsz0, H.out.2.size⟩
          have HM := Lib.hid H.out.1
          clear H HA
          obtain ⟨w2, rfl⟩ : ∃ w2 : World, w2 = wr := ⟨_, rfl⟩
          go_wp2_with fail
          go_loopw [12, 13, 15, 55] (fun s12 _ _ s55 wr => ∃ (j : Nat) (D : List Nat), j ≤ n ∧ s55 = .int .i64 (j : Int) ∧ Hid (ordTo n es j = some D ∧ OAt w wo w2 n (waitL n es D) D s12 wr)) (fun _ _ _ s55 _ => n - (intOf s55).toNat)
          case atStart => exact ⟨0, [], Nat.zero_le _, rfl, rfl, HO.out⟩
          case round =>
            clear HO
            obtain ⟨j, D, hj, rfl, H⟩ := hrel
            by_cases hlt : j < n
            · have hix := waitL_index n es D
              have HIX := Lib.hid (index_any _ (waitL n es D) 0 wr H.out.2.waits.sl (by rw [waitL_len]; omega))
              have HS : Hid (ordTo n es (j + 1) = match nextFree n es D with | none => none | some i => some (D ++ [i])) := by
                show _ = _
                rw [ordTo, H.out.1]
                rfl
              have hDl : D.length = j := (ordTo_ok j D H.out.1).1
              have HD := Lib.hid (ordTo_ok j D H.out.1).2
              cases hf : nextFree n es D with
              | none =>
                rw [hf] at hix HS
                have HR : Hid (orderOf n es = none) := ordTo_none HS.out n (by omega)
                simp only at hix
                rw [hix] at HIX
                clear hix hf
                go_wp2_with fail
                refine HIX.out.mono ?_
                rintro e w9 ⟨rfl, rfl⟩
                go_wp2
                go_ret2
                exact ⟨by rw [HR.out]; rfl, H.out.2.below⟩
              | some i =>
                obtain ⟨hi, hav, _⟩ := nextFree_some hf
                rw [hf] at hix HS
                simp only at hix
                rw [hix] at HIX
                have HAV := Lib.hid (avail_iff.1 hav)
                obtain ⟨vals, hMV⟩ := HM.out
                obtain ⟨v, hv⟩ : ∃ v, vals[i]? = some v := ⟨_, List.getElem?_eq_getElem (by rw [hMV.1, nxRows_len]; exact hi)⟩
                have HROW : Hid (∀ A B u W, OAt w wo w2 n A B u W → Own W wo.heap.size 3 natf v (nextsM es i) ∧ W.cell? ⟨wo.heap.size, i, none⟩ = some v) := fun A B u W hA => by
                  have h1 := hMV.kept (fun g g1 g2 _ => hA.keep g g1 g2)
                  exact ⟨h1.2.2.1 i v _ hv (nxRows_get es hi), h1.2.1.cell hv⟩
                have hRL := nextsM_len es i
                have f1 := H.out.2.waits.free i
                have i0 : (0 : Int) ≤ (i : Int) := Int.natCast_nonneg _
                have i1 : (i : Int) < (n : Int) := by omega
                have hzz : ¬ ((i : Int) < 0) := by omega
                have hgl := (H.out.2.waits.lt w.heap.size rfl).2
                have HST := Lib.hid (H.out.2.set i (-1))
                rw [← midL_zero es D hi] at HST
                obtain ⟨wc, rfl⟩ : ∃ wc : World, wc = wr := ⟨_, rfl⟩
                obtain ⟨W3, hW3⟩ : ∃ W3, wc.setCell ⟨w.heap.size, i, none⟩ (.int .i64 (-1)) = W3 := ⟨_, rfl⟩
                rw [hW3] at HST
                clear hf hix hav hMV hv
                obtain ⟨c1, c2⟩ := HROW.out _ _ _ _ HST.out
                obtain ⟨ao, cap, hvs⟩ := c1.shape
                have c0 := H.out.2.waits.cell (waitL_get es D hi)
                rw [hvs] at c2
                clear c1
                go_wp2_with fail
                refine HIX.out.mono ?_
                rintro e w9 ⟨rfl, rfl⟩
                go_wp2_with fail
                clear c0 c2 f1 hW3
                go_loopw [15, 69] (fun _ s69 wr => ∃ t : Nat, t ≤ (nextsM es i).length ∧ s69 = .int .i64 (t : Int) ∧ Hid (OAt w wo w2 n (midL n es D i t) D u12 wr)) (fun _ s69 _ => (nextsM es i).length - (intOf s69).toNat)
                case atStart => exact ⟨0, Nat.zero_le _, rfl, HST.out⟩
                case round =>
                  clear HST
                  obtain ⟨t, ht, rfl, HT⟩ := hrel
                  by_cases htl : t < (nextsM es i).length
                  · obtain ⟨k, hk⟩ : ∃ k, (nextsM es i)[t]? = some k := ⟨_, List.getElem?_eq_getElem htl⟩
                    have hmem : (i, k) ∈ es := nextsM_mem.1 (List.mem_of_getElem? hk)
                    have hkn : k < n := (by obtain ⟨q, hq⟩ := List.mem_iff_getElem?.1 hmem; exact (HG.out.ends q _ hq).2)
                    have hkD : k ∉ D ++ [i] := by
                      intro hm'
                      rcases List.mem_append.1 hm' with h | h
                      · exact HAV.out.1 (HD.out.pre _ hmem h).1
                      · rw [List.mem_singleton] at h
                        subst h
                        exact HAV.out.1 (HAV.out.2 _ hmem rfl)
                    have HN := Lib.hid (midL_step es D hk hkn hkD)
                    have hr := (HROW.out _ _ _ _ HT.out).1
                    rw [hvs] at hr
                    obtain ⟨rb, roff, rfl, hrl, rc⟩ := nats_get hr.sl hk
                    have c1 := HT.out.waits.cell (midL_get es D i t hkn)
                    unfold intf at c1
                    have f1 := HT.out.waits.free k
                    have hbd := midI_bd (es := es) (D := D) (i := i) (t := t) (j := k) hm
                    obtain ⟨z, hz⟩ : ∃ z, midI es D i t k = z := ⟨_, rfl⟩
                    rw [hz] at HN hbd c1
                    have k0 : (0 : Int) ≤ (k : Int) := Int.natCast_nonneg _
                    have k1 : (k : Int) < (n : Int) := by omega
                    have hgl := (HT.out.waits.lt w.heap.size rfl).2
                    clear hr hk hz hmem hkD
                    go_wp2
                    go_roundw
                    case rel => exact ⟨t + 1, by omega, by go_num, by rw [HN.out]; exact HT.out.set k (z - 1)⟩
                    case measure => simp [intOf]; omega
                  · obtain rfl : t = (nextsM es i).length := by omega
                    have HA := HT.out
                    rw [midL_all es D HAV.out.1] at HA
                    have HA := Lib.hid HA
                    have hlen1 : D.length + 1 ≤ 1099511627776 := by omega
                    have hbase := HA.out.sz
                    clear HT
                    go_wp2_with (at_builtin; refine wpList_push wr rfl _ _ 23 rfl 3 8 elemInt w2.heap.size natf _ D i rfl HA.out.out rfl rfl hlen1 (by omega) hbase ?_; intro v' w' hown' hg' hat')
                    go_roundw
                    case rel => exact ⟨j + 1, D ++ [i], by omega, by go_num, HS.out, HA.out.push hown' hg'⟩
                    case measure => simp [intOf]; omega
            · obtain rfl : j = n := by omega
              have HR : Hid (orderOf j es = some D) := H.out.1
              go_wp2
              go_ret2
              exact ⟨by rw [HR.out]; exact ⟨_, rfl, H.out.2.out.mono (by have := H.out.2.lo; omega)⟩, H.out.2.below⟩
end Go.Proofs.Ythhhcaleoiopgaa
