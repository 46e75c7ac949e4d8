/-
  Base texts, shaken by wip/shake.py: DgO NxP Nxt.
-/
import Derived.Test.YtamogedpgkofjaaGreatShelf
import Derived.Sort.OwnSortedInts
import Derived.Test.YtamogedpgkofjaaGreatKda
namespace Go.Proofs.YtamogedpgkofjaaGreat
section
open Go.RowKit
set_option linter.unusedVariables false
attribute [local go_sem ↓] Go.wp_at_zero Go.wp_at_succ

set_option maxRecDepth 100000 in
set_option maxHeartbeats 4000000 in
theorem order_any (n : Nat) (v : Value) (es : List (Nat × Nat)) (w : World) (hg : Dg w n v es) :
    Calls Tryz.prog 49 #[.int .i64 (n : Int), v] w (OrderPost w n es) := by
  have hn := hg.n_le
  have hm := hg.m_le
  have HG := Lib.hid hg
  clear hg
  obtain ⟨eao, ecap, rfl, _⟩ := HG.out.pairs.open_
  have hmk := fun W => run_make_one (P := Tryz.prog) 24 3 8 (.int .i64 0) Tryz.underlying24 (by kernel_rfl) (by omega) n (by omega) W
  have hmk2 := fun W => run_make_one (P := Tryz.prog) 36 24 24 (.slice none 0 0) Tryz.underlying36 (by kernel_rfl) (by omega) n (by omega) W
  have HA0 : Hid (Own (w.alloc (.cells (madeCells (Value.int .i64 0).cells n) 3)) w.heap.size 3 intf (.slice (some ⟨w.heap.size, 0, none⟩) n n) (degs n [])) := by
    have h1 := own_made w 3 intf 0 (.int .i64 0) rfl n (by omega) w.heap.size (Nat.le_refl _)
    have e1 : degs n [] = List.replicate n 0 := List.ext_getElem (by simp [degs]) fun i h1 h2 => by simp [degs, inDeg]
    rw [e1]; exact h1
  have hB0 := below_new w (.cells (madeCells (Value.int .i64 0).cells n) 3)
  go_enter Tryz.func49, Tryz.ntmps49
  go_wp2_with fail
  go_loopw [8, 20] (fun _ s20 wr => ∃ k : Nat, k ≤ es.length ∧ s20 = .int .i64 (k : Int) ∧ Hid (Own wr w.heap.size 3 intf (.slice (some ⟨w.heap.size, 0, none⟩) n n) (degs n (es.take k))) ∧ Below w.heap.size w wr) (fun _ s20 _ => es.length - (intOf s20).toNat)
  case atStart => exact ⟨0, Nat.zero_le _, rfl, HA0.out, hB0⟩
  case round =>
    clear HA0 hB0
    obtain ⟨k, hk, rfl, HA, hB⟩ := hrel
    by_cases hlt : k < es.length
    · obtain ⟨⟨x, y⟩, hxy⟩ : ∃ e, es[k]? = some e := ⟨_, List.getElem?_eq_getElem hlt⟩
      have hends := HG.out.ends k _ hxy
      obtain ⟨eb, eoff, rfl, heb, d1, d2⟩ := (HG.out.pairs.below hB).edge hxy
      simp only at hends d1 d2
      obtain ⟨hx, hy⟩ := hends
      have HN := Lib.hid (show degs n (es.take (k + 1)) = (degs n (es.take k)).set y (inDeg (es.take k) y + 1) by rw [take_edge hxy]; exact degs_snoc _ (x, y) hy)
      have hbd := inDeg_le (es.take k) y
      have hbd2 : (es.take k).length ≤ 1000 := by simp; omega
      have HA2 := Lib.hid (Own.alloc HA.out (.cells #[.int .i64 (x : Int), .int .i64 (y : Int)] 33))
      have c1 := HA2.out.cell (degs_get _ hy)
      have f1 := HA2.out.free y
      obtain ⟨z, hz⟩ : ∃ z, inDeg (es.take k) y = z := ⟨_, rfl⟩
      rw [hz] at HN hbd c1
      unfold intf at c1
      have y0 : (0 : Int) ≤ (y : Int) := Int.natCast_nonneg _
      have y1 : (y : Int) < (n : Int) := by omega
      have hzw := hB.size
      have hbx : (wr.alloc (.cells #[.int .i64 (x : Int), .int .i64 (y : Int)] 33)).cell? ⟨wr.heap.size, 1, none⟩ = some (.int .i64 (y : Int)) := by rw [World.cell?_alloc_at _ _ _ _ rfl]; rfl
      have hgl := (HA2.out.lt w.heap.size rfl).2
      clear hxy hz HA
      go_wp2
      go_roundw
      case rel => exact ⟨k + 1, by omega, by go_num, by rw [HN.out]; exact HA2.out.set y (z + 1), (hB.alloc hzw _).setCell (p := ⟨w.heap.size, y, none⟩) (Nat.le_refl _) _⟩
      case measure => simp [intOf]; omega
    · obtain rfl : k = es.length := by omega
      rw [List.take_length] at HA
      obtain ⟨W2, hW2⟩ : ∃ W2, W2 = wr := ⟨_, rfl⟩
      have HM0 := Lib.hid (Mat.new (own_made wr 24 rowf (.slice none 0 0) (.slice none 0 0) rfl n (by omega) wr.heap.size (Nat.le_refl _)))
      have hB0 := below_new wr (.cells (madeCells (Value.slice none 0 0).cells n) 24)
      obtain ⟨wo, rfl⟩ : ∃ wo : World, wo = wr := ⟨_, rfl⟩
      go_wp2_with fail
      go_loopw [11, 36] (fun _ s36 wr => ∃ k : Nat, k ≤ es.length ∧ s36 = .int .i64 (k : Int) ∧ Hid (Mat wr wo.heap.size (.slice (some ⟨wo.heap.size, 0, none⟩) n n) (nxRows n (es.take k)) ∧ Below wo.heap.size wo wr)) (fun _ s36 _ => es.length - (intOf s36).toNat)
      case atStart => exact ⟨0, Nat.zero_le _, rfl, by rw [List.take_zero, nxRows_nil]; exact HM0.out, hB0⟩
      case round =>
        obtain ⟨k, hk, rfl, H⟩ := hrel
        clear HM0 hB0
        by_cases hlt : k < es.length
        · obtain ⟨⟨x, y⟩, hxy⟩ : ∃ e, es[k]? = some e := ⟨_, List.getElem?_eq_getElem hlt⟩
          have hends := HG.out.ends k _ hxy
          obtain ⟨eb, eoff, rfl, heb, d1, d2⟩ := (HG.out.pairs.below (bstep hB H.out.2)).edge hxy
          simp only at hends d1 d2
          obtain ⟨hx, hy⟩ := hends
          have HN := Lib.hid (show nxRows n (es.take (k + 1)) = addAt (nxRows n (es.take k)) x y by rw [take_edge hxy]; exact nxRows_snoc _ x y hx)
          obtain ⟨W1, hW1⟩ : ∃ W1, W1 = wr.alloc (.cells #[.int .i64 (x : Int), .int .i64 (y : Int)] 33) := ⟨_, rfl⟩
          obtain ⟨X, hX⟩ : ∃ X, X = wr.heap.size := ⟨_, rfl⟩
          have HMID : Hid (BesMid wo n X x y (nxRows n (es.take k)) W1) := by
            rw [hW1, hX]
            exact ⟨H.out.1.alloc _, H.out.2.alloc H.out.2.size _, H.out.2.size, heap_alloc_new wr _⟩
          go_upto_region 11 with fail
          rw [← hW1, ← hX]
          have HW1 := Lib.hid hW1
          have HXX := Lib.hid hX
          clear hW1 hX d1 d2 hxy H
          obtain ⟨vals, hMV⟩ := HMID.out.1
          have hlenr : (nxRows n (es.take k)).length = n := nxRows_len _ _
          obtain ⟨r1, hr1⟩ : ∃ r, (nxRows n (es.take k))[x]? = some r := ⟨_, List.getElem?_eq_getElem (by omega)⟩
          obtain ⟨v1, hv1⟩ : ∃ v, vals[x]? = some v := ⟨_, List.getElem?_eq_getElem (by rw [hMV.1]; omega)⟩
          have hrow1 : Own W1 wo.heap.size 3 natf v1 r1 := hMV.2.2.1 x v1 r1 hv1 hr1
          have b3 : W1.cell? ⟨wo.heap.size, x, none⟩ = some v1 := hMV.2.1.cell hv1
          have b4 := hMV.2.1.free x
          have hr1len : r1.length + 1 ≤ 1099511627776 := by
            rw [nxRows_get _ hx] at hr1
            cases hr1
            have := nextsM_len (es.take k) x
            rw [List.length_take] at this
            omega
          have hgl := (hMV.2.1.lt _ rfl).2
          have hag1 : v1.ownBlock ≠ some wo.heap.size := fun e => hrow1.apart hMV.2.1 (by decide) _ e rfl
          have hag2 : v1.ownBlock ≠ some X := fun e => hrow1.apart_blk HMID.out.2.2.2 (by decide) _ e rfl
          have HMV := Lib.hid hMV
          have HR1 := Lib.hid hr1
          have HV1 := Lib.hid hv1
          obtain ⟨ao1, cap1, hsh1⟩ := hrow1.shape
          have HSH1 := Lib.hid hsh1
          clear hMV hr1 hv1 hlenr hsh1
          obtain ⟨sz1, b1, b2⟩ := HMID.out.x
          have szW := HMID.out.2.1.size
          have b3' := (World.cell?_alloc_lt W1 (.cells #[.int .i64 (y : Int)] 3) ⟨wo.heap.size, x, none⟩ (by simp; omega)).trans b3
          have b1' := (World.cell?_alloc_lt W1 (.cells #[.int .i64 (y : Int)] 3) ⟨X, 0, none⟩ sz1).trans b1
          have b2' := (World.cell?_alloc_lt W1 (.cells #[.int .i64 (y : Int)] 3) ⟨X, 1, none⟩ sz1).trans b2
          have hrowW : Own W1.drew wo.heap.size 3 natf v1 r1 := hrow1
          have z0 : (0 : Int) ≤ (x : Int) := Int.natCast_nonneg _
          have z1 : (x : Int) < (n : Int) := by omega
          go_region_law
            ((refine step_push _ (by rfl) _ _ _ (by rfl) 3 8 elemInt wo.heap.size natf v1 r1 y rfl hrowW (by rfl) (by rfl) hr1len (by omega) (by simp; omega) ?_; intro v2 w2 hown2 hg2 hat2; obtain ⟨ao2, c2, rfl⟩ := hown2.shape; rw [List.length_append, List.length_singleton] at hown2 hat2; have hfz2 : w2.frozen? ⟨wo.heap.size, x, none⟩ = false := (hg2.frozen_far ⟨wo.heap.size, x, none⟩ (by simp; omega) (Ne.symm hag1)).trans b4; have hcl2 : w2.cell? ⟨wo.heap.size, x, none⟩ = some v1 := (hg2.cell_far ⟨wo.heap.size, x, none⟩ (by simp; omega) (Ne.symm hag1)).trans b3; have hbx2 : w2.cell? ⟨X, 0, none⟩ = some (.int .i64 (x : Int)) := (hg2.cell_far ⟨X, 0, none⟩ (by simp; omega) (Ne.symm hag2)).trans b1; have hby2 : w2.cell? ⟨X, 1, none⟩ = some (.int .i64 (y : Int)) := (hg2.cell_far ⟨X, 1, none⟩ (by simp; omega) (Ne.symm hag2)).trans b2))
          all_goals
            have HF := Lib.hid (BesMid.next HMID.out HMV.out HV1.out HR1.out hown2 (undrew hg2) hat2)
            go_wp2
            go_roundw
            case rel => first | exact ⟨k + 1, by omega, by go_num, by rw [HN.out]; exact ⟨HF.out.1, HF.out.2.1⟩⟩ | ((repeat apply Exists.intro); exact ⟨⟨k + 1, by omega, by go_num, by rw [HN.out]; exact ⟨HF.out.1, HF.out.2.1⟩⟩, rfl⟩)
            case measure => simp [intOf]; omega
        · obtain rfl : k = es.length := by omega
          rw [List.take_length] at H
          have hsz0 : w.heap.size < wo.heap.size := (HA.out.lt w.heap.size rfl).2
          have HO : Hid (OAt w wo wr n (waitL n es []) [] (.slice none 0 0) wr) := ⟨fun g _ _ => rfl, Nat.le_refl _, by rw [← waitL_nil]; exact HA.out.below H.out.2, Own.nil _ _ _ _, bstep hB H.out.2, hsz0, H.out.2.size⟩
          have HM := Lib.hid H.out.1
          clear H HA
          obtain ⟨w2, rfl⟩ : ∃ w2 : World, w2 = wr := ⟨_, rfl⟩
          go_wp2_with fail
          go_loopw [12, 13, 15, 55] (fun s12 _ _ s55 wr => ∃ (j : Nat) (D : List Nat), j ≤ n ∧ s55 = .int .i64 (j : Int) ∧ Hid (ordTo n es j = some D ∧ OAt w wo w2 n (waitL n es D) D s12 wr)) (fun _ _ _ s55 _ => n - (intOf s55).toNat)
          case atStart => exact ⟨0, [], Nat.zero_le _, rfl, rfl, HO.out⟩
          case round =>
            clear HO
            obtain ⟨j, D, hj, rfl, H⟩ := hrel
            by_cases hlt : j < n
            · have hix := waitL_index n es D
              have HIX := Lib.hid (index_any _ (waitL n es D) 0 wr H.out.2.waits.sl (by rw [waitL_len]; omega))
              have HS : Hid (ordTo n es (j + 1) = match nextFree n es D with | none => none | some i => some (D ++ [i])) := by
                show _ = _
                rw [ordTo, H.out.1]
                rfl
              have hDl : D.length = j := (ordTo_ok j D H.out.1).1
              have HD := Lib.hid (ordTo_ok j D H.out.1).2
              cases hf : nextFree n es D with
              | none =>
                rw [hf] at hix HS
                have HR : Hid (orderOf n es = none) := ordTo_none HS.out n (by omega)
                simp only at hix
                rw [hix] at HIX
                clear hix hf
                go_wp2_with fail
                refine HIX.out.mono ?_
                rintro e w9 ⟨rfl, rfl⟩
                go_wp2
                go_ret2
                exact ⟨by rw [HR.out]; rfl, H.out.2.below⟩
              | some i =>
                obtain ⟨hi, hav, _⟩ := nextFree_some hf
                rw [hf] at hix HS
                simp only at hix
                rw [hix] at HIX
                have HAV := Lib.hid (avail_iff.1 hav)
                obtain ⟨vals, hMV⟩ := HM.out
                obtain ⟨v, hv⟩ : ∃ v, vals[i]? = some v := ⟨_, List.getElem?_eq_getElem (by rw [hMV.1, nxRows_len]; exact hi)⟩
                have HROW : Hid (∀ A B u W, OAt w wo w2 n A B u W → Own W wo.heap.size 3 natf v (nextsM es i) ∧ W.cell? ⟨wo.heap.size, i, none⟩ = some v) := fun A B u W hA => by
                  have h1 := hMV.kept (fun g g1 g2 _ => hA.keep g g1 g2)
                  exact ⟨h1.2.2.1 i v _ hv (nxRows_get es hi), h1.2.1.cell hv⟩
                have hRL := nextsM_len es i
                have f1 := H.out.2.waits.free i
                have i0 : (0 : Int) ≤ (i : Int) := Int.natCast_nonneg _
                have i1 : (i : Int) < (n : Int) := by omega
                have hzz : ¬ ((i : Int) < 0) := by omega
                have hgl := (H.out.2.waits.lt w.heap.size rfl).2
                have HST := Lib.hid (H.out.2.set i (-1))
                rw [← midL_zero es D hi] at HST
                obtain ⟨wc, rfl⟩ : ∃ wc : World, wc = wr := ⟨_, rfl⟩
                obtain ⟨W3, hW3⟩ : ∃ W3, wc.setCell ⟨w.heap.size, i, none⟩ (.int .i64 (-1)) = W3 := ⟨_, rfl⟩
                rw [hW3] at HST
                clear hf hix hav hMV hv
                obtain ⟨c1, c2⟩ := HROW.out _ _ _ _ HST.out
                obtain ⟨ao, cap, hvs⟩ := c1.shape
                have c0 := H.out.2.waits.cell (waitL_get es D hi)
                rw [hvs] at c2
                clear c1
                go_wp2_with fail
                refine HIX.out.mono ?_
                rintro e w9 ⟨rfl, rfl⟩
                go_wp2_with fail
                clear c0 c2 f1 hW3
                go_loopw [15, 69] (fun _ s69 wr => ∃ t : Nat, t ≤ (nextsM es i).length ∧ s69 = .int .i64 (t : Int) ∧ Hid (OAt w wo w2 n (midL n es D i t) D u12 wr)) (fun _ s69 _ => (nextsM es i).length - (intOf s69).toNat)
                case atStart => exact ⟨0, Nat.zero_le _, rfl, HST.out⟩
                case round =>
                  clear HST
                  obtain ⟨t, ht, rfl, HT⟩ := hrel
                  by_cases htl : t < (nextsM es i).length
                  · obtain ⟨k, hk⟩ : ∃ k, (nextsM es i)[t]? = some k := ⟨_, List.getElem?_eq_getElem htl⟩
                    have hmem : (i, k) ∈ es := nextsM_mem.1 (List.mem_of_getElem? hk)
                    have hkn : k < n := (by obtain ⟨q, hq⟩ := List.mem_iff_getElem?.1 hmem; exact (HG.out.ends q _ hq).2)
                    have hkD : k ∉ D ++ [i] := by
                      intro hm'
                      rcases List.mem_append.1 hm' with h | h
                      · exact HAV.out.1 (HD.out.pre _ hmem h).1
                      · rw [List.mem_singleton] at h
                        subst h
                        exact HAV.out.1 (HAV.out.2 _ hmem rfl)
                    have HN := Lib.hid (midL_step es D hk hkn hkD)
                    have hr := (HROW.out _ _ _ _ HT.out).1
                    rw [hvs] at hr
                    obtain ⟨rb, roff, rfl, hrl, rc⟩ := nats_get hr.sl hk
                    have c1 := HT.out.waits.cell (midL_get es D i t hkn)
                    unfold intf at c1
                    have f1 := HT.out.waits.free k
                    have hbd := midI_bd (es := es) (D := D) (i := i) (t := t) (j := k) hm
                    obtain ⟨z, hz⟩ : ∃ z, midI es D i t k = z := ⟨_, rfl⟩
                    rw [hz] at HN hbd c1
                    have k0 : (0 : Int) ≤ (k : Int) := Int.natCast_nonneg _
                    have k1 : (k : Int) < (n : Int) := by omega
                    have hgl := (HT.out.waits.lt w.heap.size rfl).2
                    clear hr hk hz hmem hkD
                    go_wp2
                    go_roundw
                    case rel => exact ⟨t + 1, by omega, by go_num, by rw [HN.out]; exact HT.out.set k (z - 1)⟩
                    case measure => simp [intOf]; omega
                  · obtain rfl : t = (nextsM es i).length := by omega
                    have HA := HT.out
                    rw [midL_all es D HAV.out.1] at HA
                    have HA := Lib.hid HA
                    have hlen1 : D.length + 1 ≤ 1099511627776 := by omega
                    have hbase := HA.out.sz
                    clear HT
                    go_wp2_with (at_builtin; refine wpList_push wr rfl _ _ 24 rfl 3 8 elemInt w2.heap.size natf _ D i rfl HA.out.out rfl rfl hlen1 (by omega) hbase ?_; intro v' w' hown' hg' hat')
                    go_roundw
                    case rel => exact ⟨j + 1, D ++ [i], by omega, by go_num, HS.out, HA.out.push hown' hg'⟩
                    case measure => simp [intOf]; omega
            · obtain rfl : j = n := by omega
              have HR : Hid (orderOf j es = some D) := H.out.1
              go_wp2
              go_ret2
              exact ⟨by rw [HR.out]; exact ⟨_, rfl, H.out.2.out.mono (by have := H.out.2.lo; omega)⟩, H.out.2.below⟩
end
section
open Go.RowKit Go.Sort
set_option linter.unusedVariables false
attribute [local go_sem ↓] Go.wp_at_zero Go.wp_at_succ

theorem strict_ext {l1 l2 : List Int} (h1 : l1.Pairwise (· < ·)) (h2 : l2.Pairwise (· < ·)) (h : ∀ x, x ∈ l1 ↔ x ∈ l2) : l1 = l2 := by
  have n1 : l1.Nodup := h1.imp (fun {a b} hab => by omega)
  have n2 : l2.Nodup := h2.imp (fun {a b} hab => by omega)
  exact List.Perm.eq_of_pairwise (le := fun a b => a < b) (fun a b _ _ h1 h2 => by omega) h1 h2 ((List.perm_ext_iff_of_nodup n1 n2).2 h)

theorem get_arr (zs : List Int) {j : Nat} (hj : j < zs.length) : zs.toArray[j]! = zs[j] := by
  simp [hj]
theorem sorted_get {zs : List Int} (h : zs.Pairwise (· ≤ ·)) {i j : Nat} (hij : i ≤ j) (hj : j < zs.length) : zs.toArray[i]! ≤ zs.toArray[j]! := by
  rw [get_arr zs hj, get_arr zs (by omega)]
  rcases Nat.lt_or_ge i j with h1 | h1
  · exact List.pairwise_iff_getElem.1 h i j (by omega) hj h1
  · have : i = j := by omega
    subst this; omega
theorem compact_lt {zs : List Int} (h : zs.Pairwise (· ≤ ·)) : (Lib.compact zs).Pairwise (· < ·) := by
  unfold Lib.compact Lib.compactUpTo
  rw [List.pairwise_map]
  have hp : ((List.range zs.length).filter (Lib.keeps zs.toArray)).Pairwise (· < ·) := List.pairwise_lt_range.filter _
  refine hp.imp_of_mem fun {a b} ha hb hab => ?_
  rw [List.mem_filter, List.mem_range] at ha hb
  have hk := hb.2
  unfold Lib.keeps at hk
  have h1 := of_decide_eq_true hk
  have h2 := sorted_get h (show a ≤ b - 1 by omega) (by omega)
  have h3 := sorted_get h (show b - 1 ≤ b by omega) hb.1
  omega
theorem compact_mem {zs : List Int} (x : Int) : x ∈ Lib.compact zs ↔ x ∈ zs := by
  unfold Lib.compact Lib.compactUpTo
  rw [List.mem_map]
  constructor
  · rintro ⟨a, ha, rfl⟩
    rw [List.mem_filter, List.mem_range] at ha
    rw [get_arr zs ha.1]
    exact List.getElem_mem _
  · intro hx
    obtain ⟨i, hi, rfl⟩ := List.mem_iff_getElem.1 hx
    clear hx
    induction i using Nat.strongRecOn with
    | ind i ih =>
      by_cases hk : Lib.keeps zs.toArray i = true
      · exact ⟨i, by rw [List.mem_filter, List.mem_range]; exact ⟨hi, hk⟩, get_arr zs hi⟩
      · have h1 : ¬ (i = 0 ∨ zs.toArray[i]! ≠ zs.toArray[i - 1]!) := fun h => hk (by unfold Lib.keeps; exact decide_eq_true h)
        have h2 : zs.toArray[i]! = zs.toArray[i - 1]! := by
          by_cases h3 : zs.toArray[i]! = zs.toArray[i - 1]!
          · exact h3
          · exact absurd (.inr h3) h1
        rw [get_arr zs hi, get_arr zs (show i - 1 < zs.length by omega)] at h2
        have := ih (i - 1) (by omega) (by omega)
        rw [h2]; exact this
theorem compact_is {l r : List Nat} (hl : l.Pairwise (· ≤ ·)) (hr : r.Pairwise (· < ·)) (hm : ∀ x, x ∈ r ↔ x ∈ l) : Lib.compact (l.map fun k : Nat => (k : Int)) = r.map fun k : Nat => (k : Int) := by
  refine strict_ext (compact_lt ?_) ?_ fun x => ?_
  · rw [List.pairwise_map]; exact hl.imp (fun {a b} h => by omega)
  · rw [List.pairwise_map]; exact hr.imp (fun {a b} h => by omega)
  · rw [compact_mem, List.mem_map, List.mem_map]
    constructor
    · rintro ⟨a, ha, rfl⟩; exact ⟨a, (hm a).2 ha, rfl⟩
    · rintro ⟨a, ha, rfl⟩; exact ⟨a, (hm a).1 ha, rfl⟩

def sortN (l : List Nat) : List Nat := l.mergeSort fun a b => decide (a ≤ b)
theorem sortN_sorted (l : List Nat) : (sortN l).Pairwise (· ≤ ·) := by
  have := List.pairwise_mergeSort (le := fun a b : Nat => decide (a ≤ b)) (fun a b c h1 h2 => by simp at *; omega) (fun a b => by simp; omega) l
  exact this.imp (fun {a b} h => by simpa using h)
theorem sortN_perm (l : List Nat) : (sortN l).Perm l := List.mergeSort_perm _ _
theorem sortN_mem (l : List Nat) (x : Nat) : x ∈ sortN l ↔ x ∈ l := (sortN_perm l).mem_iff
theorem sortN_int (l : List Nat) : (sortN l).map (fun k : Nat => (k : Int)) = (l.map fun k : Nat => (k : Int)).mergeSort fun x y => decide (x ≤ y) := by
  unfold sortN
  refine List.map_mergeSort fun a _ b _ => ?_
  by_cases h : a ≤ b
  · rw [decide_eq_true h, decide_eq_true (by omega)]
  · rw [decide_eq_false h, decide_eq_false (by omega)]
theorem nat_rows (l : List Nat) : (l.map fun k : Nat => (k : Int)).map (Value.int .i64) = l.map natf := by
  rw [List.map_map]; rfl

theorem sort_own {w : World} {base : Nat} {v : Value} {l : List Nat} (h : Own w base 3 natf v l) (hl : l.length < 4611686018427387904) :
    Calls Tryz.prog 98 #[v] w fun e w' => e = .returned (.tuple #[]) ∧ Own w' base 3 natf v (sortN l) ∧ w.grownBy w' v.ownBlock := by
  rcases h.2 with ⟨h1, h2⟩ | ⟨g, cap, cur, rfl, hg, hb, hc, hm, hs, ht⟩
  · have : l = [] := List.length_eq_zero_iff.1 h2
    subst this
    rw [h1]
    refine (Tryz.slices_Sort_int_none none 0 w).mono ?_
    rintro e w' ⟨rfl, rfl⟩
    exact ⟨rfl, by rw [show sortN [] = [] by simp [sortN]]; exact Own.nil _ _ _ _, ⟨rfl, rfl, rfl, Nat.le_refl _, fun k _ _ => rfl⟩⟩
  · have hlen : (l.map fun k : Nat => (k : Int)).length = l.length := by simp
    have hH := holds_of_blockI (ss := l.map fun k : Nat => (k : Int)) hb (by rw [hlen, nat_rows, ← ht, Nat.mul_one])
    have := Tryz.slices_Sort_int g 0 cap (l.map fun k : Nat => (k : Int)) w hH (h.lt g rfl).2 (by rw [hlen]; exact hl)
    rw [hlen] at this
    refine this.mono ?_
    rintro e w' ⟨rfl, q, os, rfl⟩
    refine ⟨rfl, ?_, grownBy_sortedI _⟩
    have h3 := ownsRow_sortedI (n := q) (os := os) (ts := (l.map fun k : Nat => (k : Int)).mergeSort fun x y => decide (x ≤ y)) (ss := l.map fun k : Nat => (k : Int)) (List.length_mergeSort _) hg hb (by rw [hlen]; exact hc) hm hs
    rw [← sortN_int, nat_rows, hlen] at h3
    show World.ownsRow _ _ _ _ _ _ _
    rw [(sortN_perm l).length_eq, ← sortN_int]
    exact h3

theorem compact_own {w : World} {base : Nat} {v : Value} {l r : List Nat} (h : Own w base 3 natf v l) (hl : l.length ≤ 9223372036854775807) (hls : l.Pairwise (· ≤ ·)) (hr : r.Pairwise (· < ·)) (hm : ∀ x, x ∈ r ↔ x ∈ l) :
    Calls Tryz.prog 81 #[v] w fun e w' => ∃ v', e = .returned v' ∧ Own w' base 3 natf v' r ∧ v'.ownBlock = v.ownBlock ∧ w.grownBy w' v.ownBlock := by
  rcases h.2 with ⟨h1, h2⟩ | ⟨g, cap, cur, rfl, hg, hb, hc, hmx, hs, ht⟩
  · have : l = [] := List.length_eq_zero_iff.1 h2
    subst this
    have hr0 : r = [] := List.eq_nil_iff_forall_not_mem.2 fun x hx => by have := (hm x).1 hx; cases this
    subst hr0
    rw [h1]
    refine (Tryz.slices_Compact_int_empty none 0 w).mono ?_
    rintro e w' ⟨rfl, rfl⟩
    exact ⟨_, rfl, Own.nil _ _ _ _, rfl, ⟨rfl, rfl, rfl, Nat.le_refl _, fun k _ _ => rfl⟩⟩
  · have hlen : (l.map fun k : Nat => (k : Int)).length = l.length := by simp
    have hH := holds_of_blockI (ss := l.map fun k : Nat => (k : Int)) hb (by rw [hlen, nat_rows, ← ht, Nat.mul_one])
    have hcm := compact_is hls hr hm
    have hle : r.length ≤ l.length := by
      have h1 : (Lib.compact (l.map fun k : Nat => (k : Int))).length ≤ (l.map fun k : Nat => (k : Int)).length := by
        unfold Lib.compact Lib.compactUpTo
        rw [List.length_map]
        exact Nat.le_trans (List.length_filter_le _ _) (by simp)
      rw [hcm] at h1
      simpa using h1
    have := Tryz.slices_Compact_int g 0 cap (l.map fun k : Nat => (k : Int)) w hH (by rw [hlen]; exact hl) (by rw [hlen]; exact hc)
    rw [hlen, hcm, List.length_map] at this
    refine this.mono ?_
    rintro e w' ⟨rfl, q, rfl⟩
    refine ⟨_, rfl, ?_, rfl, ?_⟩
    · have h3 := heap_sortedI (n := q) (os := #[]) (r.map (fun k : Nat => (k : Int)) ++ List.replicate (l.length - r.length) 0).toArray hb
      rw [grow_empty] at h3
      refine ⟨by simp, .inr ⟨g, cap, _, rfl, hg, h3, by omega, hmx, by simp [putCells, hs], ?_⟩⟩
      have h4 := take_putCellsI cur (r.map (fun k : Nat => (k : Int)) ++ List.replicate (l.length - r.length) 0) (by simp; omega)
      have h5 := congrArg (List.take r.length) h4
      rw [List.take_take, Nat.min_eq_left (by simp)] at h5
      rw [Nat.mul_one, h5, List.map_append, List.take_append_of_le_length (by simp), List.take_of_length_le (by simp), nat_rows]
    · have := grownBy_sortedI (w := w) (g := g) (n := q) (os := #[]) (r.map (fun k : Nat => (k : Int)) ++ List.replicate (l.length - r.length) 0).toArray
      rw [grow_empty] at this
      exact this

theorem MatVals.turn {w w1 : World} {base : Nat} {V : Value} {vals : List Value} {rows : List (List Nat)} (h : MatVals w base V vals rows) {k : Nat} {v : Value} {r r1 : List Nat} (hv : vals[k]? = some v) (hr : rows[k]? = some r)
    (hown : Own w1 base 3 natf v r1) (hg : w.grownBy w1 v.ownBlock) : MatVals w1 base V vals (rows.set k r1) := by
  obtain ⟨h1, h2, h3, h4⟩ := h
  have hvr := h3 k v r hv hr
  have hk : k < vals.length := (List.getElem?_eq_some_iff.1 hv).1
  have o2 : Own w1 base 24 rowf V vals := h2.only hg (h2.apart hvr (by decide))
  refine ⟨by simp [h1], o2, fun j u s hu hs => ?_, h4⟩
  by_cases hj : k = j
  · subst hj
    rw [hv] at hu
    cases hu
    rw [List.getElem?_set_self (by omega)] at hs
    cases hs
    exact hown
  · rw [List.getElem?_set_ne hj] at hs
    exact (h3 j u s hu hs).only hg (fun g hgu he => h4 j k u v g (fun e => hj e.symm) hu hv hgu he.symm)
theorem MatVals.put {w w1 : World} {base G n cap : Nat} {vals : List Value} {rows : List (List Nat)} (h : MatVals w base (.slice (some ⟨G, 0, none⟩) n cap) vals rows) {k : Nat} {v v1 : Value} {r r1 : List Nat} (hv : vals[k]? = some v) (hr : rows[k]? = some r)
    (hown : Own w1 base 3 natf v1 r1) (hg : w.grownBy w1 v.ownBlock) (hat : v1.ownBlock = v.ownBlock) :
    MatVals (w1.setCell ⟨G, k, none⟩ v1) base (.slice (some ⟨G, 0, none⟩) n cap) (vals.set k v1) (rows.set k r1) := by
  obtain ⟨h1, h2, h3, h4⟩ := h
  have hvr := h3 k v r hv hr
  have hk : k < vals.length := (List.getElem?_eq_some_iff.1 hv).1
  have o2 : Own w1 base 24 rowf (.slice (some ⟨G, 0, none⟩) n cap) vals := h2.only hg (h2.apart hvr (by decide))
  have o3 := o2.set k v1
  have hset : w1.grownBy (w1.setCell ⟨G, k, none⟩ v1) (some G) := only_set w1 G k v1
  have kept : ∀ (u : Value) (s : List Nat), Own w1 base 3 natf u s → Own (w1.setCell ⟨G, k, none⟩ v1) base 3 natf u s :=
    fun u s hu => hu.only hset (hu.apart o2 (by decide))
  have old : ∀ (j : Nat) u, j ≠ k → vals[j]? = some u → ∀ g, u.ownBlock = some g → some g ≠ v.ownBlock := by
    intro j u hj hu g hgu he
    exact h4 j k u v g hj hu hv hgu he.symm
  refine ⟨by simp [h1], o3, fun j u s hu hs => ?_, fun i j vi vj g hij hi hj hgi => ?_⟩
  · by_cases hj : k = j
    · subst hj
      rw [List.getElem?_set_self hk] at hu
      cases hu
      rw [List.getElem?_set_self (by omega)] at hs
      cases hs
      exact kept _ _ hown
    · rw [List.getElem?_set_ne hj] at hu hs
      exact kept _ _ ((h3 j u s hu hs).only hg (old j u (fun e => hj e.symm) hu))
  · by_cases hi' : k = i
    · subst hi'
      rw [List.getElem?_set_self hk] at hi
      cases hi
      rw [List.getElem?_set_ne hij] at hj
      intro hgj
      exact old j vj (fun e => hij e.symm) hj g hgj (by rw [← hat, hgi])
    · rw [List.getElem?_set_ne hi'] at hi
      by_cases hj' : k = j
      · subst hj'
        rw [List.getElem?_set_self hk] at hj
        cases hj
        intro hgj
        exact old i vi (fun e => hi' e.symm) hi g hgi (by rw [← hat, hgj])
      · rw [List.getElem?_set_ne hj'] at hj
        exact h4 i j vi vj g hij hi hj hgi

def nextsS (n : Nat) (es : List (Nat × Nat)) (i : Nat) : List Nat := (List.range n).filter fun k => decide ((i, k) ∈ es)
def nxS (n : Nat) (es : List (Nat × Nat)) : List (List Nat) := (List.range n).map (nextsS n es)
theorem nextsS_mem {n : Nat} {es : List (Nat × Nat)} {i k : Nat} : k ∈ nextsS n es i ↔ k < n ∧ (i, k) ∈ es := by
  unfold nextsS
  rw [List.mem_filter, List.mem_range, decide_eq_true_iff]
theorem nextsS_sorted (n : Nat) (es : List (Nat × Nat)) (i : Nat) : (nextsS n es i).Pairwise (· < ·) := List.pairwise_lt_range.filter _
theorem nextsS_len (n : Nat) (es : List (Nat × Nat)) (i : Nat) : (nextsS n es i).length ≤ n := by
  unfold nextsS
  exact Nat.le_trans (List.length_filter_le _ _) (by simp)
theorem nxS_len (n : Nat) (es : List (Nat × Nat)) : (nxS n es).length = n := by simp [nxS]
theorem nxS_get {n : Nat} (es : List (Nat × Nat)) {i : Nat} (hi : i < n) : (nxS n es)[i]? = some (nextsS n es i) := by
  unfold nxS
  rw [List.getElem?_map, List.getElem?_range hi]; rfl
def midS (n : Nat) (es : List (Nat × Nat)) (t : Nat) : List (List Nat) := (List.range n).map fun j => if j < t then nextsS n es j else nextsM es j
theorem midS_len (n : Nat) (es : List (Nat × Nat)) (t : Nat) : (midS n es t).length = n := by simp [midS]
theorem midS_get {n : Nat} (es : List (Nat × Nat)) (t : Nat) {i : Nat} (hi : i < n) : (midS n es t)[i]? = some (if i < t then nextsS n es i else nextsM es i) := by
  unfold midS
  rw [List.getElem?_map, List.getElem?_range hi]; rfl
theorem midS_zero (n : Nat) (es : List (Nat × Nat)) : midS n es 0 = nxRows n es := by
  unfold midS nxRows
  refine List.map_congr_left fun j _ => ?_
  rw [if_neg (by omega)]
theorem midS_all (n : Nat) (es : List (Nat × Nat)) : midS n es n = nxS n es := by
  unfold midS nxS
  refine List.map_congr_left fun j hj => ?_
  rw [List.mem_range] at hj
  rw [if_pos hj]
theorem midS_step (n : Nat) (es : List (Nat × Nat)) (t : Nat) : midS n es (t + 1) = (midS n es t).set t (nextsS n es t) := by
  refine List.ext_getElem? fun j => ?_
  by_cases hj : j < n
  · rw [midS_get _ _ hj]
    by_cases e : t = j
    · subst e
      rw [List.getElem?_set_self (by rw [midS_len]; exact hj), if_pos (by omega)]
    · rw [List.getElem?_set_ne e, midS_get _ _ hj]
      by_cases h : j < t
      · rw [if_pos h, if_pos (by omega)]
      · rw [if_neg h, if_neg (by omega)]
  · rw [List.getElem?_eq_none (by rw [midS_len]; omega), List.getElem?_eq_none (by rw [List.length_set, midS_len]; omega)]
end
section
open Go.RowKit
set_option linter.unusedVariables false
attribute [local go_sem ↓] Go.wp_at_zero Go.wp_at_succ

def NextsPost (w : World) (n : Nat) (es : List (Nat × Nat)) (e : Ending) (w' : World) : Prop :=
  (∃ V, e = .returned V ∧ Mat w' w.heap.size V (nxS n es)) ∧ Below w.heap.size w w'

set_option maxRecDepth 100000 in
set_option maxHeartbeats 4000000 in
theorem nexts_any (n : Nat) (v : Value) (es : List (Nat × Nat)) (w : World) (hg : Dg w n v es) :
    Calls Tryz.prog 73 #[.int .i64 (n : Int), v] w (NextsPost w n es) := by
  have hn := hg.n_le
  have hm := hg.m_le
  have HG := Lib.hid hg
  clear hg
  obtain ⟨eao, ecap, rfl, _⟩ := HG.out.pairs.open_
  have hmk2 := fun W => run_make_one (P := Tryz.prog) 36 24 24 (.slice none 0 0) Tryz.underlying36 (by kernel_rfl) (by omega) n (by omega) W
  have HM0 := Lib.hid (Mat.new (own_made w 24 rowf (.slice none 0 0) (.slice none 0 0) rfl n (by omega) w.heap.size (Nat.le_refl _)))
  have hB0 := below_new w (.cells (madeCells (Value.slice none 0 0).cells n) 24)
  obtain ⟨wo, rfl⟩ : ∃ wo : World, wo = w := ⟨_, rfl⟩
  go_enter Tryz.func73, Tryz.ntmps73
  go_wp2_with fail
  go_loopw [7, 13] (fun _ s13 wr => ∃ k : Nat, k ≤ es.length ∧ s13 = .int .i64 (k : Int) ∧ Hid (Mat wr wo.heap.size (.slice (some ⟨wo.heap.size, 0, none⟩) n n) (nxRows n (es.take k)) ∧ Below wo.heap.size wo wr)) (fun _ s13 _ => es.length - (intOf s13).toNat)
  case atStart => exact ⟨0, Nat.zero_le _, rfl, by rw [List.take_zero, nxRows_nil]; exact HM0.out, hB0⟩
  case round =>
    obtain ⟨k, hk, rfl, H⟩ := hrel
    clear HM0 hB0
    by_cases hlt : k < es.length
    · obtain ⟨⟨x, y⟩, hxy⟩ : ∃ e, es[k]? = some e := ⟨_, List.getElem?_eq_getElem hlt⟩
      have hends := HG.out.ends k _ hxy
      obtain ⟨eb, eoff, rfl, heb, d1, d2⟩ := (HG.out.pairs.below H.out.2).edge hxy
      simp only at hends d1 d2
      obtain ⟨hx, hy⟩ := hends
      have HN := Lib.hid (show nxRows n (es.take (k + 1)) = addAt (nxRows n (es.take k)) x y by rw [take_edge hxy]; exact nxRows_snoc _ x y hx)
      obtain ⟨W1, hW1⟩ : ∃ W1, W1 = wr.alloc (.cells #[.int .i64 (x : Int), .int .i64 (y : Int)] 33) := ⟨_, rfl⟩
      obtain ⟨X, hX⟩ : ∃ X, X = wr.heap.size := ⟨_, rfl⟩
      have HMID : Hid (BesMid wo n X x y (nxRows n (es.take k)) W1) := by
        rw [hW1, hX]
        exact ⟨H.out.1.alloc _, H.out.2.alloc H.out.2.size _, H.out.2.size, heap_alloc_new wr _⟩
      go_upto_region 5 with fail
      rw [← hW1, ← hX]
      have HW1 := Lib.hid hW1
      have HXX := Lib.hid hX
      clear hW1 hX d1 d2 hxy H
      obtain ⟨vals, hMV⟩ := HMID.out.1
      have hlenr : (nxRows n (es.take k)).length = n := nxRows_len _ _
      obtain ⟨r1, hr1⟩ : ∃ r, (nxRows n (es.take k))[x]? = some r := ⟨_, List.getElem?_eq_getElem (by omega)⟩
      obtain ⟨v1, hv1⟩ : ∃ v, vals[x]? = some v := ⟨_, List.getElem?_eq_getElem (by rw [hMV.1]; omega)⟩
      have hrow1 : Own W1 wo.heap.size 3 natf v1 r1 := hMV.2.2.1 x v1 r1 hv1 hr1
      have b3 : W1.cell? ⟨wo.heap.size, x, none⟩ = some v1 := hMV.2.1.cell hv1
      have b4 := hMV.2.1.free x
      have hr1len : r1.length + 1 ≤ 1099511627776 := by
        rw [nxRows_get _ hx] at hr1
        cases hr1
        have := nextsM_len (es.take k) x
        rw [List.length_take] at this
        omega
      have hgl := (hMV.2.1.lt _ rfl).2
      have hag1 : v1.ownBlock ≠ some wo.heap.size := fun e => hrow1.apart hMV.2.1 (by decide) _ e rfl
      have hag2 : v1.ownBlock ≠ some X := fun e => hrow1.apart_blk HMID.out.2.2.2 (by decide) _ e rfl
      have HMV := Lib.hid hMV
      have HR1 := Lib.hid hr1
      have HV1 := Lib.hid hv1
      obtain ⟨ao1, cap1, hsh1⟩ := hrow1.shape
      have HSH1 := Lib.hid hsh1
      clear hMV hr1 hv1 hlenr hsh1
      obtain ⟨sz1, b1, b2⟩ := HMID.out.x
      have szW := HMID.out.2.1.size
      have b3' := (World.cell?_alloc_lt W1 (.cells #[.int .i64 (y : Int)] 3) ⟨wo.heap.size, x, none⟩ (by simp; omega)).trans b3
      have b1' := (World.cell?_alloc_lt W1 (.cells #[.int .i64 (y : Int)] 3) ⟨X, 0, none⟩ sz1).trans b1
      have b2' := (World.cell?_alloc_lt W1 (.cells #[.int .i64 (y : Int)] 3) ⟨X, 1, none⟩ sz1).trans b2
      have hrowW : Own W1.drew wo.heap.size 3 natf v1 r1 := hrow1
      have z0 : (0 : Int) ≤ (x : Int) := Int.natCast_nonneg _
      have z1 : (x : Int) < (n : Int) := by omega
      go_region_law
        ((refine step_push _ (by rfl) _ _ _ (by rfl) 3 8 elemInt wo.heap.size natf v1 r1 y rfl hrowW (by rfl) (by rfl) hr1len (by omega) (by simp; omega) ?_; intro v2 w2 hown2 hg2 hat2; obtain ⟨ao2, c2, rfl⟩ := hown2.shape; rw [List.length_append, List.length_singleton] at hown2 hat2; have hfz2 : w2.frozen? ⟨wo.heap.size, x, none⟩ = false := (hg2.frozen_far ⟨wo.heap.size, x, none⟩ (by simp; omega) (Ne.symm hag1)).trans b4; have hcl2 : w2.cell? ⟨wo.heap.size, x, none⟩ = some v1 := (hg2.cell_far ⟨wo.heap.size, x, none⟩ (by simp; omega) (Ne.symm hag1)).trans b3; have hbx2 : w2.cell? ⟨X, 0, none⟩ = some (.int .i64 (x : Int)) := (hg2.cell_far ⟨X, 0, none⟩ (by simp; omega) (Ne.symm hag2)).trans b1; have hby2 : w2.cell? ⟨X, 1, none⟩ = some (.int .i64 (y : Int)) := (hg2.cell_far ⟨X, 1, none⟩ (by simp; omega) (Ne.symm hag2)).trans b2))
      all_goals
        have HF := Lib.hid (BesMid.next HMID.out HMV.out HV1.out HR1.out hown2 (undrew hg2) hat2)
        go_wp2
        go_roundw
        case rel => first | exact ⟨k + 1, by omega, by go_num, by rw [HN.out]; exact ⟨HF.out.1, HF.out.2.1⟩⟩ | ((repeat apply Exists.intro); exact ⟨⟨k + 1, by omega, by go_num, by rw [HN.out]; exact ⟨HF.out.1, HF.out.2.1⟩⟩, rfl⟩)
        case measure => simp [intOf]; omega
    · obtain rfl : k = es.length := by omega
      rw [List.take_length, ← midS_zero] at H
      obtain ⟨w2, rfl⟩ : ∃ w2 : World, w2 = wr := ⟨_, rfl⟩
      go_wp2_with fail
      go_loopw [8, 33] (fun _ s33 wr => ∃ k : Nat, k ≤ n ∧ s33 = .int .i64 (k : Int) ∧ Hid (Mat wr wo.heap.size (.slice (some ⟨wo.heap.size, 0, none⟩) n n) (midS n es k) ∧ Below wo.heap.size wo wr)) (fun _ s33 _ => n - (intOf s33).toNat)
      case atStart => exact ⟨0, Nat.zero_le _, rfl, H.out⟩
      case round =>
        clear H
        obtain ⟨k, hk, rfl, H⟩ := hrel
        by_cases hlt : k < n
        · obtain ⟨vals, hMV⟩ := H.out.1
          obtain ⟨v, hv⟩ : ∃ v, vals[k]? = some v := ⟨_, List.getElem?_eq_getElem (by rw [hMV.1, midS_len]; exact hlt)⟩
          have hr : (midS n es k)[k]? = some (nextsM es k) := by rw [midS_get _ _ hlt, if_neg (by omega)]
          have hrow := hMV.2.2.1 k v _ hv hr
          have hrl := nextsM_len es k
          have HSR := Lib.hid (sort_own hrow (by omega))
          have c1 := hMV.2.1.cell hv
          have HMV := Lib.hid hMV
          have HV := Lib.hid hv
          have HR := Lib.hid hr
          have hag1 : v.ownBlock ≠ some wo.heap.size := fun e => hrow.apart hMV.2.1 (by decide) _ e rfl
          have hown : ∀ g, v.ownBlock = some g → wo.heap.size ≤ g := fun g e => (hrow.lt g e).1
          have k0 : (0 : Int) ≤ (k : Int) := Int.natCast_nonneg _
          have k1 : (k : Int) < (n : Int) := by omega
          clear hMV hv hr hrow
          go_wp2_with fail
          refine HSR.out.mono ?_
          rintro e w3 ⟨rfl, hs1, hs2⟩
          have HM1 := Lib.hid (HMV.out.turn HV.out HR.out hs1 hs2)
          have hB1 : Below wo.heap.size wo w3 := below_grown H.out.2 hs2 H.out.2.size hown
          have HCR := Lib.hid (compact_own hs1 (by rw [(sortN_perm _).length_eq]; omega) (sortN_sorted _) (nextsS_sorted n es k) (fun x => by
            rw [sortN_mem, nextsS_mem, nextsM_mem]
            exact ⟨fun h => h.2, fun h => ⟨by obtain ⟨q, hq⟩ := List.mem_iff_getElem?.1 h; exact (HG.out.ends q _ hq).2, h⟩⟩))
          have c2 := HM1.out.2.1.cell HV.out
          clear c1 hs1 hs2 HSR
          go_wp2_with fail
          refine HCR.out.mono ?_
          rintro e w4 ⟨v', rfl, hc1, hc2, hc3⟩
          obtain ⟨ao2, cp2, rfl⟩ := hc1.shape
          have hr2 : ((midS n es k).set k (sortN (nextsM es k)))[k]? = some (sortN (nextsM es k)) := List.getElem?_set_self (by rw [midS_len]; exact hlt)
          have HM2 := Lib.hid (HM1.out.put HV.out hr2 hc1 hc3 hc2)
          rw [List.set_set, ← midS_step] at HM2
          have hB2 : Below wo.heap.size wo w4 := below_grown hB1 hc3 hB1.size hown
          have c3 := (hc3.cell_far ⟨wo.heap.size, k, none⟩ (by simpa using (HM1.out.2.1.lt _ rfl).2) (Ne.symm hag1)).trans c2
          have f3 := (hc3.frozen_far ⟨wo.heap.size, k, none⟩ (by simpa using (HM1.out.2.1.lt _ rfl).2) (Ne.symm hag1)).trans (HM1.out.2.1.free k)
          clear c2 hc1 hc2 hc3 HCR
          go_wp2
          go_roundw
          case rel => exact ⟨k + 1, by omega, by go_num, ⟨_, HM2.out⟩, hB2.setCell (p := ⟨wo.heap.size, k, none⟩) (Nat.le_refl _) _⟩
          case measure => simp [intOf]; omega
        · obtain rfl : k = n := by omega
          rw [midS_all] at H
          go_wp2
          go_ret
          exact ⟨⟨_, rfl, H.out.1⟩, H.out.2⟩
end
end Go.Proofs.YtamogedpgkofjaaGreat
