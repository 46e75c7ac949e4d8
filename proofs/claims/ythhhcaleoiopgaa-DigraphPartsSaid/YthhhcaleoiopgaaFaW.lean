/-
  Directed graphs: far, walked.
-/
import Derived.Test.YthhhcaleoiopgaaFaP
import Derived.Test.YthhhcaleoiopgaaNxt
import Derived.Deep.RegionHeld3
import Derived.BigRegion
namespace Go.Proofs.Ythhhcaleoiopgaa
open Go.RowKit
set_option linter.unusedVariables false
attribute [local go_sem ↓] Go.wp_at_zero Go.wp_at_succ

def FarPost (w : World) (n : Nat) (es : List (Nat × Nat)) (b : Nat) (e : Ending) (w' : World) : Prop :=
  (∃ v A, e = .returned v ∧ Own w' w.heap.size 3 intf v A ∧ A.length = n ∧ IsFar es b (ofList A) ∧ ∀ k, ofList A k ≤ n) ∧ Below w.heap.size w w'

theorem nxS_getD {n : Nat} {es : List (Nat × Nat)} {i : Nat} (hi : i < n) : (nxS n es).getD i [] = nextsS n es i := by
  rw [List.getD_eq_getElem?_getD, nxS_get es hi]; rfl
theorem nxS_len2 {n : Nat} {es : List (Nat × Nat)} : ∀ r ∈ nxS n es, r.length ≤ n := by
  intro r hr
  unfold nxS at hr
  obtain ⟨i, _, rfl⟩ := List.mem_map.1 hr
  exact nextsS_len n es i
theorem flip_row {n : Nat} {es : List (Nat × Nat)} (he : EndsD n es) {h : Nat} (hh : h < n) (i : Nat) : i ∈ nextsM (flipTo (nxS n es) n) h ↔ (i, h) ∈ es := by
  rw [nextsM_mem, flipTo_mem]
  constructor
  · rintro ⟨h1, h2⟩
    rw [nxS_getD h1, nextsS_mem] at h2
    exact h2.2
  · intro h1
    have : i < n := by obtain ⟨q, hq⟩ := List.mem_iff_getElem?.1 h1; exact (he q _ hq).1
    exact ⟨this, by rw [nxS_getD this, nextsS_mem]; exact ⟨hh, h1⟩⟩

set_option maxRecDepth 100000 in
set_option maxHeartbeats 4000000 in
theorem far_any (n b : Nat) (V : Value) (es : List (Nat × Nat)) (w : World) (hn : n ≤ 60) (he : EndsD n es) (hb : b < n) (hr : Rows w V (nxS n es)) :
    Calls Try.prog 56 #[V, .int .i64 (b : Int)] w (FarPost w n es b) := by
  obtain ⟨ao, cap, rfl⟩ := hr.at
  have hln := nxS_len n es
  obtain ⟨N, hN⟩ : ∃ N, (nxS n es).length = N := ⟨_, rfl⟩
  rw [hN] at hln ⊢
  have HR := Lib.hid hr
  rw [hN] at HR
  clear hr
  subst hln
  obtain ⟨rows, hrows⟩ : ∃ rows, nxS N es = rows := ⟨_, rfl⟩
  have HROWS := Lib.hid hrows
  have HE := Lib.hid he
  rw [hrows] at HR hN
  have hfl : ∀ m, m ≤ N → (flipTo rows m).length ≤ 3600 := fun m hm => by
    have h1 := flipTo_len (rows := rows) (n := N) (by rw [← hrows]; exact nxS_len2) m
    have h2 : m * N ≤ 60 * 60 := Nat.mul_le_mul (by omega) hn
    omega
  have HFL := Lib.hid hfl
  have hrl : ∀ r ∈ rows, r.length ≤ N ∧ ∀ k ∈ r, k < N := by
    intro r hr
    rw [← hrows] at hr
    refine ⟨nxS_len2 r hr, ?_⟩
    unfold nxS at hr
    obtain ⟨i, _, rfl⟩ := List.mem_map.1 hr
    exact fun k hk => (nextsS_mem.1 hk).1
  have HRL := Lib.hid hrl
  have HRN := Lib.hid hN
  clear he hrows hfl hrl hN
  have hmk2 := fun W => run_make_one (P := Try.prog) 48 23 24 (.slice none 0 0) Try.underlying48 (by kernel_rfl) (by omega) N (by omega) W
  have HM0 := Lib.hid (Mat.new (own_made w 23 rowf (.slice none 0 0) (.slice none 0 0) rfl N (by omega) w.heap.size (Nat.le_refl _)))
  have hB0 := below_new w (.cells (madeCells (Value.slice none 0 0).cells N) 23)
  go_enter Try.func56, Try.ntmps56
  go_wp2_with fail
  go_loopw [6, 7, 9, 19] (fun _ _ _ s19 wr => ∃ i : Nat, i ≤ N ∧ s19 = .int .i64 (i : Int) ∧ Hid (Mat wr w.heap.size (.slice (some ⟨w.heap.size, 0, none⟩) N N) (nxRows N (flipTo rows i)) ∧ Below w.heap.size w wr)) (fun _ _ _ s19 _ => N - (intOf s19).toNat)
  case atStart => exact ⟨0, Nat.zero_le _, rfl, by rw [flipTo, nxRows_nil]; exact HM0.out, hB0⟩
  case round =>
    obtain ⟨i, hi, rfl, H⟩ := hrel
    clear HM0 hB0
    by_cases hlt : i < N
    · obtain ⟨r, hr⟩ : ∃ r, rows[i]? = some r := ⟨_, List.getElem?_eq_getElem (by have := HRN.out; omega)⟩
      obtain ⟨rb, roff, rfl, hrlt, ro, rc, c0, hnr⟩ := rows_get HR.out hr
      have c1 := (H.out.2.cell (p := ⟨rb, roff + i, none⟩) hrlt).trans c0
      have hro := HRL.out r (List.mem_of_getElem? hr)
      have HF1 := Lib.hid (show flipTo rows (i + 1) = flipTo rows i ++ r.map fun k => (k, i) by rw [flipTo, List.getD_eq_getElem?_getD, hr]; rfl)
      have HNR := Lib.hid hnr
      obtain ⟨hrlen, hrk⟩ := hro
      have HRK := Lib.hid hrk
      obtain ⟨wo, rfl⟩ : ∃ wo : World, wo = wr := ⟨_, rfl⟩
      clear hr hnr hrk c0
      go_wp2_with fail
      clear c1
      go_loopw [9, 26] (fun _ s26 wr => ∃ t : Nat, t ≤ r.length ∧ s26 = .int .i64 (t : Int) ∧ Hid (Mat wr w.heap.size (.slice (some ⟨w.heap.size, 0, none⟩) N N) (nxRows N (flipTo rows i ++ (r.take t).map fun k => (k, i))) ∧ Below w.heap.size w wr)) (fun _ s26 _ => r.length - (intOf s26).toNat)
      case atStart => exact ⟨0, Nat.zero_le _, rfl, by rw [List.take_zero, List.map_nil, List.append_nil]; exact H.out.1, H.out.2⟩
      case round =>
        clear H
        obtain ⟨t, ht, rfl, H⟩ := hrel
        by_cases htl : t < r.length
        · obtain ⟨k, hk⟩ : ∃ k, r[t]? = some k := ⟨_, List.getElem?_eq_getElem htl⟩
          have hkN := HRK.out k (List.mem_of_getElem? hk)
          obtain ⟨b3, off3, rfl, hb3, hc3⟩ := nats_get HNR.out hk
          have c2 := (H.out.2.cell (p := ⟨b3, off3 + t, none⟩) hb3).trans hc3
          have HT := Lib.hid (show nxRows N (flipTo rows i ++ (r.take (t + 1)).map fun k => (k, i)) = addAt (nxRows N (flipTo rows i ++ (r.take t).map fun k => (k, i))) k i by
            rw [List.take_succ_eq_append_getElem htl, (List.getElem?_eq_some_iff.1 hk).2, List.map_append, ← List.append_assoc]
            exact nxRows_snoc _ k i hkN)
          obtain ⟨ps, hps⟩ : ∃ ps, flipTo rows i ++ (r.take t).map (fun k => (k, i)) = ps := ⟨_, rfl⟩
          have hpl : ps.length ≤ 10000 := by
            rw [← hps, List.length_append, List.length_map, List.length_take]
            have := HFL.out i hi
            omega
          rw [hps] at H HT
          obtain ⟨vals, hMV⟩ := H.out.1
          obtain ⟨v, hv⟩ : ∃ v, vals[k]? = some v := ⟨_, List.getElem?_eq_getElem (by rw [hMV.1, nxRows_len]; exact hkN)⟩
          have hr1 := nxRows_get ps hkN
          have hrow := hMV.2.2.1 k v _ hv hr1
          have c3 := hMV.2.1.cell hv
          have f3 := hMV.2.1.free k
          have hgl := (hMV.2.1.lt _ rfl).2
          have hag1 : v.ownBlock ≠ some w.heap.size := fun e => hrow.apart hMV.2.1 (by decide) _ e rfl
          have hrl1 := nextsM_len ps k
          obtain ⟨rr, hrr⟩ : ∃ rr, nextsM ps k = rr := ⟨_, rfl⟩
          rw [hrr] at hrow hrl1 hr1
          have HROW := Lib.hid hrow
          have HMV := Lib.hid hMV
          have HV := Lib.hid hv
          have HR1 := Lib.hid hr1
          have HB := Lib.hid H.out.2
          have hbase := H.out.2.size
          have k0 : (0 : Int) ≤ (k : Int) := Int.natCast_nonneg _
          have k1 : (k : Int) < (N : Int) := by omega
          have hlen1 : rr.length + 1 ≤ 1099511627776 := by omega
          have hown : ∀ g, v.ownBlock = some g → w.heap.size ≤ g := fun g e => (hrow.lt g e).1
          clear hk hps hMV hv hr1 hrow H hc3 hrr
          go_wp2_with (at_builtin; refine wpList_push wr rfl _ _ 23 rfl 3 8 elemInt w.heap.size natf v rr i rfl HROW.out rfl rfl hlen1 (by omega) hbase ?_; intro v' w' hown' hg' hat'; obtain ⟨ao2, cp2, rfl⟩ := hown'.shape; have c4 := (hg'.cell_far ⟨w.heap.size, k, none⟩ (by simpa using hgl) (Ne.symm hag1)).trans c3; have f4 := (hg'.frozen_far ⟨w.heap.size, k, none⟩ (by simpa using hgl) (Ne.symm hag1)).trans f3)
          go_roundw
          case rel => exact ⟨t + 1, by omega, by go_num, by rw [HT.out, addAt_get HR1.out]; rw [List.length_append, List.length_singleton] at hown' hat'; exact ⟨HMV.out.pushAt HV.out HR1.out hown' hg' hat', (below_grown HB.out hg' hbase hown).setCell (p := ⟨w.heap.size, k, none⟩) (Nat.le_refl _) _⟩⟩
          case measure => simp [intOf]; omega
        · obtain rfl : t = r.length := by omega
          rw [List.take_length, ← HF1.out] at H
          go_wp2
          go_roundw
          case rel => exact ⟨i + 1, by omega, by go_num, H.out⟩
          case measure => simp [intOf]; omega
    · obtain rfl : N = i := by omega
      have HM := Lib.hid H.out.1
      have hB := H.out.2
      have hNX : Hid (∀ h, h < N → ∀ i, i ∈ nextsM (flipTo rows N) h ↔ (i, h) ∈ es) := fun h hh i => by
        rw [← HROWS.out]; exact flip_row HE.out hh i
      have hNL : Hid (∀ h, (nextsM (flipTo rows N) h).length ≤ 3600) := fun h => Nat.le_trans (nextsM_len _ h) (HFL.out N (Nat.le_refl _))
      obtain ⟨w2, rfl⟩ : ∃ w2 : World, w2 = wr := ⟨_, rfl⟩
      clear H
      have hi1 : Ints (w2.alloc (.cells #[.int .i64 (-1)] 3)) (.slice (some ⟨w2.heap.size, 0, none⟩) 1 1) [-1] := by
        refine ⟨_, 1, rfl, fun _ => ⟨_, _, rfl, by simp, fun k x hk => ?_⟩⟩
        match k, hk with
        | 0, hk => cases hk; rw [World.cell?_alloc_at _ _ _ _ rfl]; rfl
      go_wp2_with fail
      refine (repeat_any _ (-1) N _ hi1 (by omega) (by omega)).mono ?_
      rintro e w1 ⟨⟨u, rfl, hown⟩, hB1⟩
      obtain ⟨GA, capA, rfl, hg1, hg2, hg3⟩ := hown.form (by simp; omega)
      rw [List.length_replicate]
      have hB2 := below_new w2 (.cells #[.int .i64 (-1)] 3)
      have hB3 := bstep hB2 hB1
      have hsz1 : w2.heap.size < w1.heap.size := by have := hB1.size; simp at this; omega
      rw [List.length_replicate] at hown
      have c1 := hown.cell (k := b) (x := -1) (by simp [hb])
      have f1 := hown.free b
      have HOWN := Lib.hid (hown.mono (base' := w2.heap.size) (by simp))
      clear hown hi1 hB1
      unfold intf at c1
      have b0 : (0 : Int) ≤ (b : Int) := Int.natCast_nonneg _
      have b1 : (b : Int) < (N : Int) := by omega
      go_wp2_with fail
      have hq0 : BQ w2 GA capA N ((w1.setCell ⟨GA, b, none⟩ (.int .i64 0)).alloc (.cells #[.int .i64 (b : Int)] 3)) w1.heap.size 0 1 [b] ((List.replicate N (-1)).set b 0) := by
        have hb0 : w2.heap.size ≤ (w1.setCell ⟨GA, b, none⟩ (.int .i64 0)).heap.size := by simp; omega
        have q := Que.of_one (e := 3) (w1.setCell ⟨GA, b, none⟩ (.int .i64 0)) natf b hb0
        have hss : (w1.setCell ⟨GA, b, none⟩ (.int .i64 0)).heap.size = w1.heap.size := by simp
        rw [hss] at q
        refine ⟨q, (HOWN.out.set b 0).alloc _, by simp, by omega, fun v hv => by rw [List.mem_singleton.1 hv]; exact hb, fun v => ?_, ?_⟩
        · have hng := neg_set (List.replicate N (-1)) b (-1) 0 (by simp [hb]) (by omega) (by omega)
          rw [neg_rep] at hng
          rw [ofList_set (by simpa using hb), ofList_rep]
          unfold upd
          split
          · omega
          · show (-1 : Int) + _ ≤ _
            omega
        · exact (hB3.setCell (by have := (HOWN.out.lt GA rfl).1; simpa using this) _).alloc hb0 _
      have hn0 : 2 * neg ((List.replicate N (-1)).set b 0) + 1 ≤ 2 * N + 1 := by
        have hng := neg_set (List.replicate N (-1)) b (-1) 0 (by simp [hb]) (by omega) (by omega)
        rw [neg_rep] at hng
        omega
      have hbf0 : Bfd es b (ofList ((List.replicate N (-1)).set b 0)) [b] := by
        rw [ofList_set (by simpa using hb), ofList_rep]; exact Bfd.start es b
      clear HOWN c1 f1 hB2 hB3 hg1 hg2 hg3
      go_loopg [11, 13] (2 * N + 1) (fun gk q _ wr => ∃ g off cp ql A, q = .slice (some ⟨g, off, none⟩) ql.length cp ∧ Hid (BQ w2 GA capA N wr g off cp ql A ∧ Bfd es b (ofList A) ql) ∧ 2 * neg A + ql.length ≤ gk ∧ gk ≤ 2 * N + 1)
      case atStart => exact ⟨_, _, _, [b], _, rfl, ⟨hq0, hbf0⟩, hn0, Nat.le_refl _⟩
      case round =>
        obtain ⟨g, off, cp, ql, A, rfl, H, hgk, hgn⟩ := hrel
        clear hq0 hn0 hbf0
        cases ql with
        | nil =>
          obtain ⟨hbq, hbf⟩ := H.out
          have HD := Lib.hid hbf.finish
          have HBQ := Lib.hid hbq
          clear H hbq hbf
          go_wp2
          go_ret
          exact ⟨⟨_, A, rfl, HBQ.out.own.mono hB.size, HBQ.out.len, HD.out, fun k => by have := HBQ.out.bd k; omega⟩, bstep hB HBQ.out.below⟩
        | cons h t =>
          have hhn : h < N := H.out.1.low h (by simp)
          have hq := H.out.1.que.cell (k := 0) (x := h) rfl
          obtain ⟨ro, rc, c1, hnr⟩ : ∃ ro rc, wr.cell? ⟨w.heap.size, h, none⟩ = some (.slice ro (nextsM (flipTo rows N) h).length rc) ∧ Nats w2 (.slice ro (nextsM (flipTo rows N) h).length rc) (nextsM (flipTo rows N) h) := by
            obtain ⟨rb, roff, e1, hrlt, ro, rc, c0, hnr⟩ := rows_get HM.out.rows (nxRows_get (flipTo rows N) hhn)
            cases e1
            rw [Nat.zero_add] at c0
            exact ⟨ro, rc, (H.out.1.below.cell (p := ⟨w.heap.size, h, none⟩) hrlt).trans c0, hnr⟩
          have HRR := Lib.hid (hNX.out h hhn)
          have hrl := hNL.out h
          obtain ⟨r, hr⟩ : ∃ r, nextsM (flipTo rows N) h = r := ⟨_, rfl⟩
          rw [hr] at HRR c1 hnr hrl
          have HNR := Lib.hid hnr
          have HG := Lib.hid hgk
          have h0 : (0 : Int) ≤ (h : Int) := Int.natCast_nonneg _
          have h1 : (h : Int) < (N : Int) := by omega
          unfold natf at hq
          rw [Nat.add_zero] at hq
          clear hr hnr hgk
          go_wp2
          clear hq c1
          go_loopw [11, 13, 63] (fun s11 _ s63 wr2 => ∃ (j : Nat) (g off cp : Nat) (t' : List Nat) (A' : List Int), s63 = .int .i64 j ∧ j ≤ r.length ∧ s11 = .slice (some ⟨g, off, none⟩) (t'.length + 1) cp ∧
              Hid (BQ w2 GA capA N wr2 g off cp (h :: t') A' ∧ Bfe es b (ofList A') h t' (r.take j) ∧ 2 * neg A' + t'.length + 1 ≤ gk)) (fun _ _ s63 _ => r.length - (intOf s63).toNat)
          case atStart => exact ⟨0, g, off, cp, t, A, rfl, Nat.zero_le _, rfl, H.out.1, Bfe.start H.out.2, by have := HG.out; simp only [List.length_cons] at this; omega⟩
          case round =>
            clear H HG
            obtain ⟨j, g, off, cp, t', A', rfl, hj, rfl, H⟩ := hrel
            by_cases hjl : j < r.length
            · obtain ⟨k, hi⟩ : ∃ i, r[j]? = some i := ⟨_, List.getElem?_eq_getElem hjl⟩
              obtain ⟨b3, off3, rfl, hb3, hc3⟩ := nats_get HNR.out hi
              have hci := (H.out.1.below.cell (p := ⟨b3, off3 + j, none⟩) hb3).trans hc3
              have hui := (HRR.out k).1 (List.mem_of_getElem? hi)
              have hkl : k < N := by obtain ⟨q, hq⟩ := List.mem_iff_getElem?.1 hui; exact (HE.out q _ hq).1
              have HUI := Lib.hid hui
              have HTK := Lib.hid (show r.take (j + 1) = r.take j ++ [k] by
                rw [List.take_succ_eq_append_getElem hjl, (List.getElem?_eq_some_iff.1 hi).2])
              have k0 : (0 : Int) ≤ (k : Int) := Int.natCast_nonneg _
              have k1 : (k : Int) < (N : Int) := by omega
              have HQ9 := Lib.hid H.out.1
              obtain ⟨zk, hzk⟩ : ∃ z, A'[k]? = some z := ⟨_, List.getElem?_eq_getElem (by rw [HQ9.out.len]; exact hkl)⟩
              obtain ⟨zh, hzh⟩ : ∃ z, A'[h]? = some z := ⟨_, List.getElem?_eq_getElem (by rw [HQ9.out.len]; exact hhn)⟩
              have ck := HQ9.out.own.cell hzk
              have ch := HQ9.out.own.cell hzh
              have fk := HQ9.out.own.free k
              have hq9 := HQ9.out.que.cell (k := 0) (x := h) rfl
              have bh1 := H.out.2.1.all.seen h (by simp)
              have bh2 := HQ9.out.bd h
              rw [ofList_get hzh] at bh1 bh2
              have bzh : 0 ≤ zh ∧ zh ≤ 60 := by omega
              have HZK := Lib.hid hzk
              have HZH := Lib.hid hzh
              have HB2 := Lib.hid bh2
              have HJ := Lib.hid H.out.2
              unfold intf at ck ch
              unfold natf at hq9
              rw [Nat.add_zero] at hq9
              have hw1 : IntKind.i64.wrap (zh + 1) = zh + 1 := IntWalk.i64_in _ (by omega)
              clear hi hc3 hui hzk hzh bh1 bh2 H
              by_cases hz : zk < 0
              · have HZ := Lib.hid hz
                have hnegA := neg_set A' k zk (zh + 1) HZK.out hz (by omega)
                have HNG := Lib.hid hnegA
                have hlen1 : (h :: t').length + 1 ≤ 1099511627776 := by
                  have := HJ.out.2
                  simp only [List.length_cons]
                  omega
                have hbase := HQ9.out.below.size
                have hqs : Que (wr.setCell ⟨GA, k, none⟩ (.int .i64 (zh + 1))) w2.heap.size 3 natf g off cp (h :: t') := HQ9.out.que.only (only_set wr GA k (.int .i64 (zh + 1))) (by
                  intro e
                  injection e with e
                  exact HQ9.out.ne e)
                have HQS := Lib.hid hqs
                clear hnegA hqs
                go_wp2_with (at_builtin; refine wpList_pushQ (wr.setCell ⟨GA, k, none⟩ (.int .i64 (zh + 1))) rfl _ _ 23 rfl 3 8 elemInt w2.heap.size natf g off cp (h :: t') k (fun _ => rfl) HQS.out rfl wr.heap.size (by simp) rfl hlen1 (by omega) (by simpa using hbase) ?_; intro g' off' cap' w' hq' hg' hat')
                go_roundw
                case rel =>
                  have hA := HJ.out.1
                  have hn1 : ofList A' k < 0 := by rw [ofList_get HZK.out]; exact HZ.out
                  have hnew := Bfe.new hA HUI.out hn1
                  rw [ofList_get HZH.out, ← ofList_set (A := A') (by rw [HQ9.out.len]; exact hkl), ← HTK.out] at hnew
                  have hfin : Hid (BQ w2 GA capA N w' g' off' cap' (h :: (t' ++ [k])) (A'.set k (zh + 1)) ∧ Bfe es b (ofList (A'.set k (zh + 1))) h (t' ++ [k]) (r.take (j + 1)) ∧ 2 * neg (A'.set k (zh + 1)) + (t' ++ [k]).length + 1 ≤ gk) := by
                    refine ⟨BQ.push HQ9.out HZK.out HZ.out (by omega) (by have := HB2.out; omega) hq' hg' hat', hnew, ?_⟩
                    have h1 := HNG.out
                    have h2 := HJ.out.2
                    simp only [List.length_append, List.length_singleton]
                    omega
                  (repeat apply Exists.intro)
                  exact ⟨⟨j + 1, g', off', cap', t' ++ [k], A'.set k (zh + 1), by go_num, by omega, by simp, hfin⟩, rfl⟩
                case measure => simp [intOf]; omega
              · go_wp2
                go_roundw
                case rel =>
                  have hold := Bfe.old HJ.out.1 (i := k) (by rw [ofList_get HZK.out]; omega)
                  rw [← HTK.out] at hold
                  exact ⟨j + 1, g, off, cp, t', A', by go_num, by omega, rfl, HQ9.out, hold, HJ.out.2⟩
                case measure => simp [intOf]; omega
            · have hjr : j = r.length := by omega
              have hcp := H.out.1.que.len.1
              simp only [List.length_cons] at hcp
              have HN : Hid (Bfd es b (ofList A') t') := by
                refine Bfe.next H.out.2.1 (fun i h1 => ?_)
                rw [List.take_of_length_le (by omega)]
                exact (HRR.out i).2 h1
              have HMM := Lib.hid H.out.2.2
              have HBQ := Lib.hid H.out.1
              clear H
              by_cases hc1 : cp = 1
              · subst hc1
                have ht0 : t'.length = 0 := by omega
                have HT0 := Lib.hid ht0
                clear ht0 hcp
                go_wp2
                go_roundg (gk - 1)
                case measure => have := HMM.out; omega
                case rel => exact ⟨g, off, 0, t', A', rfl, ⟨HBQ.out.last, HN.out⟩, by have := HMM.out; omega, by omega⟩
              · go_wp2
                go_roundg (gk - 1)
                case measure => have := HMM.out; omega
                case rel => exact ⟨g, off + 1, cp - 1, t', A', rfl, ⟨HBQ.out.tail, HN.out⟩, by have := HMM.out; omega, by omega⟩
end Go.Proofs.Ythhhcaleoiopgaa
