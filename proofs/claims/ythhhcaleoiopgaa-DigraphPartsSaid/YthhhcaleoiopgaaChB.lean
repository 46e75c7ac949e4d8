/-
  Directed graphs: Check, its loop.
-/
import Derived.Test.YthhhcaleoiopgaaChk
import Derived.Deep.RegionHeld
namespace Go.Proofs.Ythhhcaleoiopgaa
open Go.RowKit
set_option linter.unusedVariables false
attribute [local go_sem ↓] Go.wp_at_zero Go.wp_at_succ

/-- What the loop keeps: the places. -/
structure CK (W2 : World) (X Y : Nat) (n : Nat) (u : Value) (A : List Int) (wr : World) : Prop where
  low : Below X W2 wr
  box : wr.cell? ⟨Y, 0, none⟩ = some u
  lt : Y < wr.heap.size
  ne : ∀ g, u.ownBlock = some g → g ≠ Y
  own : Own wr X 3 intf u A

set_option maxRecDepth 100000 in
set_option maxHeartbeats 4000000 in
theorem check_main (n : Nat) (v u : Value) (es : List (Nat × Nat)) (q : List Nat) (w : World) (hg : Dg w n v es) (hw : Nats w u q) (hl : q.length = n) (hr : ∀ i ∈ q, i < n) :
    Calls Try.prog 23 #[.int .i64 (n : Int), v, u] w fun e w' => e = .returned (.tuple #[.bool (chkN es q).1, .int .i64 (chkN es q).2]) ∧ Below w.heap.size w w' := by
  have hn60 := hg.n_le
  have HG := Lib.hid hg
  have hb0 := below_new w (.cells #[.int .i64 (n : Int)] 3)
  have HV := Lib.hid (dvalid_any n v (cst es) _ (hg.pairs.below hb0) (by rw [cst_len]; have := hg.m_le; omega))
  rw [hg.ok] at HV
  have HW := Lib.hid hw
  obtain ⟨wo, wcap, rfl, _⟩ := hw
  obtain ⟨eao, ecap, rfl, _⟩ := hg.pairs.open_
  have HL := Lib.hid hl
  have HRG := Lib.hid hr
  have hq : ((q.length : Int) != (n : Int)) = false := bne_no (by omega)
  rw [hl] at hq HW ⊢
  clear hg hr
  go_enter Try.func23, Try.ntmps23
  go_wp2_with fail
  refine HV.out.mono ?_
  rintro e w1 ⟨rfl, hb⟩
  have hB1 := bstep hb0 hb
  have c5 : w1.cell? ⟨w.heap.size, 0, none⟩ = some (.int .i64 (n : Int)) := (hb.cell (p := ⟨w.heap.size, 0, none⟩) (by simp)).trans (by rw [World.cell?_alloc_at _ _ _ _ rfl]; rfl)
  have hs1 := hb.size
  simp at hs1
  have hno : (q.map fun k : Nat => (k : Int)).any (badN n) = false := List.any_eq_false.2 fun x hx => by
    obtain ⟨k, hk, rfl⟩ := List.mem_map.1 hx
    have := HRG.out k hk
    unfold badN
    simp; omega
  have HC : Hid (Calls Try.prog 37 #[.slice wo n wcap, .func (.func 51) #[] #[.pointer (some ⟨w.heap.size, 0, none⟩)]] w1 fun e w' => e = .returned (.bool false) ∧ Below w1.heap.size w1 w') := by
    have := anyInts_any _ _ (badN n) _ _ w1 (Nats.ints (HW.out.below hB1)) (by simp; omega) (badN_pred n w.heap.size (q.map fun k : Nat => (k : Int)) w1 c5 (by omega))
    rw [hno] at this
    exact this
  clear HV
  go_wp2_with fail
  refine HC.out.mono ?_
  rintro e w2 ⟨rfl, hb2⟩
  have hB2 := bstep hB1 hb2
  have hs2 := hb2.size
  have d5 := (hb2.cell (p := ⟨w.heap.size, 0, none⟩) (by show w.heap.size < w1.heap.size; omega)).trans c5
  have d6 := (World.cell?_alloc_lt w2 (.cells #[.int .i64 (-1)] 3) ⟨w.heap.size, 0, none⟩ (by simp; omega)).trans d5
  have HRP := Lib.hid (repeat_all (.slice (some ⟨w2.heap.size, 0, none⟩) 1 1) (-1) n (w2.alloc (.cells #[.int .i64 (-1)] 3)) (sl_lit w2 (fun x : Int => .int .i64 x) [-1] #[.int .i64 (-1)] 3 1 rfl rfl) (by omega))
  clear HC c5
  go_wp2_with fail
  refine HRP.out.mono ?_
  rintro e w3 ⟨⟨u, rfl, hu⟩, hb3⟩
  rw [placeL_zero n q] at hu
  obtain ⟨ao, cap, rfl⟩ := hu.shape
  rw [placeL_len] at hu ⊢
  have hB3 := bstep hB2 ((below_new w2 (.cells #[.int .i64 (-1)] 3)).trans (hb3.mono (by simp)))
  have hs3 := hb3.size
  simp at hs3
  have hus : (w2.alloc (.cells #[.int .i64 (-1)] 3)).heap.size = w2.heap.size + 1 := by simp
  rw [hus] at hu
  have HK0 : Hid (CK w3 (w2.heap.size + 1) w3.heap.size n (.slice ao n cap) (placeL n q 0) (w3.alloc (.cells #[.slice ao n cap] 23))) := by
    refine ⟨(below_new w3 _).mono (by omega), ?_, by simp, fun g hg e => ?_, hu.alloc _⟩
    · rw [World.cell?_alloc_at _ _ _ _ rfl]; rfl
    · have := (hu.lt g hg).2; omega
  clear HRP d5 d6 hb3
  go_wp2_with fail
  obtain ⟨wz, rfl⟩ : ∃ wz : World, wz = w3 := ⟨_, rfl⟩
  go_loopw [9, 10, 30] (fun _ _ s30 wr => ∃ k : Nat, k ≤ n ∧ s30 = .int .i64 (k : Int) ∧ Hid (CK wz (w2.heap.size + 1) wz.heap.size n (.slice ao n cap) (placeL n q k) wr ∧ (q.take k).Nodup)) (fun _ _ s30 _ => n - (intOf s30).toNat)
  case atStart => exact ⟨0, Nat.zero_le _, rfl, HK0.out, by simp⟩
  case round =>
    clear HK0
    obtain ⟨k, hk, rfl, HI⟩ := hrel
    by_cases hlt : k < n
    · obtain ⟨i, hi⟩ : ∃ i, q[k]? = some i := ⟨_, List.getElem?_eq_getElem (by have := HL.out; omega)⟩
      have hin := HRG.out i (List.mem_of_getElem? hi)
      obtain ⟨b3, off3, rfl, hb3, hc3⟩ := nats_get HW.out hi
      have hlow := HI.out.1.low
      obtain ⟨g, gcap, hgv, g1, g2, _⟩ := HI.out.1.own.form (by rw [placeL_len]; omega)
      rw [placeL_len] at hgv
      cases hgv
      have f1 := (hlow.cell (p := ⟨b3, off3 + k, none⟩) (by show b3 < w2.heap.size + 1; have := hB2.size; omega)).trans ((hB3.cell (p := ⟨b3, off3 + k, none⟩) hb3).trans hc3)
      have f2 := HI.out.1.box
      have hz := HI.out.1.own.cell (placeL_get q k hin)
      have hfr := HI.out.1.own.free i
      unfold intf at hz
      have k0 : (0 : Int) ≤ (k : Int) := Int.natCast_nonneg _
      have k1 : (k : Int) < (n : Int) := by omega
      have i0 : (0 : Int) ≤ (i : Int) := Int.natCast_nonneg _
      have i1 : (i : Int) < (n : Int) := by omega
      have HQ := Lib.hid hi
      have hHL := HL.out
      have htk : q.take (k + 1) = q.take k ++ [i] := by rw [List.take_succ_eq_append_getElem (by omega), (List.getElem?_eq_some_iff.1 hi).2]
      have HTK := Lib.hid htk
      clear hi hc3 htk
      by_cases hm : i ∈ q.take k
      · have HR := Lib.hid (show chkN es q = (false, 10) by
          unfold chkN
          rw [if_neg (fun hnd => ?_)]
          have h1 : (q.take (k + 1)).Nodup := hnd.sublist (List.take_sublist _ _)
          rw [HTK.out, List.nodup_append] at h1
          exact h1.2.2 i hm i (by simp) rfl)
        have hp : placeI q k i = (q.idxOf i : Int) := by unfold placeI; rw [if_pos hm]
        rw [hp] at hz
        have p0 : (0 : Int) ≤ (q.idxOf i : Int) := Int.natCast_nonneg _
        have HBW := Lib.hid (show Below w.heap.size w wr from hB3.trans (hlow.mono (by omega)))
        clear hp hm
        go_wp2
        go_ret2
        rw [HR.out]
        exact ⟨rfl, HBW.out⟩
      · have hp : placeI q k i = -1 := by unfold placeI; rw [if_neg hm]
        rw [hp] at hz
        have HST := Lib.hid (placeL_step (n := n) HQ.out hm)
        have HND : Hid ((q.take (k + 1)).Nodup) := by
          show List.Nodup _
          rw [HTK.out, List.nodup_append]
          exact ⟨HI.out.2, by simp, fun x hx y hy e => by rw [List.mem_singleton.1 hy] at e; subst e; exact hm hx⟩
        clear hp hm
        go_wp2
        go_roundw
        case rel =>
          refine ⟨k + 1, by omega, by go_num, ?_, HND.out⟩
          have hc := HI.out.1
          have hne := hc.ne g rfl
          rw [← HST.out]
          refine ⟨hc.low.setCell (p := ⟨g, i, none⟩) g2 _, ?_, by simpa using hc.lt, hc.ne, hc.own.set i (k : Int)⟩
          exact (World.cell?_setCell_far _ ⟨g, i, none⟩ ⟨wz.heap.size, 0, none⟩ _ (by simpa using hne)).trans hc.box
        case measure => simp [intOf]; omega
    · obtain rfl : k = n := by omega
      have hnd : q.Nodup := by
        have := HI.out.2
        rwa [List.take_of_length_le (by have := HL.out; omega)] at this
      have hc := HI.out.1
      have hBw := hB3.trans (hc.low.mono (by omega))
      have HCF : Hid (Calls Try.prog 30 #[.slice eao es.length ecap, .func (.func 53) #[] #[.pointer (some ⟨wz.heap.size, 0, none⟩)]] wr fun e w' => e = .returned (.bool (!(chkN es q).1)) ∧ Below wr.heap.size wr w') := by
        have hp : PairPred 53 #[.pointer (some ⟨wz.heap.size, 0, none⟩)] (fun x => decide ((q.idxOf x.2.toNat : Int) ≤ (q.idxOf x.1.toNat : Int))) (cst es) wr := by
          refine ⟨fun xs W => by rfl, fun x W hx hW => ?_⟩
          unfold cst at hx
          obtain ⟨e, he, rfl⟩ := List.mem_map.1 hx
          have hee := HG.out.ends.mem he
          obtain ⟨g, gcap, hgv, g1, g2, _⟩ := hc.own.form (by rw [placeL_len]; omega)
          rw [placeL_len] at hgv
          cases hgv
          have hin : ∀ i, i < k → placeI q k i = (q.idxOf i : Int) := fun i hi => by
            unfold placeI
            rw [List.take_of_length_le (by have := HL.out; omega), if_pos (nodup_full hnd HRG.out HL.out hi)]
          have ha := hc.own.cell (placeL_get q k hee.1)
          have hb' := hc.own.cell (placeL_get q k hee.2)
          rw [hin _ hee.1] at ha
          rw [hin _ hee.2] at hb'
          exact chkFn_any wz.heap.size g k cap e.1 e.2 _ _ W ((hW.cell (p := ⟨wz.heap.size, 0, none⟩) hc.lt).trans hc.box) ((hW.cell (p := ⟨g, e.1, none⟩) g1).trans ha) ((hW.cell (p := ⟨g, e.2, none⟩) g1).trans hb') (by have := hW.size; have := hc.lt; omega) (by have := hW.size; omega) hee.1 hee.2 (by omega)
        have h1 := anyPairs_any _ _ _ _ (cst es) wr (HG.out.pairs.below hBw) (by rw [cst_len]; have := HG.out.m_le; omega) hp
        have h2 : (cst es).any (fun x => decide ((q.idxOf x.2.toNat : Int) ≤ (q.idxOf x.1.toNat : Int))) = !(chkN es q).1 := by
          unfold chkN
          rw [if_pos hnd]
          unfold cst
          rw [List.any_map, Bool.eq_iff_iff]
          simp
        rw [h2] at h1
        exact h1
      have HBW := Lib.hid hBw
      have HQ2 := Lib.hid (show (chkN es q).2 = 0 by unfold chkN; rw [if_pos hnd])
      clear hnd hc hBw
      go_wp2_with fail
      refine HCF.out.mono ?_
      rintro e w9 ⟨rfl, hb9⟩
      go_wp2
      go_ret2
      rw [HQ2.out]
      exact ⟨by simp, bstep HBW.out hb9⟩
theorem check_any (n : Nat) (v u : Value) (es : List (Nat × Nat)) (l : List Int) (w : World) (hg : Dg w n v es) (hw : Ints w u l) (hlw : l.length ≤ 140737488355328) :
    Calls Try.prog 23 #[.int .i64 (n : Int), v, u] w (CheckPost w n es l) := by
  by_cases h1 : l.length = n
  · by_cases h2 : l.any (badN n) = true
    · exact check_range n v es u l w hg hw h1 h2
    · have hb : ∀ x ∈ l, 0 ≤ x ∧ x < n := fun x hx => by
        have h2' : l.any (badN n) = false := by simpa using h2
        have := List.any_eq_false.1 h2' x hx
        unfold badN at this
        simp at this
        omega
      have e : (l.map Int.toNat).map (fun k : Nat => (k : Int)) = l := by
        rw [List.map_map]
        have e0 : l = l.map id := by simp
        conv => rhs; rw [e0]
        exact List.map_congr_left fun x hx => by have := (hb x hx).1; simp [Function.comp]; omega
      have hN : Nats w u (l.map Int.toNat) := by
        obtain ⟨ao, cap, rfl, h⟩ := hw
        refine ⟨ao, cap, by simp, fun h0 => ?_⟩
        obtain ⟨b, off, rfl, hlt, hc⟩ := h (by simpa using h0)
        refine ⟨b, off, rfl, hlt, fun k x hx => ?_⟩
        rw [List.getElem?_map] at hx
        obtain ⟨y, hy, rfl⟩ := Option.map_eq_some_iff.1 hx
        rw [hc k y hy]
        have := (hb y (List.mem_of_getElem? hy)).1
        simp only
        rw [Int.toNat_of_nonneg this]
      refine (check_main n v u es _ w hg hN (by simpa using h1) (fun i hi => ?_)).mono ?_
      · obtain ⟨x, hx, rfl⟩ := List.mem_map.1 hi
        have := hb x hx
        omega
      · rintro e' w' ⟨rfl, h4⟩
        have hr : chkRes n es l = ((chkN es (l.map Int.toNat)).1, (chkN es (l.map Int.toNat)).2) := by
          unfold chkRes
          rw [if_neg (by omega), if_neg h2]
        exact checkPost_of hr h4
  · obtain ⟨wo, wc, rfl, _⟩ := hw
    exact check_size n v es wo wc l w hg hlw h1
end Go.Proofs.Ythhhcaleoiopgaa
