/-
  Reference 08: Parts; law DigraphParts: the walk.
-/
import Derived.Test.YthhhcaleoiopgaaRdG
import Derived.Test.YthhhcaleoiopgaaRcD
import Derived.Test.YthhhcaleoiopgaaReM
import Derived.StillTailTactics
import Derived.Test.YthhhcaleoiopgaaRdE
import Derived.Test.YthhhcaleoiopgaaQun
import Derived.Test.YthhhcaleoiopgaaDl0
namespace Go.Proofs.Ythhhcaleoiopgaa
open Go.RowKit
set_option linter.unusedVariables false
attribute [local go_sem ↓] Go.wp_at_zero Go.wp_at_succ

structure BR (w : World) (n : Nat) (es : List (Nat × Nat)) (i : Nat) (vals : List Value) (wr : World) : Prop where
  low : Below w.heap.size w wr
  len : vals.length = n
  own : Own wr w.heap.size 54 rowf (.slice (some ⟨w.heap.size, 0, none⟩) n n) vals
  rows : ∀ (j : Nat) u, j < i → vals[j]? = some u → Own wr (w.heap.size + 1) 4 boolf u (fl n (reaB es j))
theorem BR.below {w wr w1 : World} {n i : Nat} {es : List (Nat × Nat)} {vals : List Value} (h : BR w n es i vals wr) (hb : Below wr.heap.size wr w1) : BR w n es i vals w1 :=
  ⟨h.low.trans (hb.mono h.low.size), h.len, h.own.below hb, fun j u hj hu => (h.rows j u hj hu).below hb⟩
/-- A row newly made is put in. -/
theorem BR.put {w wr : World} {n i : Nat} {es : List (Nat × Nat)} {vals : List Value} (h : BR w n es i vals wr) (hi : i < n) (R : Nat) : BR w n es i (vals.set i (.slice (some ⟨R, 0, none⟩) n n)) (wr.setCell ⟨w.heap.size, i, none⟩ (.slice (some ⟨R, 0, none⟩) n n)) := by
  refine ⟨h.low.setCell (p := ⟨w.heap.size, i, none⟩) (Nat.le_refl _) _, by rw [List.length_set]; exact h.len, h.own.set i _, fun j u hj hu => ?_⟩
  rw [List.getElem?_set_ne (by omega)] at hu
  have ho := h.rows j u hj hu
  exact ho.only (only_set wr w.heap.size i _) (fun g e e2 => by
    have h1 := (ho.lt g e).1
    have h2 : g = w.heap.size := Option.some.inj e2
    omega)
/-- A turn within a block that is no row's of before. -/
theorem BR.turn {w wr : World} {n i R : Nat} {es : List (Nat × Nat)} {vals : List Value} (h : BR w n es i vals wr) (hR : w.heap.size < R) (hne : ∀ (j : Nat) u g, j < i → vals[j]? = some u → u.ownBlock = some g → g < R) (k : Nat) (x : Value) : BR w n es i vals (wr.setCell ⟨R, k, none⟩ x) := by
  refine ⟨h.low.setCell (p := ⟨R, k, none⟩) (by show w.heap.size ≤ R; omega) _, h.len, h.own.only (only_set wr R k x) (fun g e e2 => ?_), fun j u hj hu => ?_⟩
  · have h1 : w.heap.size = g := Option.some.inj e
    have h2 : g = R := Option.some.inj e2
    omega
  · have ho := h.rows j u hj hu
    exact ho.only (only_set wr R k x) (fun g e e2 => by
      have h1 := hne j u g hj hu e
      have h2 : g = R := Option.some.inj e2
      omega)

def RPartsPost (w : World) (n : Nat) (es : List (Nat × Nat)) (e : Ending) (w' : World) : Prop :=
  ∃ v, e = .returned v ∧ Mat w' w.heap.size v (partsOf n es) ∧ Below w.heap.size w w'

set_option maxRecDepth 100000 in
set_option maxHeartbeats 4000000 in
theorem rparts_any (n : Nat) (v : Value) (es : List (Nat × Nat)) (w : World) (hg : Dg w n v es) :
    Calls Try.prog 40 #[.int .i64 (n : Int), v] w (RPartsPost w n es) := by
  have hn60 := hg.n_le
  have HG := Lib.hid hg
  have hmk := fun W => run_make_one (P := Try.prog) 54 4 1 (.bool false) Try.underlying54 (by kernel_rfl) (by omega) n (by omega) W
  have hmk2 := fun W => run_make_one (P := Try.prog) 74 54 24 (.slice none 0 0) Try.underlying74 (by kernel_rfl) (by omega) n (by omega) W
  have HB0 : Hid (BR w n es 0 (List.replicate n (.slice none 0 0)) (w.alloc (.cells (madeCells (Value.slice none 0 0).cells n) 54))) := by
    refine ⟨below_new _ _, by simp, ?_, fun j u hj => by omega⟩
    exact own_made w 54 rowf (.slice none 0 0) (.slice none 0 0) rfl n (by omega) w.heap.size (Nat.le_refl _)
  clear hg
  go_enter Try.func40, Try.ntmps40
  go_wp2_with fail
  go_loopw [6, 7, 8] (fun s6 _ _ wr => ∃ (t : Nat) (vals : List Value), t ≤ n ∧ s6 = .int .i64 (t : Int) ∧ Hid (BR w n es t vals wr)) (fun s6 _ _ _ => n - (intOf s6).toNat)
  case atStart => exact ⟨0, _, Nat.zero_le _, rfl, HB0.out⟩
  case round =>
    clear HB0
    obtain ⟨t, vals, ht, rfl, H⟩ := hrel
    by_cases htn : t < n
    · obtain ⟨wo, rfl⟩ : ∃ wo : World, wo = wr := ⟨_, rfl⟩
      obtain ⟨u0, hu0⟩ : ∃ u, vals[t]? = some u := ⟨_, List.getElem?_eq_getElem (by have := H.out.len; omega)⟩
      obtain ⟨W1, hW1⟩ : ∃ W1, wo.alloc (.cells (madeCells #[Value.bool false] n) 4) = W1 := ⟨_, rfl⟩
      have HB1 : Hid (BR w n es t vals W1) := by rw [← hW1]; exact H.out.below (below_new _ _)
      have HO1 : Hid (Own W1 wo.heap.size 4 boolf (.slice (some ⟨wo.heap.size, 0, none⟩) n n) (List.replicate n false)) := by
        rw [← hW1]; exact own_made wo 4 boolf false (.bool false) rfl n (by omega) wo.heap.size (Nat.le_refl _)
      have hwg : w.heap.size < wo.heap.size := (H.out.own.lt w.heap.size rfl).2
      have HOLD : Hid (∀ (j : Nat) u g, j < t → vals[j]? = some u → u.ownBlock = some g → g < wo.heap.size) := fun j u g hj hu hg => ((H.out.rows j u hj hu).lt g hg).2
      have c1 := HB1.out.own.cell hu0
      have c2 := HB1.out.own.free t
      have hgl1 := (HB1.out.own.lt w.heap.size rfl).2
      obtain ⟨W2, hW2⟩ : ∃ W2, W1.setCell ⟨w.heap.size, t, none⟩ (.slice (some ⟨wo.heap.size, 0, none⟩) n n) = W2 := ⟨_, rfl⟩
      have HB2 := Lib.hid (HB1.out.put htn wo.heap.size)
      have HO2 := Lib.hid (HO1.out.only (only_set W1 w.heap.size t (.slice (some ⟨wo.heap.size, 0, none⟩) n n)) (fun g e e2 => by
        have h1 : wo.heap.size = g := Option.some.inj e
        have h2 : g = w.heap.size := Option.some.inj e2
        omega))
      rw [hW2] at HB2 HO2
      have HRC := Lib.hid (rreach_any n t v es W2 (HG.out.below HB2.out.low) htn)
      have t0 : (0 : Int) ≤ (t : Int) := Int.natCast_nonneg _
      have t1 : (t : Int) < (n : Int) := by omega
      unfold rowf at c1
      have hvl := H.out.len
      clear hu0
      go_wp2_with fail
      refine HRC.out.mono ?_
      rintro e w3 ⟨l, rfl, hl, hb3⟩
      have HB3 := Lib.hid (HB2.out.below hb3)
      have HO3 := Lib.hid (HO2.out.below hb3)
      have HL3 := Lib.hid hl
      have hW2s : W2.heap.size = wo.heap.size + 1 := by rw [← hW2, ← hW1]; simp
      obtain ⟨lo, lc, rfl⟩ := hl.shape
      have hll := rlist_len n es t
      clear c1 c2 hl hb3 HRC hW1 hW2
      go_wp2_with fail
      obtain ⟨wz, rfl⟩ : ∃ wz : World, wz = w3 := ⟨_, rfl⟩
      go_loopw [8] (fun s8 wr => ∃ k : Nat, k ≤ (rlist n es t).length ∧ s8 = .int .i64 (k : Int) ∧ Hid (BR w n es t (vals.set t (.slice (some ⟨wo.heap.size, 0, none⟩) n n)) wr ∧ Own wr wo.heap.size 4 boolf (.slice (some ⟨wo.heap.size, 0, none⟩) n n) (fl n (fun q => decide (q ∈ (rlist n es t).take k))) ∧ Own wr (wo.heap.size + 1) 3 natf (.slice lo (rlist n es t).length lc) (rlist n es t))) (fun s8 _ => (rlist n es t).length - (intOf s8).toNat)
      case atStart =>
        refine ⟨0, Nat.zero_le _, rfl, HB3.out, ?_, by rw [← hW2s]; exact HL3.out⟩
        have := HO3.out
        rw [fl_const, fl_ext (g := fun q => decide (q ∈ (rlist n es t).take 0)) (fun k hk => by simp)] at this
        exact this
      case round =>
        obtain ⟨k, hk, rfl, HI⟩ := hrel
        by_cases hkl : k < (rlist n es t).length
        · obtain ⟨q, hq⟩ : ∃ q, (rlist n es t)[k]? = some q := ⟨_, List.getElem?_eq_getElem hkl⟩
          have hqn : q < n := (rlist_mem.1 (List.mem_of_getElem? hq)).1
          obtain ⟨lb, lcap, hlv, lb1, lb2, _⟩ := HI.out.2.2.form (by omega)
          cases hlv
          have e1 := HI.out.1.own.cell (List.getElem?_set_self (by omega : t < vals.length))
          unfold rowf at e1
          have e2 := HI.out.2.2.cell hq
          unfold natf at e2
          have e3 := HI.out.2.1.free q
          obtain ⟨z4, e4⟩ : ∃ z, wr.cell? ⟨wo.heap.size, q, none⟩ = some z := ⟨_, HI.out.2.1.cell (fl_get _ hqn)⟩
          have hgr := (HI.out.2.1.lt wo.heap.size rfl).2
          have hgw := (HI.out.1.own.lt w.heap.size rfl).2
          have HST : Hid (BR w n es t (vals.set t (.slice (some ⟨wo.heap.size, 0, none⟩) n n)) (wr.drew.setCell ⟨wo.heap.size, q, none⟩ (.bool true)) ∧ Own (wr.drew.setCell ⟨wo.heap.size, q, none⟩ (.bool true)) wo.heap.size 4 boolf (.slice (some ⟨wo.heap.size, 0, none⟩) n n) (fl n (fun x => decide (x ∈ (rlist n es t).take (k + 1)))) ∧ Own (wr.drew.setCell ⟨wo.heap.size, q, none⟩ (.bool true)) (wo.heap.size + 1) 3 natf (.slice (some ⟨lb, 0, none⟩) (rlist n es t).length lc) (rlist n es t)) := by
            refine ⟨(HI.out.1.below (bdraw 1)).turn hwg (fun j u g hj hu hg => ?_) q (.bool true), ?_, ?_⟩
            · rw [List.getElem?_set_ne (by omega)] at hu
              exact HOLD.out j u g hj hu hg
            · have := (HI.out.2.1.drawN 1).set q true
              rw [fl_set, fl_ext (g := fun x => decide (x ∈ (rlist n es t).take (k + 1))) (fun x hx => by
                rw [List.take_succ_eq_append_getElem hkl, (List.getElem?_eq_some_iff.1 hq).2]
                by_cases e : x = q
                · rw [if_pos e, dec_yes (by simp [e])]
                · rw [if_neg e]
                  exact decide_eq_decide.2 (by simp [e]))] at this
              exact this
            · exact (HI.out.2.2.drawN 1).only (only_set wr.drew wo.heap.size q (.bool true)) (fun g e e2 => by
                have h1 : lb = g := Option.some.inj e
                have h2 : g = wo.heap.size := Option.some.inj e2
                omega)
          have k0 : (0 : Int) ≤ (k : Int) := Int.natCast_nonneg _
          have k1 : (k : Int) < ((rlist n es t).length : Int) := by omega
          have q0 : (0 : Int) ≤ (q : Int) := Int.natCast_nonneg _
          have q1 : (q : Int) < (n : Int) := by omega
          clear hq
          obtain ⟨wq, rfl⟩ : ∃ wq : World, wq = wr := ⟨_, rfl⟩
          go_upto_region 10 with fail
          go_still_tail 9, (by kernel_rfl)
          change wpList _ _ _ _ _ wq.drew
          obtain ⟨W10, hW10⟩ : ∃ W10, wq.drew = W10 := ⟨_, rfl⟩
          replace e1 : W10.cell? ⟨w.heap.size, t, none⟩ = some (.slice (some ⟨wo.heap.size, 0, none⟩) n n) := by rw [← hW10]; exact e1
          replace e2 : W10.cell? ⟨lb, k, none⟩ = some (.int .i64 (q : Int)) := by rw [← hW10]; exact e2
          replace e3 : W10.frozen? ⟨wo.heap.size, q, none⟩ = false := by rw [← hW10]; exact e3
          replace e4 : W10.cell? ⟨wo.heap.size, q, none⟩ = some z4 := by rw [← hW10]; exact e4
          rw [hW10] at HST ⊢
          clear hW10
          go_wp2
          go_roundw
          case rel => exact ⟨k + 1, by omega, by go_num, HST.out⟩
          case measure => simp [intOf]; omega
        · obtain rfl : k = (rlist n es t).length := by omega
          have HN : Hid (BR w n es (t + 1) (vals.set t (.slice (some ⟨wo.heap.size, 0, none⟩) n n)) wr) := by
            refine ⟨HI.out.1.low, HI.out.1.len, HI.out.1.own, fun j u hj hu => ?_⟩
            by_cases e : j = t
            · subst e
              rw [List.getElem?_set_self (by omega)] at hu
              cases hu
              have h2 := HI.out.2.1
              rw [List.take_length, fl_ext (g := reaB es j) (fun x hx => by
                have : decide (x ∈ rlist n es j) = reaB es j x := bool_ext (by rw [decide_eq_true_iff, rlist_mem, reaB_iff]; exact ⟨fun h => h.2, fun h => ⟨hx, h⟩⟩)
                exact this)] at h2
              exact h2.mono (by omega)
            · exact HI.out.1.rows j u (by omega) hu
          go_wp2
          go_roundw
          case rel => exact ⟨t + 1, _, by omega, by go_num, HN.out⟩
          case measure => simp [intOf]; omega
    · obtain rfl : t = n := by omega
      obtain ⟨WD, rfl⟩ : ∃ WD : World, WD = wr := ⟨_, rfl⟩
      have HBD := Lib.hid H.out.low
      have HPO : Hid (PO WD t es 0 (.slice none 0 0) (WD.alloc (.cells (madeCells (Value.bool false).cells t) 4))) := by
        refine ⟨below_new _ _, ?_, ⟨[], rfl, Own.nil _ _ _ _, fun k v r hv => by simp at hv, fun i j vi vj g _ hi => by simp at hi⟩⟩
        have := own_made WD 4 boolf false (.bool false) rfl t (by omega) WD.heap.size (Nat.le_refl _)
        rw [fl_const, fl_ext (g := anyB es 0) (fun k hk => by simp [anyB])] at this
        exact this
      go_wp2_with fail
      go_loopw [10, 11, 12, 13] (fun s10 s11 _ _ wr => ∃ i : Nat, i ≤ t ∧ s11 = .int .i64 (i : Int) ∧ Hid (PO WD t es i s10 wr)) (fun _ s11 _ _ _ => t - (intOf s11).toNat)
      case atStart => exact ⟨0, Nat.zero_le _, rfl, HPO.out⟩
      case round =>
        clear HPO
        obtain ⟨i, hi, rfl, HI⟩ := hrel
        by_cases hin : i < t
        · have c1 := HI.out.done.cell (fl_get (anyB es i) hin)
          unfold boolf at c1
          have i0 : (0 : Int) ≤ (i : Int) := Int.natCast_nonneg _
          have i1 : (i : Int) < (t : Int) := by omega
          have HS := Lib.hid (partsTo_succ t es i)
          obtain ⟨b, hb⟩ : ∃ b, anyB es i i = b := ⟨_, rfl⟩
          rw [hb] at c1 HS
          have HBB := Lib.hid hb
          clear hb
          cases b
          · obtain ⟨wo, rfl⟩ : ∃ wo : World, wo = wr := ⟨_, rfl⟩
            have gR1 : w.heap.size < WD.heap.size := (H.out.own.lt w.heap.size rfl).2
            have HPI : Hid (PI WD wo t es i i (.slice none 0 0) wo) := by
              refine ⟨HI.out.low, ?_, ?_, fun g _ _ => rfl, Nat.le_refl _⟩
              · have := HI.out.done
                rw [fl_ext (g := flgK es i i) (fun q hq => (flgK_start es i q).symm)] at this
                exact this
              · rw [prtK_start]; exact Own.nil _ _ _ _
            have HROW : Hid (∀ (j : Nat), j < t → ∃ g c, g < WD.heap.size ∧ WD.cell? ⟨w.heap.size, j, none⟩ = some (.slice (some ⟨g, 0, none⟩) t c) ∧ ∀ k, k < t → WD.cell? ⟨g, k, none⟩ = some (.bool (reaB es j k))) := by
              intro j hj
              obtain ⟨u, hu⟩ : ∃ u, vals[j]? = some u := ⟨_, List.getElem?_eq_getElem (by have := H.out.len; omega)⟩
              have ho := H.out.rows j u hj hu
              obtain ⟨g, c, rfl, g1, _, _⟩ := ho.form (by rw [fl_len]; omega)
              rw [fl_len] at ho hu
              refine ⟨g, c, g1, H.out.own.cell hu, fun k hk => ?_⟩
              exact ho.cell (fl_get (reaB es j) hk)
            have hWo := HI.out.low.size
            go_wp2_with fail
            clear c1
            go_loopw [12, 13] (fun s12 s13 wr => ∃ k : Nat, i ≤ k ∧ k ≤ t ∧ s13 = .int .i64 (k : Int) ∧ Hid (PI WD wo t es i k s12 wr)) (fun _ s13 _ => t - (intOf s13).toNat)
            case atStart => exact ⟨i, Nat.le_refl _, by omega, rfl, HPI.out⟩
            case round =>
              clear HPI
              obtain ⟨k, hik, hkt, rfl, HK⟩ := hrel
              by_cases hkn : k < t
              · obtain ⟨ga, ca, ga1, a1, a2⟩ := HROW.out i hin
                obtain ⟨gb, cb, gb1, b1, b2⟩ := HROW.out k hkn
                have e1 := (HK.out.low.cell (p := ⟨w.heap.size, i, none⟩) gR1).trans a1
                have e2 := (HK.out.low.cell (p := ⟨w.heap.size, k, none⟩) gR1).trans b1
                have e3 := (HK.out.low.cell (p := ⟨ga, k, none⟩) ga1).trans (a2 k hkn)
                have e4 := (HK.out.low.cell (p := ⟨gb, i, none⟩) gb1).trans (b2 i hin)
                have k0 : (0 : Int) ≤ (k : Int) := Int.natCast_nonneg _
                have k1 : (k : Int) < (t : Int) := by omega
                have HP1 := Lib.hid (prtK_succ (es := es) hik)
                have HF1 := Lib.hid (flgK_succ (es := es) hik)
                clear a1 a2 b1 b2
                by_cases hm : mutl es i k = true
                · have hmi : reaB es i k = true ∧ reaB es k i = true := by unfold mutl at hm; simpa using hm
                  rw [hmi.1] at e3
                  rw [hmi.2] at e4
                  rw [hm] at HP1
                  have HNF : Hid (∀ q, flgK es i (k + 1) q = if q = k then true else flgK es i k q) := fun q => by
                    rw [HF1.out q]
                    by_cases e : q = k
                    · rw [if_pos ⟨e, hm⟩, if_pos e]
                    · rw [if_neg (fun h => e h.1), if_neg e]
                  have hlen1 : (prtK es i k).length + 1 ≤ 1099511627776 := by have := prtK_len es i k; omega
                  have hbase := HK.out.sz
                  clear hm hmi HF1
                  go_wp2_with (at_builtin; refine wpList_push wr rfl _ _ 23 rfl 3 8 elemInt wo.heap.size natf _ (prtK es i k) k rfl HK.out.part rfl rfl hlen1 (by omega) hbase ?_; intro v' w' hown' hg' hat'; have HD2 := Lib.hid (HK.out.done.only hg' (fun g e e2 => (HK.out.done.apart HK.out.part (by decide)) g e e2)); have c7 := HD2.out.free k; have c8 := HD2.out.cell (fl_get (flgK es i k) hkn); have c9 := (HD2.out.lt WD.heap.size rfl).2)
                  go_roundw
                  case rel =>
                    refine ⟨k + 1, by omega, by omega, by go_num, ?_⟩
                    have hbw : Below WD.heap.size WD w' := below_grown HK.out.low hg' HK.out.low.size (fun g e => by have := (HK.out.part.lt g e).1; omega)
                    refine ⟨hbw.setCell (p := ⟨WD.heap.size, k, none⟩) (Nat.le_refl _) _, ?_, ?_, fun g g1 g2 => ?_, by have := hg'.size; have := HK.out.sz; simp; omega⟩
                    · have := HD2.out.set k true
                      rw [fl_set, fl_ext (g := flgK es i (k + 1)) (fun q hq => (HNF.out q).symm)] at this
                      exact this
                    · rw [HP1.out]
                      exact hown'.only (only_set w' WD.heap.size k (.bool true)) (fun g e e2 => (hown'.apart HD2.out (by decide)) g e (e2.trans rfl))
                    · rw [heap_setCell_other w' ⟨WD.heap.size, k, none⟩ g _ (fun e => by have : g = WD.heap.size := e; omega), hg'.block g (by have := HK.out.sz; omega) (fun e => by have := (HK.out.part.lt g e.symm).1; omega)]
                      exact HK.out.keep g g1 g2
                  case measure => simp [intOf]; omega
                · have HPN : Hid (PI WD wo t es i (k + 1) u12 wr) := by
                    have h := HK.out
                    refine ⟨h.low, ?_, ?_, h.keep, h.sz⟩
                    · have h2 := h.done
                      rw [fl_ext (g := flgK es i (k + 1)) (fun q hq => by rw [HF1.out q, if_neg (fun h => hm h.2)])] at h2
                      exact h2
                    · rw [HP1.out, if_neg hm, List.append_nil]; exact h.part
                  have hmf : reaB es i k = false ∨ (reaB es i k = true ∧ reaB es k i = false) := by
                    unfold mutl at hm
                    cases h1 : reaB es i k
                    · exact .inl rfl
                    · right
                      refine ⟨rfl, ?_⟩
                      cases h2 : reaB es k i
                      · rfl
                      · rw [h1, h2] at hm; exact absurd rfl hm
                  clear hm HP1 HF1
                  rcases hmf with h1 | ⟨h1, h2⟩
                  · rw [h1] at e3
                    clear h1
                    go_wp2
                    go_roundw
                    case rel => exact ⟨k + 1, by omega, by omega, by go_num, HPN.out⟩
                    case measure => simp [intOf]; omega
                  · rw [h1] at e3
                    rw [h2] at e4
                    clear h1 h2
                    go_wp2
                    go_roundw
                    case rel => exact ⟨k + 1, by omega, by omega, by go_num, HPN.out⟩
                    case measure => simp [intOf]; omega
              · obtain rfl : k = t := by omega
                have HPT : Hid (Own wr wo.heap.size 3 natf u12 (cls k es i)) := by
                  have := HK.out.part
                  rw [prtK_all HBB.out] at this
                  exact this
                have HDN : Hid (Own wr WD.heap.size 4 boolf (.slice (some ⟨WD.heap.size, 0, none⟩) k k) (fl k (anyB es (i + 1)))) := by
                  have := HK.out.done
                  rw [fl_ext (g := anyB es (i + 1)) (fun q hq => flgK_all hq)] at this
                  exact this
                have HLW := Lib.hid HK.out.low
                obtain ⟨vv, hv0⟩ := HI.out.mv
                have hvv := hv0.kept (fun g g1 g2 _ => HK.out.keep g g1 g2)
                obtain ⟨po, pc, hpo⟩ := HPT.out.shape
                subst hpo
                have HVV := Lib.hid hvv
                have HOLD : Hid (∀ (j : Nat) u g, vv[j]? = some u → u.ownBlock = some g → g < wo.heap.size) := fun j u g hu hg => hv0.old j u hu g hg
                have hwoD : WD.heap.size + 1 ≤ wo.heap.size := (HI.out.done.lt WD.heap.size rfl).2
                have hlen1 : vv.length + 1 ≤ 1099511627776 := by
                  have h1 := HVV.out.1
                  have := partsTo_len k es i
                  omega
                have hbase : WD.heap.size + 1 ≤ wr.heap.size := by have := HK.out.sz; omega
                clear hvv hv0 HK
                go_wp2_with (at_builtin; refine wpList_push wr rfl _ _ 48 rfl 23 24 elemRow (WD.heap.size + 1) rowf _ vv (.slice po (cls k es i).length pc) rfl HVV.out.2.1 rfl rfl hlen1 (by omega) hbase ?_; intro v' w' hown' hg' hat')
                go_roundw
                case rel =>
                  refine ⟨i + 1, by omega, by go_num, ?_⟩
                  refine ⟨below_grown HLW.out hg' HLW.out.size (fun g e => by have := (HVV.out.2.1.lt g e).1; omega), HDN.out.only hg' (fun g e e2 => (HDN.out.apart HVV.out.2.1 (by decide)) g e e2), ?_⟩
                  rw [HS.out]
                  simp only [Bool.false_eq_true, if_false]
                  exact ⟨_, HVV.out.pushRow (HPT.out.mono hwoD) (fun g e j u hu e2 => by
                    have h1 := (HPT.out.lt g e).1
                    have h2 := HOLD.out j u g hu e2
                    omega) hown' hg'⟩
                case measure => simp [intOf]; omega
          · have HO : Hid (PO WD t es (i + 1) u10 wr) := by
              have h := HI.out
              refine ⟨h.low, ?_, ?_⟩
              · have h2 := h.done
                rw [fl_ext (g := anyB es (i + 1)) (fun q hq => (anyB_old HBB.out q).symm)] at h2
                exact h2
              · rw [HS.out]; simpa using h.mv
            go_wp2
            go_roundw
            case rel => exact ⟨i + 1, by omega, by go_num, HO.out⟩
            case measure => simp [intOf]; omega
        · obtain rfl : i = t := by omega
          have HX : Hid (Mat wr w.heap.size u10 (partsOf i es) ∧ Below w.heap.size w wr) := by
            refine ⟨HI.out.mv.mono (by have := HBD.out.size; omega), HBD.out.trans (HI.out.low.mono HBD.out.size)⟩
          go_wp2
          go_ret
          exact ⟨_, rfl, HX.out.1, HX.out.2⟩
theorem parts_bd3 (n : Nat) (es : List (Nat × Nat)) : (partsOf n es).length ≤ n ∧ ∀ r ∈ partsOf n es, r.length ≤ n := by
  refine ⟨partsTo_len n es n, fun r hr => ?_⟩
  obtain ⟨i, _, _, rfl⟩ := parts_mem hr
  exact cls_len n es i

theorem nodup_bd : ∀ (n : Nat) (L : List Nat), L.Nodup → (∀ x ∈ L, x < n) → L.length ≤ n := by
  intro n
  induction n with
  | zero =>
    intro L _ h
    cases L with
    | nil => simp
    | cons a t => exact absurd (h a (by simp)) (by omega)
  | succ n ih =>
    intro L hn h
    have h1 := ih (L.erase n) (hn.erase n) (fun x hx => by
      have h2 := h x (List.mem_of_mem_erase hx)
      have h3 : x ≠ n := (hn.mem_erase_iff.1 hx).1
      omega)
    by_cases e : n ∈ L
    · rw [List.length_erase_of_mem e] at h1; omega
    · rw [List.erase_of_not_mem e] at h1; omega

theorem loop_bd {n : Nat} {es : List (Nat × Nat)} (he : EndsD n es) : ((loopOf n es).getD []).length ≤ n := by
  cases hl : loopOf n es with
  | none => simp
  | some L =>
    have h := loop_some he (all_far n es) n (Nat.le_refl _) L hl
    exact nodup_bd n L h.nodup h.lt

set_option maxRecDepth 100000 in
set_option maxHeartbeats 4000000 in
theorem partsYes_walk (w : World) (n : Nat) (v : Value) (es : List (Nat × Nat)) (a : Int) (hg : Dg w n v es) (hlg : larg n es.length = false) :
    Calls Try.prog 9 #[.int .i64 (n : Int), v, .int .i64 a] w fun e w' => e = .returned (.bool true) ∧ Below w.heap.size w w' := by
  have HL := Lib.hid hlg
  have HG := Lib.hid hg
  have hn60 := hg.n_le
  have hm := hg.m_le
  obtain ⟨L, hL⟩ : ∃ L, (loopOf n es).getD [] = L := ⟨_, rfl⟩
  have hLb : L.length ≤ n := by rw [← hL]; exact loop_bd hg.ends
  have HLP : Hid (∀ W, Below w.heap.size w W → Calls Try.prog 29 #[.int .i64 (n : Int), v] W fun e w' => ∃ ao cp f, e = .returned (.tuple #[.slice ao L.length cp, .int .i64 f]) ∧ Nats w' (.slice ao L.length cp) L ∧ ((L.length = 0 ∧ f = 12) ∨ (0 < L.length ∧ f = 0)) ∧ Below W.heap.size W w') := fun W hW => by
    refine (loop_any n v es W (hg.below hW)).mono ?_
    intro e w' h
    unfold LoopPost at h
    cases hl : loopOf n es with
    | none =>
      rw [hl] at h hL
      subst hL
      obtain ⟨rfl, hb⟩ := h
      exact ⟨none, 0, 12, rfl, (Own.nil w' W.heap.size 3 natf).sl, .inl ⟨rfl, rfl⟩, hb⟩
    | some L' =>
      rw [hl] at h hL
      obtain rfl : L' = L := hL
      obtain ⟨⟨u, rfl, hu⟩, hb⟩ := h
      obtain ⟨ao, cp, rfl⟩ := hu.shape
      exact ⟨ao, cp, 0, rfl, hu.sl, .inr ⟨(loop_some hg.ends (all_far n es) n (Nat.le_refl _) L' hl).pos, rfl⟩, hb⟩
  have HRL : Hid (∀ W, Below w.heap.size w W → Calls Try.prog 39 #[.int .i64 (n : Int), v] W fun e w' => ∃ ao cp, e = .returned (.slice ao L.length cp) ∧ Nats w' (.slice ao L.length cp) L ∧ Below W.heap.size W w') := fun W hW => by
    refine (rloop_any n v es W (hg.below hW)).mono ?_
    intro e w' h
    obtain ⟨u, rfl, hu, hb⟩ := h
    rw [hL] at hu
    obtain ⟨ao, cp, rfl⟩ := hu.shape
    exact ⟨ao, cp, rfl, hu.sl, hb⟩
  obtain ⟨P, hP⟩ : ∃ P, partsOf n es = P := ⟨_, rfl⟩
  obtain ⟨hP1, hP2⟩ := parts_bd3 n es
  rw [hP] at hP1 hP2
  have HP2 := Lib.hid hP2
  have HPT : Hid (∀ W, Below w.heap.size w W → Calls Try.prog 27 #[.int .i64 (n : Int), v] W fun e w' => ∃ ao cp, e = .returned (.tuple #[.slice ao P.length cp, .int .i64 0]) ∧ Rows w' (.slice ao P.length cp) P ∧ Below W.heap.size W w') := fun W hW => by
    refine (parts_any n v es W (hg.below hW)).mono ?_
    rintro e w' ⟨u, rfl, hu, hb⟩
    rw [hP] at hu
    have hr := hu.rows
    obtain ⟨ao, cp, rfl⟩ := hr.at
    exact ⟨ao, cp, rfl, hr, hb⟩
  have HRP : Hid (∀ W, Below w.heap.size w W → Calls Try.prog 40 #[.int .i64 (n : Int), v] W fun e w' => ∃ ao cp, e = .returned (.slice ao P.length cp) ∧ Rows w' (.slice ao P.length cp) P ∧ Below W.heap.size W w') := fun W hW => by
    refine (rparts_any n v es W (hg.below hW)).mono ?_
    rintro e w' ⟨u, rfl, hu, hb⟩
    rw [hP] at hu
    have hr := hu.rows
    obtain ⟨ao, cp, rfl⟩ := hr.at
    exact ⟨ao, cp, rfl, hr, hb⟩
  have HRC : Hid (∀ W, Below w.heap.size w W → Calls Try.prog 32 #[.int .i64 (n : Int), v, .int .i64 a] W fun e w' => ∃ ao ln cp g, e = .returned (.tuple #[.slice ao ln cp, .int .i64 g]) ∧ ((∃ A : Nat, a = (A : Int) ∧ A < n ∧ g = 0 ∧ ln = (rlist n es A).length ∧ Nats w' (.slice ao ln cp) (rlist n es A)) ∨ ((a < 0 ∨ (n : Int) ≤ a) ∧ ln = 0 ∧ g = 2)) ∧ Below W.heap.size W w') := fun W hW => by
    by_cases ha : a < 0 ∨ (n : Int) ≤ a
    · refine (reachTop_range n a v es W (hg.below hW) ha).mono ?_
      rintro e w' ⟨rfl, hb⟩
      exact ⟨none, 0, 0, 2, rfl, .inr ⟨ha, rfl, rfl⟩, hb⟩
    · obtain ⟨A, rfl⟩ : ∃ A : Nat, a = (A : Int) := ⟨a.toNat, by omega⟩
      refine (reachTop_ok n A v es W (hg.below hW) (by omega)).mono ?_
      rintro e w' ⟨u, rfl, hu, hb⟩
      obtain ⟨ao, cp, rfl⟩ := hu.shape
      exact ⟨ao, _, cp, 0, rfl, .inl ⟨A, rfl, by omega, rfl, rfl, hu.sl⟩, hb⟩
  have HVD := Lib.hid (fun W (hW : Below w.heap.size w W) => rdvalid_any (n : Int) v (cst es) W ((hg.below hW).pairs) (by rw [cst_len]; omega))
  rw [hg.ok] at HVD
  obtain ⟨ao, cap, rfl, _⟩ := hg.pairs.open_
  clear hlg hg hP hP2 hL
  go_enter Try.func9, Try.ntmps9
  go_wp2_with fail
  refine (awake_any _).mono ?_
  rintro e w1 ⟨rfl, hB1⟩
  go_wp2_with fail
  refine (large_any n _ es.length _ (by omega) ⟨_, _, rfl⟩).mono ?_
  rw [HL.out]
  rintro e w2 ⟨rfl, rfl⟩
  go_wp2_with fail
  refine (HLP.out _ hB1).mono ?_
  rintro e w2 ⟨lo, lc, f, rfl, hl2, hf, hb2⟩
  have hB2 := bstep hB1 hb2
  have L2 := Lib.hid hl2
  have HF := Lib.hid hf
  clear hl2 hf
  go_wp2_with fail
  refine (HPT.out _ hB2).mono ?_
  rintro e w3 ⟨po, pc, rfl, hr3, hb3⟩
  have hB3 := bstep hB2 hb3
  have L3 := Lib.hid (L2.out.below hb3)
  have R3 := Lib.hid hr3
  clear hr3 L2
  go_wp2_with fail
  refine (HRC.out _ hB3).mono ?_
  rintro e w4 ⟨ro, rl, rc, g, rfl, hq, hb4⟩
  have HB4 := Lib.hid (bstep hB3 hb4)
  have L4 := Lib.hid (L3.out.below hb4)
  have R4 := Lib.hid (R3.out.below hb4)
  have HQ := Lib.hid hq
  clear hq L3 R3 hB1 hB2 hB3 hb2 hb3 hb4
  go_wp2_with fail
  refine (HVD.out _ HB4.out).mono ?_
  rintro e w5 ⟨rfl, rfl⟩
  go_wp2_with fail
  refine (HRL.out _ HB4.out).mono ?_
  rintro e w5 ⟨wo, wc, rfl, hw5, hb5⟩
  have HB5 := Lib.hid (bstep HB4.out hb5)
  have L5 := Lib.hid (L4.out.below hb5)
  have R5 := Lib.hid (R4.out.below hb5)
  have HQ5 : Hid ((∃ A : Nat, a = (A : Int) ∧ A < n ∧ g = 0 ∧ rl = (rlist n es A).length ∧ Nats w5 (.slice ro rl rc) (rlist n es A)) ∨ ((a < 0 ∨ (n : Int) ≤ a) ∧ rl = 0 ∧ g = 2)) := by
    rcases HQ.out with ⟨A, h1, h2, h3, h4, h5⟩ | h
    · exact .inl ⟨A, h1, h2, h3, h4, h5.below hb5⟩
    · exact .inr h
  have WN := Lib.hid hw5
  clear hw5 hb5 L4 R4 HQ
  go_wp2_with fail
  refine (equalN_yes _ _ L L _ L5.out WN.out (by omega) rfl).mono ?_
  rintro e w6 ⟨rfl, hb6⟩
  have HB6 := Lib.hid (bstep HB5.out hb6)
  have R6 := Lib.hid (R5.out.below hb6)
  have HQ6 : Hid ((∃ A : Nat, a = (A : Int) ∧ A < n ∧ g = 0 ∧ rl = (rlist n es A).length ∧ Nats w6 (.slice ro rl rc) (rlist n es A)) ∨ ((a < 0 ∨ (n : Int) ≤ a) ∧ rl = 0 ∧ g = 2)) := by
    rcases HQ5.out with ⟨A, h1, h2, h3, h4, h5⟩ | h
    · exact .inl ⟨A, h1, h2, h3, h4, h5.below hb6⟩
    · exact .inr h
  clear hb6 L5 R5 HQ5 WN
  have hfs := HF.out
  clear HF
  obtain ⟨ml, hml⟩ : ∃ m, L.length = m := ⟨_, rfl⟩
  rw [hml] at hfs hLb ⊢
  clear hml
  have fin : ∀ (hgoal : True), True := fun h => h
  rcases hfs with ⟨rfl, rfl⟩ | ⟨hpos, rfl⟩
  · go_wp2_with fail
    refine (HRP.out _ HB6.out).mono ?_
    rintro e w7 ⟨qo, qc, rfl, hr7, hb7⟩
    have HB7 := Lib.hid (bstep HB6.out hb7)
    have R7 := Lib.hid (R6.out.below hb7)
    have S7 := Lib.hid hr7
    have HQ7 : Hid ((∃ A : Nat, a = (A : Int) ∧ A < n ∧ g = 0 ∧ rl = (rlist n es A).length ∧ Nats w7 (.slice ro rl rc) (rlist n es A)) ∨ ((a < 0 ∨ (n : Int) ≤ a) ∧ rl = 0 ∧ g = 2)) := by
      rcases HQ6.out with ⟨A, h1, h2, h3, h4, h5⟩ | h
      · exact .inl ⟨A, h1, h2, h3, h4, h5.below hb7⟩
      · exact .inr h
    clear hr7 hb7 R6 HQ6
    go_wp2_with fail
    refine (eqFunc_yes _ _ P _ R7.out S7.out (by omega) (fun r hr => by have := HP2.out r hr; omega)).mono ?_
    rintro e w8 ⟨rfl, hb8⟩
    have HB8 := Lib.hid (bstep HB7.out hb8)
    rcases HQ7.out with ⟨A, rfl, hA, rfl, rfl, hN⟩ | ⟨ha, rfl, rfl⟩
    · have HN := Lib.hid (hN.below hb8)
      have a1 : ¬ (A : Int) < 0 := by omega
      have a2 : ¬ (n : Int) ≤ (A : Int) := by omega
      have hrl := rlist_len n es A
      have HRR := Lib.hid (rreach_any n A _ es w8 (HG.out.below HB8.out) hA)
      clear hN hb8
      go_wp2_with fail
      refine HRR.out.mono ?_
      rintro e w9 ⟨u, rfl, hu, hb9⟩
      have HN9 := Lib.hid (HN.out.below hb9)
      have HU := Lib.hid hu.sl
      have HB9 := Lib.hid (bstep HB8.out hb9)
      obtain ⟨uo, uc, rfl⟩ := hu.shape
      clear hu hb9 HN
      go_wp2_with fail
      refine (equalN_yes _ _ (rlist n es A) (rlist n es A) _ HN9.out HU.out (by omega) rfl).mono ?_
      rintro e w10 ⟨rfl, hb10⟩
      have HB10 := Lib.hid (bstep HB9.out hb10)
      clear hb10
      go_wp2
      go_ret
      exact ⟨rfl, HB10.out⟩
    · clear hb8
      rcases ha with ha | ha
      · go_wp2
        go_ret
        exact ⟨rfl, HB8.out⟩
      · have ha0 : ¬ a < 0 := by omega
        go_wp2
        go_ret
        exact ⟨rfl, HB8.out⟩
  · have p1 : ((ml : Int) == 0) = false := beq_no (by omega)
    have p2 : (0 : Int) < (ml : Int) := by omega
    go_wp2_with fail
    refine (HRP.out _ HB6.out).mono ?_
    rintro e w7 ⟨qo, qc, rfl, hr7, hb7⟩
    have HB7 := Lib.hid (bstep HB6.out hb7)
    have R7 := Lib.hid (R6.out.below hb7)
    have S7 := Lib.hid hr7
    have HQ7 : Hid ((∃ A : Nat, a = (A : Int) ∧ A < n ∧ g = 0 ∧ rl = (rlist n es A).length ∧ Nats w7 (.slice ro rl rc) (rlist n es A)) ∨ ((a < 0 ∨ (n : Int) ≤ a) ∧ rl = 0 ∧ g = 2)) := by
      rcases HQ6.out with ⟨A, h1, h2, h3, h4, h5⟩ | h
      · exact .inl ⟨A, h1, h2, h3, h4, h5.below hb7⟩
      · exact .inr h
    clear hr7 hb7 R6 HQ6
    go_wp2_with fail
    refine (eqFunc_yes _ _ P _ R7.out S7.out (by omega) (fun r hr => by have := HP2.out r hr; omega)).mono ?_
    rintro e w8 ⟨rfl, hb8⟩
    have HB8 := Lib.hid (bstep HB7.out hb8)
    rcases HQ7.out with ⟨A, rfl, hA, rfl, rfl, hN⟩ | ⟨ha, rfl, rfl⟩
    · have HN := Lib.hid (hN.below hb8)
      have a1 : ¬ (A : Int) < 0 := by omega
      have a2 : ¬ (n : Int) ≤ (A : Int) := by omega
      have hrl := rlist_len n es A
      have HRR := Lib.hid (rreach_any n A _ es w8 (HG.out.below HB8.out) hA)
      clear hN hb8
      go_wp2_with fail
      refine HRR.out.mono ?_
      rintro e w9 ⟨u, rfl, hu, hb9⟩
      have HN9 := Lib.hid (HN.out.below hb9)
      have HU := Lib.hid hu.sl
      have HB9 := Lib.hid (bstep HB8.out hb9)
      obtain ⟨uo, uc, rfl⟩ := hu.shape
      clear hu hb9 HN
      go_wp2_with fail
      refine (equalN_yes _ _ (rlist n es A) (rlist n es A) _ HN9.out HU.out (by omega) rfl).mono ?_
      rintro e w10 ⟨rfl, hb10⟩
      have HB10 := Lib.hid (bstep HB9.out hb10)
      clear hb10
      go_wp2
      go_ret
      exact ⟨rfl, HB10.out⟩
    · clear hb8
      rcases ha with ha | ha
      · go_wp2
        go_ret
        exact ⟨rfl, HB8.out⟩
      · have ha0 : ¬ a < 0 := by omega
        go_wp2
        go_ret
        exact ⟨rfl, HB8.out⟩

set_option maxRecDepth 100000 in
set_option maxHeartbeats 4000000 in
theorem digraphParts_walk (w : World) (n : Int) (wn : (Lit.int .i64 n).wf = true) (v : Value) (l : List (Int × Int)) (hp : Pairs w v l) (bl : l.length * 16 ≤ 140737488351232) (a : Int) (wa : (Lit.int .i64 a).wf = true) :
    Calls Try.prog 9 #[.int .i64 n, v, .int .i64 a] w fun e w' => e = .returned (.bool true) ∧ Below w.heap.size w w' := by
  have hbl : l.length ≤ 140737488355328 := by omega
  cases hlg : larg n l.length
  · cases hv : vldD n l
    · have HL := Lib.hid hlg
      have HV := Lib.hid hv
      have HP := Lib.hid hp
      obtain ⟨ao, cap, rfl, _⟩ := hp
      clear hlg bl hv
      go_enter Try.func9, Try.ntmps9
      go_wp2_with fail
      refine (awake_any _).mono ?_
      rintro e w1 ⟨rfl, hB1⟩
      go_wp2_with fail
      refine (large_any n _ l.length _ hbl ⟨_, _, rfl⟩).mono ?_
      rw [HL.out]
      rintro e w2 ⟨rfl, rfl⟩
      go_wp2_with fail
      refine (loopTop_bad n _ l _ (HP.out.below hB1) hbl HV.out).mono ?_
      rintro e w2 ⟨rfl, hb2⟩
      have hB2 := bstep hB1 hb2
      go_wp2_with fail
      refine (parts_bad n _ l _ (HP.out.below hB2) hbl HV.out).mono ?_
      rintro e w3 ⟨rfl, hb3⟩
      have hB3 := bstep hB2 hb3
      go_wp2_with fail
      refine (reachTop_bad n a _ l _ (HP.out.below hB3) hbl HV.out).mono ?_
      rintro e w4 ⟨rfl, hb4⟩
      have hB4 := bstep hB3 hb4
      go_wp2_with fail
      refine (rdvalid_any n _ l _ (HP.out.below hB4) hbl).mono ?_
      rw [HV.out]
      rintro e w5 ⟨rfl, rfl⟩
      go_wp2
      go_ret
      exact ⟨rfl, hB4⟩
    · obtain ⟨N, ns, rfl, rfl, hg⟩ := dg_of hp hv
      rw [cst_len] at hlg
      exact partsYes_walk w N v ns a hg hlg
  · have HL := Lib.hid hlg
    obtain ⟨ao, cap, rfl, _⟩ := hp
    clear hlg bl
    go_enter Try.func9, Try.ntmps9
    go_wp2_with fail
    refine (awake_any _).mono ?_
    rintro e w1 ⟨rfl, hB1⟩
    go_wp2_with fail
    refine (large_any n _ l.length _ hbl ⟨_, _, rfl⟩).mono ?_
    rw [HL.out]
    rintro e w2 ⟨rfl, rfl⟩
    go_wp2
    go_ret
    exact ⟨rfl, hB1⟩
end Go.Proofs.Ythhhcaleoiopgaa
