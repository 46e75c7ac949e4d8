/-
  Directed graphs: Parts, walked.
-/
import Derived.Test.YthhhcaleoiopgaaRcC
import Derived.Deep.LoopGhost
namespace Go.Proofs.Ythhhcaleoiopgaa
open Go.RowKit
set_option linter.unusedVariables false
attribute [local go_sem ↓] Go.wp_at_zero Go.wp_at_succ

set_option maxHeartbeats 400000 in
theorem parts_bad (n : Int) (v : Value) (l : List (Int × Int)) (w : World) (hp : Pairs w v l) (hl : l.length ≤ 140737488355328) (h : vldD n l = false) :
    Calls Try.prog 27 #[.int .i64 n, v] w fun e w' => e = .returned (.tuple #[.slice none 0 0, .int .i64 1]) ∧ Below w.heap.size w w' := by
  have HV := Lib.hid (dvalid_any n v l w hp hl)
  rw [h] at HV
  clear hp h
  go_enter Try.func27, Try.ntmps27
  go_wp2_with fail
  refine HV.out.mono ?_
  rintro e w1 ⟨rfl, hb⟩
  go_wp2
  go_ret2
  exact ⟨rfl, hb⟩

def PartsPost (w : World) (n : Nat) (es : List (Nat × Nat)) (e : Ending) (w' : World) : Prop :=
  ∃ v, e = .returned (.tuple #[v, .int .i64 0]) ∧ Mat w' w.heap.size v (partsOf n es) ∧ Below w.heap.size w w'

structure PO (WD : World) (n : Nat) (es : List (Nat × Nat)) (i : Nat) (v : Value) (wr : World) : Prop where
  low : Below WD.heap.size WD wr
  done : Own wr WD.heap.size 4 boolf (.slice (some ⟨WD.heap.size, 0, none⟩) n n) (fl n (anyB es i))
  mv : Mat wr (WD.heap.size + 1) v (partsTo n es i)
structure PI (WD wo : World) (n : Nat) (es : List (Nat × Nat)) (i k : Nat) (v : Value) (wr : World) : Prop where
  low : Below WD.heap.size WD wr
  done : Own wr WD.heap.size 4 boolf (.slice (some ⟨WD.heap.size, 0, none⟩) n n) (fl n (flgK es i k))
  part : Own wr wo.heap.size 3 natf v (prtK es i k)
  keep : ∀ g, WD.heap.size + 1 ≤ g → g < wo.heap.size → wr.heap[g]? = wo.heap[g]?
  sz : wo.heap.size ≤ wr.heap.size

set_option maxRecDepth 100000 in
set_option maxHeartbeats 4000000 in
theorem parts_any (n : Nat) (v : Value) (es : List (Nat × Nat)) (w : World) (hg : Dg w n v es) :
    Calls Try.prog 27 #[.int .i64 (n : Int), v] w (PartsPost w n es) := by
  have hn60 := hg.n_le
  have HV := Lib.hid (dvalid_any (n : Int) v (cst es) w hg.pairs (by rw [cst_len]; have := hg.m_le; omega))
  rw [hg.ok] at HV
  have HG := Lib.hid hg
  have hmk := fun W => run_make_one (P := Try.prog) 54 4 1 (.bool false) Try.underlying54 (by kernel_rfl) (by omega) n (by omega) W
  clear hg
  go_enter Try.func27, Try.ntmps27
  go_wp2_with fail
  refine HV.out.mono ?_
  rintro e w1 ⟨rfl, hb1⟩
  have HN := Lib.hid (nexts_any n v es w1 (HG.out.below hb1))
  go_wp2_with fail
  refine HN.out.mono ?_
  rintro e w2 ⟨⟨V, rfl, hM⟩, hb2⟩
  have hB2 := bstep hb1 hb2
  have HRW := Lib.hid hM.rows
  obtain ⟨ao, cap, rfl⟩ := hM.rows.at
  rw [nxS_len] at HRW ⊢
  clear hM HN HV hb1 hb2
  go_wp2_with fail
  go_loopw [7, 8, 22] (fun s7 _ s22 wr => ∃ (t : Nat) (vals : List Value), t ≤ n ∧ s22 = .int .i64 (t : Int) ∧ Hid (vals.length = t ∧ BM w2.heap.size n es s7 vals wr ∧ Below w2.heap.size w2 wr)) (fun _ _ s22 _ => n - (intOf s22).toNat)
  case atStart => exact ⟨0, [], Nat.zero_le _, rfl, rfl, ⟨Own.nil _ _ _ _, fun j u hu => by simp at hu⟩, Below.refl _ _⟩
  case round =>
    obtain ⟨t, vals, ht, rfl, H⟩ := hrel
    by_cases htn : t < n
    · have HR := Lib.hid (reach_any wr n t es (.slice ao n cap) hn60 HG.out.ends htn (HRW.out.below H.out.2.2))
      obtain ⟨wo, rfl⟩ : ∃ wo : World, wo = wr := ⟨_, rfl⟩
      go_wp2_with fail
      refine HR.out.mono ?_
      rintro e w3 ⟨u, rfl, hu, hb3⟩
      obtain ⟨uo, uc, rfl⟩ := hu.shape
      rw [fl_len] at hu ⊢
      have hlen1 : vals.length + 1 ≤ 1099511627776 := by have := H.out.1; omega
      have HB3 := Lib.hid (H.out.2.1.below hb3)
      have HL3 := Lib.hid (bstep H.out.2.2 hb3)
      have HU : Hid (Own w3 w2.heap.size 4 boolf (.slice uo n uc) (fl n (reaB es vals.length))) := by
        rw [H.out.1]
        exact hu.mono H.out.2.2.size
      have hbase := HL3.out.size
      clear hu HR hb3
      go_wp2_with (at_builtin; refine wpList_push w3 rfl _ _ 74 rfl 54 24 elemBRow w2.heap.size rowf _ vals (.slice uo n uc) rfl HB3.out.own rfl rfl hlen1 (by omega) hbase ?_; intro v' w' hown' hg' hat'; have HP : Hid (BM w2.heap.size n es v' (vals ++ [.slice uo n uc]) w' ∧ Below w2.heap.size w2 w') := ⟨HB3.out.push HU.out hg' hown', below_grown HL3.out hg' hbase (fun g e => (HB3.out.own.lt g e).1)⟩)
      go_roundw
      case rel => exact ⟨t + 1, vals ++ [.slice uo n uc], by omega, by go_num, by simp [H.out.1], HP.out.1, HP.out.2⟩
      case measure => simp [intOf]; omega
    · obtain rfl : t = n := by omega
      obtain ⟨WD, rfl⟩ : ∃ WD : World, WD = wr := ⟨_, rfl⟩
      have HBD := Lib.hid (bstep hB2 H.out.2.2)
      have HPO : Hid (PO WD t es 0 (.slice none 0 0) (WD.alloc (.cells (madeCells (Value.bool false).cells t) 4))) := by
        refine ⟨below_new _ _, ?_, ⟨[], rfl, Own.nil _ _ _ _, fun k v r hv => by simp at hv, fun i j vi vj g _ hi => by simp at hi⟩⟩
        have := own_made WD 4 boolf false (.bool false) rfl t (by omega) WD.heap.size (Nat.le_refl _)
        rw [fl_const, fl_ext (g := anyB es 0) (fun k hk => by simp [anyB])] at this
        exact this
      go_wp2_with fail
      go_loopw [10, 11, 12, 13, 35] (fun s10 _ _ _ s35 wr => ∃ i : Nat, i ≤ t ∧ s35 = .int .i64 (i : Int) ∧ Hid (PO WD t es i s10 wr)) (fun _ _ _ _ s35 _ => t - (intOf s35).toNat)
      case atStart => exact ⟨0, Nat.zero_le _, rfl, HPO.out⟩
      case round =>
        clear HPO
        obtain ⟨i, hi, rfl, HI⟩ := hrel
        by_cases hin : i < t
        · have c1 := HI.out.done.cell (fl_get (anyB es i) hin)
          unfold boolf at c1
          have i0 : (0 : Int) ≤ (i : Int) := Int.natCast_nonneg _
          have i1 : (i : Int) < (t : Int) := by omega
          have HS := Lib.hid (partsTo_succ t es i)
          obtain ⟨b, hb⟩ : ∃ b, anyB es i i = b := ⟨_, rfl⟩
          rw [hb] at c1 HS
          have HBB := Lib.hid hb
          clear hb
          cases b
          · obtain ⟨wo, rfl⟩ : ∃ wo : World, wo = wr := ⟨_, rfl⟩
            obtain ⟨gR, cR, hrv, gR1, _, _⟩ := H.out.2.1.own.form (by have := H.out.1; omega)
            rw [H.out.1] at hrv
            subst hrv
            have HPI : Hid (PI WD wo t es i i (.slice none 0 0) wo) := by
              refine ⟨HI.out.low, ?_, ?_, fun g _ _ => rfl, Nat.le_refl _⟩
              · have := HI.out.done
                rw [fl_ext (g := flgK es i i) (fun q hq => (flgK_start es i q).symm)] at this
                exact this
              · rw [prtK_start]; exact Own.nil _ _ _ _
            have HROW : Hid (∀ (j : Nat), j < t → ∃ g c, g < WD.heap.size ∧ WD.cell? ⟨gR, j, none⟩ = some (.slice (some ⟨g, 0, none⟩) t c) ∧ ∀ k, k < t → WD.cell? ⟨g, k, none⟩ = some (.bool (reaB es j k))) := by
              intro j hj
              obtain ⟨u, hu⟩ : ∃ u, vals[j]? = some u := ⟨_, List.getElem?_eq_getElem (by have := H.out.1; omega)⟩
              have ho := H.out.2.1.rows j u hu
              obtain ⟨g, c, rfl, g1, _, _⟩ := ho.form (by rw [fl_len]; omega)
              rw [fl_len] at ho hu
              refine ⟨g, c, g1, H.out.2.1.own.cell hu, fun k hk => ?_⟩
              have := ho.cell (fl_get (reaB es j) hk)
              exact this
            have hWo := HI.out.low.size
            go_wp2_with fail
            clear c1
            go_loopw [12, 13] (fun s12 s13 wr => ∃ k : Nat, i ≤ k ∧ k ≤ t ∧ s13 = .int .i64 (k : Int) ∧ Hid (PI WD wo t es i k s12 wr)) (fun _ s13 _ => t - (intOf s13).toNat)
            case atStart => exact ⟨i, Nat.le_refl _, by omega, rfl, HPI.out⟩
            case round =>
              clear HPI
              obtain ⟨k, hik, hkt, rfl, HK⟩ := hrel
              by_cases hkn : k < t
              · obtain ⟨ga, ca, ga1, a1, a2⟩ := HROW.out i hin
                obtain ⟨gb, cb, gb1, b1, b2⟩ := HROW.out k hkn
                have e1 := (HK.out.low.cell (p := ⟨gR, i, none⟩) gR1).trans a1
                have e2 := (HK.out.low.cell (p := ⟨gR, k, none⟩) gR1).trans b1
                have e3 := (HK.out.low.cell (p := ⟨ga, k, none⟩) ga1).trans (a2 k hkn)
                have e4 := (HK.out.low.cell (p := ⟨gb, i, none⟩) gb1).trans (b2 i hin)
                have k0 : (0 : Int) ≤ (k : Int) := Int.natCast_nonneg _
                have k1 : (k : Int) < (t : Int) := by omega
                have HP1 := Lib.hid (prtK_succ (es := es) hik)
                have HF1 := Lib.hid (flgK_succ (es := es) hik)
                clear a1 a2 b1 b2
                by_cases hm : mutl es i k = true
                · have hmi : reaB es i k = true ∧ reaB es k i = true := by unfold mutl at hm; simpa using hm
                  rw [hmi.1] at e3
                  rw [hmi.2] at e4
                  rw [hm] at HP1
                  have HNF : Hid (∀ q, flgK es i (k + 1) q = if q = k then true else flgK es i k q) := fun q => by
                    rw [HF1.out q]
                    by_cases e : q = k
                    · rw [if_pos ⟨e, hm⟩, if_pos e]
                    · rw [if_neg (fun h => e h.1), if_neg e]
                  have hlen1 : (prtK es i k).length + 1 ≤ 1099511627776 := by have := prtK_len es i k; omega
                  have hbase := HK.out.sz
                  clear hm hmi HF1
                  go_wp2_with (at_builtin; refine wpList_push wr rfl _ _ 23 rfl 3 8 elemInt wo.heap.size natf _ (prtK es i k) k rfl HK.out.part rfl rfl hlen1 (by omega) hbase ?_; intro v' w' hown' hg' hat'; have HD2 := Lib.hid (HK.out.done.only hg' (fun g e e2 => (HK.out.done.apart HK.out.part (by decide)) g e e2)); have c7 := HD2.out.free k; have c8 := HD2.out.cell (fl_get (flgK es i k) hkn); have c9 := (HD2.out.lt WD.heap.size rfl).2)
                  go_roundw
                  case rel =>
                    refine ⟨k + 1, by omega, by omega, by go_num, ?_⟩
                    have hbw : Below WD.heap.size WD w' := below_grown HK.out.low hg' HK.out.low.size (fun g e => by have := (HK.out.part.lt g e).1; omega)
                    refine ⟨hbw.setCell (p := ⟨WD.heap.size, k, none⟩) (Nat.le_refl _) _, ?_, ?_, fun g g1 g2 => ?_, by have := hg'.size; have := HK.out.sz; simp; omega⟩
                    · have := HD2.out.set k true
                      rw [fl_set, fl_ext (g := flgK es i (k + 1)) (fun q hq => (HNF.out q).symm)] at this
                      exact this
                    · rw [HP1.out]
                      exact hown'.only (only_set w' WD.heap.size k (.bool true)) (fun g e e2 => (hown'.apart HD2.out (by decide)) g e (e2.trans rfl))
                    · rw [heap_setCell_other w' ⟨WD.heap.size, k, none⟩ g _ (fun e => by have : g = WD.heap.size := e; omega), hg'.block g (by have := HK.out.sz; omega) (fun e => by have := (HK.out.part.lt g e.symm).1; omega)]
                      exact HK.out.keep g g1 g2
                  case measure => simp [intOf]; omega
                · have HPN : Hid (PI WD wo t es i (k + 1) u12 wr) := by
                    have h := HK.out
                    refine ⟨h.low, ?_, ?_, h.keep, h.sz⟩
                    · have h2 := h.done
                      rw [fl_ext (g := flgK es i (k + 1)) (fun q hq => by rw [HF1.out q, if_neg (fun h => hm h.2)])] at h2
                      exact h2
                    · rw [HP1.out, if_neg hm, List.append_nil]; exact h.part
                  have hmf : reaB es i k = false ∨ (reaB es i k = true ∧ reaB es k i = false) := by
                    unfold mutl at hm
                    cases h1 : reaB es i k
                    · exact .inl rfl
                    · right
                      refine ⟨rfl, ?_⟩
                      cases h2 : reaB es k i
                      · rfl
                      · rw [h1, h2] at hm; exact absurd rfl hm
                  clear hm HP1 HF1
                  rcases hmf with h1 | ⟨h1, h2⟩
                  · rw [h1] at e3
                    clear h1
                    go_wp2
                    go_roundw
                    case rel => exact ⟨k + 1, by omega, by omega, by go_num, HPN.out⟩
                    case measure => simp [intOf]; omega
                  · rw [h1] at e3
                    rw [h2] at e4
                    clear h1 h2
                    go_wp2
                    go_roundw
                    case rel => exact ⟨k + 1, by omega, by omega, by go_num, HPN.out⟩
                    case measure => simp [intOf]; omega
              · obtain rfl : k = t := by omega
                have HPT : Hid (Own wr wo.heap.size 3 natf u12 (cls k es i)) := by
                  have := HK.out.part
                  rw [prtK_all HBB.out] at this
                  exact this
                have HDN : Hid (Own wr WD.heap.size 4 boolf (.slice (some ⟨WD.heap.size, 0, none⟩) k k) (fl k (anyB es (i + 1)))) := by
                  have := HK.out.done
                  rw [fl_ext (g := anyB es (i + 1)) (fun q hq => flgK_all hq)] at this
                  exact this
                have HLW := Lib.hid HK.out.low
                obtain ⟨vv, hv0⟩ := HI.out.mv
                have hvv := hv0.kept (fun g g1 g2 _ => HK.out.keep g g1 g2)
                obtain ⟨po, pc, hpo⟩ := HPT.out.shape
                subst hpo
                have HVV := Lib.hid hvv
                have HOLD : Hid (∀ (j : Nat) u g, vv[j]? = some u → u.ownBlock = some g → g < wo.heap.size) := fun j u g hu hg => hv0.old j u hu g hg
                have hwoD : WD.heap.size + 1 ≤ wo.heap.size := (HI.out.done.lt WD.heap.size rfl).2
                have hlen1 : vv.length + 1 ≤ 1099511627776 := by
                  have h1 := HVV.out.1
                  have := partsTo_len k es i
                  omega
                have hbase : WD.heap.size + 1 ≤ wr.heap.size := by have := HK.out.sz; omega
                clear hvv hv0 HK
                go_wp2_with (at_builtin; refine wpList_push wr rfl _ _ 48 rfl 23 24 elemRow (WD.heap.size + 1) rowf _ vv (.slice po (cls k es i).length pc) rfl HVV.out.2.1 rfl rfl hlen1 (by omega) hbase ?_; intro v' w' hown' hg' hat')
                go_roundw
                case rel =>
                  refine ⟨i + 1, by omega, by go_num, ?_⟩
                  refine ⟨below_grown HLW.out hg' HLW.out.size (fun g e => by have := (HVV.out.2.1.lt g e).1; omega), HDN.out.only hg' (fun g e e2 => (HDN.out.apart HVV.out.2.1 (by decide)) g e e2), ?_⟩
                  rw [HS.out]
                  simp only [Bool.false_eq_true, if_false]
                  exact ⟨_, HVV.out.pushRow (HPT.out.mono hwoD) (fun g e j u hu e2 => by
                    have h1 := (HPT.out.lt g e).1
                    have h2 := HOLD.out j u g hu e2
                    omega) hown' hg'⟩
                case measure => simp [intOf]; omega
          · have HO : Hid (PO WD t es (i + 1) u10 wr) := by
              have h := HI.out
              refine ⟨h.low, ?_, ?_⟩
              · have h2 := h.done
                rw [fl_ext (g := anyB es (i + 1)) (fun q hq => (anyB_old HBB.out q).symm)] at h2
                exact h2
              · rw [HS.out]; simpa using h.mv
            go_wp2
            go_roundw
            case rel => exact ⟨i + 1, by omega, by go_num, HO.out⟩
            case measure => simp [intOf]; omega
        · obtain rfl : i = t := by omega
          have HX : Hid (Mat wr w.heap.size u10 (partsOf i es) ∧ Below w.heap.size w wr) := by
            refine ⟨HI.out.mv.mono (by have := HBD.out.size; omega), HBD.out.trans (HI.out.low.mono HBD.out.size)⟩
          go_wp2
          go_ret2
          exact ⟨_, rfl, HX.out.1, HX.out.2⟩
end Go.Proofs.Ythhhcaleoiopgaa
