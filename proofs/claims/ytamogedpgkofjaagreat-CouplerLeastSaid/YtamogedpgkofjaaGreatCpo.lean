/-
  Couplers: the others.
-/
import Derived.Test.YtamogedpgkofjaaGreatCpb
namespace Go.Proofs.YtamogedpgkofjaaGreat
section
open Go.RowKit
set_option linter.unusedVariables false
set_option linter.unusedSimpArgs false
attribute [local go_sem ↓] Go.wp_at_zero Go.wp_at_succ

theorem othN_succ (k : Nat) (l : List Int) : othN (k + 1) l = othN k l ++ if (k : Int) ∈ l then [] else [k] := by
  unfold othN
  rw [List.range_succ, List.filter_append]
  congr 1
  by_cases h : (k : Int) ∈ l
  · rw [if_pos h, List.filter_cons_of_neg (by simpa using h)]; rfl
  · rw [if_neg h, List.filter_cons_of_pos (by simpa using h)]; rfl
theorem subE_snoc {es : List (Nat × Nat)} {nodes : List Nat} {k : Nat} {e : Nat × Nat} (h : es[k]? = some e) : subE (es.take (k + 1)) nodes = subE (es.take k) nodes ++ if e.1 ∈ nodes ∧ e.2 ∈ nodes then [(nodes.idxOf e.1, nodes.idxOf e.2)] else [] := by
  have hk := (List.getElem?_eq_some_iff.1 h).1
  unfold subE
  rw [List.take_succ_eq_append_getElem hk, (List.getElem?_eq_some_iff.1 h).2, List.filter_append, List.map_append]
  congr 1
  by_cases hb : e.1 ∈ nodes ∧ e.2 ∈ nodes
  · rw [if_pos hb, List.filter_cons_of_pos (by simpa using hb)]; rfl
  · rw [if_neg hb, List.filter_cons_of_neg (by simpa using hb)]; rfl
set_option maxRecDepth 100000 in
set_option maxHeartbeats 2000000 in
theorem cothers_any (n : Nat) (ev lv : Value) (es : List (Nat × Nat)) (l : List Int) (w : World) (he : NPairs w ev es) (hes : es.length ≤ 1000) (hn : n ≤ 60) (hl : Ints w lv l) (hll : l.length ≤ 1000) :
    Calls Tryz.prog 44 #[.agg #[.int .i64 (n : Int), ev], lv] w fun e w' => ∃ nv sv, e = .returned (.tuple #[nv, sv]) ∧ Hid (Own w' w.heap.size 3 natf nv (othN n l) ∧ OwnPr w' w.heap.size sv (cst (subE es (othN n l)))) ∧ Below w.heap.size w w' := by
  obtain ⟨eo, ec, rfl, hop⟩ := he.open_
  obtain ⟨lo, lc, rfl⟩ := Sl.at_ hl
  have HE := Lib.hid he
  have HL := Lib.hid hl
  clear he hl hop
  go_enter Tryz.func44, Tryz.ntmps44
  go_wp2_with fail
  obtain ⟨w0, hw0⟩ : ∃ w0, w.alloc (.cells #[.int .i64 (n : Int), .slice eo es.length ec] 75) = w0 := ⟨_, rfl⟩
  have HW0 : Hid (Below w.heap.size w w0 ∧ BlkIs w0 w.heap.size 75 #[.int .i64 (n : Int), .slice eo es.length ec]) := by
    rw [← hw0]
    exact ⟨below_new _ _, BlkIs.new _ _ _⟩
  (try rw [hw0])
  clear hw0
  have hw00 := HW0.out.1.size
  go_loopw [6, 17] (fun o i wr => ∃ k : Nat, k ≤ n ∧ i = .int .i64 (k : Int) ∧ Below w0.heap.size w0 wr ∧ Own wr w0.heap.size 3 natf o (othN k l)) (fun _ i _ => n - (intOf i).toNat)
  case atStart => exact ⟨0, Nat.zero_le _, rfl, Below.refl _ _, Own.nil _ _ _ _⟩
  case round =>
    obtain ⟨k, hk, rfl, hBr, hown⟩ := hrel
    have HB := Lib.hid hBr
    have HO := Lib.hid hown
    clear hBr hown
    have hkl := othN_len k l
    obtain ⟨oo, oc, hoo⟩ := HO.out.shape
    subst hoo
    by_cases hk2 : k < n
    · have HCN := Lib.hid (contains_any _ l (k : Int) wr (Sl.below (Sl.below HL.out HW0.out.1) HB.out) (by omega))
      have HSN := Lib.hid (othN_succ k l)
      generalize othN k l = E1 at *
      by_cases hq : (k : Int) ∈ l
      · rw [if_pos hq, List.append_nil] at HSN
        rw [dec_yes hq] at HCN
        clear hq
        go_wp2_with fail
        refine HCN.out.mono ?_
        rintro e w9 ⟨rfl, rfl⟩
        go_wp2
        go_roundw
        case rel => exact ⟨k + 1, by omega, by go_num, HB.out, by rw [HSN.out]; exact HO.out⟩
        case measure => simp [intOf]; omega
      · rw [if_neg hq] at HSN
        rw [dec_no hq] at HCN
        have hln : E1.length + 1 ≤ 1099511627776 := by omega
        have hb0 : w0.heap.size ≤ wr.heap.size := HB.out.size
        clear hq
        go_wp2_with fail
        refine HCN.out.mono ?_
        rintro e w9 ⟨rfl, rfl⟩
        go_wp2_with (at_builtin; refine wpList_pushO wr wr.heap.size rfl rfl _ _ 24 rfl 3 8 elemInt w0.heap.size natf _ _ k rfl HO.out rfl rfl hln (by omega) hb0 ?_; intro v' w' hown' hg' hat'; have HW9 := Lib.hid hown'; have HB9 := Lib.hid (HB.out.grown hg' hb0 (fun j hj => (HO.out.lt j hj).1)); clear hown' hg' hat')
        go_roundw
        case rel => exact ⟨k + 1, by omega, by go_num, HB9.out, by rw [HSN.out]; exact HW9.out⟩
        case measure => simp [intOf]; omega
    · obtain rfl : n = k := by omega
      have c1 := (HW0.out.2.below HB.out).cell 1
      have l1 := (HW0.out.2.below HB.out).lt
      go_wp2_with fail
      obtain ⟨wo, rfl⟩ : ∃ wo : World, wo = wr := ⟨_, rfl⟩
      have HS := Lib.hid (othN_sort n l)
      generalize hNd : othN n l = nodes at *
      have HND := Lib.hid hNd
      clear hNd c1 l1 hk hk2
      have hw01 := HB.out.size
      go_loopw [8, 32] (fun o i wr => ∃ k : Nat, k ≤ es.length ∧ i = .int .i64 (k : Int) ∧ Below wo.heap.size wo wr ∧ OwnPr wr wo.heap.size o (cst (subE (es.take k) nodes))) (fun _ i _ => es.length - (intOf i).toNat)
      case atStart => exact ⟨0, Nat.zero_le _, rfl, Below.refl _ _, OwnN.nil _ _ _ _ _⟩
      case round =>
        obtain ⟨k, hk, rfl, hBr, hown⟩ := hrel
        have HB2 := Lib.hid hBr
        have HO2 := Lib.hid hown
        clear hBr hown
        have hsl := subE_len (es.take k) nodes
        rw [List.length_take] at hsl
        obtain ⟨so, sc, hso⟩ := OwnN.shape HO2.out
        rw [cst_len] at hso
        obtain ⟨sl, hsle⟩ : ∃ r, (subE (es.take k) nodes).length = r := ⟨_, rfl⟩
        rw [hsle] at hso hsl
        subst hso
        by_cases hk2 : k < es.length
        · obtain ⟨e, hek⟩ : ∃ e, es[k]? = some e := ⟨_, List.getElem?_eq_getElem hk2⟩
          obtain ⟨eb, eoff, rfl, hel, g0, g1⟩ := NPairs.edge (HE.out.below (bstep (bstep HW0.out.1 HB.out) HB2.out)) hek
          have HSN := Lib.hid (subE_snoc (nodes := nodes) hek)
          have HNB := Lib.hid (fun (x : Nat) W (hW : Below wo.heap.size wo W) => bsearch_nat (.slice oo nodes.length oc) nodes x W (HO.out.sl.below hW) HS.out (by omega))
          obtain ⟨ea, eb2⟩ := e
          simp only at g0 g1 HSN
          clear hek
          go_wp2_with fail
          refine (HNB.out ea _ (bstep HB2.out (below_new _ _))).mono ?_
          rintro en w3 ⟨p1, rfl, hp1, hb3⟩
          have HP1 := Lib.hid hp1
          have hN3 : wr.heap.size < w3.heap.size := by have := hb3.size; simp at this; omega
          have BN : Hid (BlkIs w3 wr.heap.size 33 #[.int .i64 (ea : Int), .int .i64 (eb2 : Int)]) := (BlkIs.new wr _ _).below hb3
          have HB3 := Lib.hid (bstep (below_new wr (.cells #[.int .i64 (ea : Int), .int .i64 (eb2 : Int)] 33)) hb3 : Below wr.heap.size wr w3)
          have g2 := BN.out.cell 1
          clear hb3 hp1 g0 g1
          go_wp2_with fail
          refine (HNB.out eb2 _ (bstep HB2.out HB3.out)).mono ?_
          rintro en w4 ⟨p2, rfl, hp2, hb4⟩
          have HP2 := Lib.hid hp2
          have HB4 := Lib.hid (bstep HB3.out hb4)
          have HO4 := Lib.hid (OwnN.below HO2.out HB4.out)
          clear hb4 hp2 g2
          by_cases hb : ea ∈ nodes ∧ eb2 ∈ nodes
          · have d1 : decide (ea ∈ nodes) = true := dec_yes hb.1
            have d2 : decide (eb2 ∈ nodes) = true := dec_yes hb.2
            have q1 := HP1.out hb.1
            have q2 := HP2.out hb.2
            rw [if_pos hb, ← q1, ← q2] at HSN
            rw [d1, d2]
            have hln : (cst (subE (es.take k) nodes)).length + 1 ≤ 1099511627776 := by rw [cst_len]; omega
            have hbase : wo.heap.size ≤ w4.heap.size := by have := HB2.out.size; have := HB4.out.size; omega
            have HB5 := Lib.hid (bstep HB2.out HB4.out)
            clear hb d1 d2 q1 q2 HP1 HP2
            go_wp2_with (at_builtin; refine wpList_pushAt _ w4.heap.size (by simp) rfl _ _ 27 rfl 33 2 16 elemPr wo.heap.size prCells _ _ ((p1 : Int), (p2 : Int)) _ rfl rfl (pr_one _) HO4.out rfl rfl hln (by omega) hbase ?_; intro v' w' hown' hg' hat'; have HW9 := Lib.hid hown'; have HB9 := Lib.hid (HB5.out.grown hg' hbase (fun j hj => (HO4.out.lt j hj).1)); clear hown' hg' hat')
            go_roundw
            case rel => exact ⟨k + 1, by omega, by go_num, HB9.out, by rw [HSN.out]; unfold cst; rw [List.map_append]; exact HW9.out⟩
            case measure => simp [intOf]; omega
          · rw [if_neg hb, List.append_nil] at HSN
            have HB5 := Lib.hid (bstep HB2.out HB4.out)
            rcases Decidable.em (ea ∈ nodes) with h1 | h1
            · have h2 : eb2 ∉ nodes := fun h => hb ⟨h1, h⟩
              have d1 : decide (ea ∈ nodes) = true := dec_yes h1
              have d2 : decide (eb2 ∈ nodes) = false := dec_no h2
              rw [d1, d2]
              clear hb h1 h2 d1 d2 HP1 HP2
              go_wp2
              go_roundw
              case rel => exact ⟨k + 1, by omega, by go_num, HB5.out, by rw [HSN.out]; exact HO4.out⟩
              case measure => simp [intOf]; omega
            · have d1 : decide (ea ∈ nodes) = false := dec_no h1
              rw [d1]
              clear hb h1 d1 HP1 HP2
              go_wp2
              go_roundw
              case rel => exact ⟨k + 1, by omega, by go_num, HB5.out, by rw [HSN.out]; exact HO4.out⟩
              case measure => simp [intOf]; omega
        · obtain rfl : es.length = k := by omega
          rw [List.take_length] at HO2
          go_wp2
          go_ret2
          exact ⟨.slice oo nodes.length oc, .slice so sl sc, rfl, ⟨by rw [HND.out]; exact (HO.out.below HB2.out).mono hw00, by rw [HND.out]; exact OwnN.mono HO2.out (by omega)⟩, bstep (bstep HW0.out.1 HB.out) HB2.out⟩
end
end Go.Proofs.YtamogedpgkofjaaGreat
