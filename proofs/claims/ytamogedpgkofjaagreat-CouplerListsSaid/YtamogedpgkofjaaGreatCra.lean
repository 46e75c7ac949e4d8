/-
  Couplers, reference: at, Others, graph, named, Order.
-/
import Derived.Test.YtamogedpgkofjaaGreatCqm
import Derived.Test.YtamogedpgkofjaaGreatCpr
namespace Go.Proofs.YtamogedpgkofjaaGreat
section
open Go.RowKit
set_option linter.unusedVariables false
set_option linter.unusedSimpArgs false
attribute [local go_sem ↓] Go.wp_at_zero Go.wp_at_succ

set_option maxHeartbeats 400000 in
theorem rat40_any (v : Value) (l : List Int) (x : Int) (w : World) (h : Ints w v l) (hl : l.length ≤ 140737488355328) :
    Calls Tryz.prog 54 #[v, .int .i64 x] w fun e w' => e = .returned (.int .i64 (idxOf l x)) ∧ w = w' := by
  obtain ⟨ao, cap, rfl, h⟩ := h
  go_enter Tryz.func54, Tryz.ntmps54
  go_wp2
  go_loop [5] (fun i => ∃ k : Nat, k ≤ l.length ∧ i = .int .i64 k ∧ Hid (∀ (j : Nat) y, j < k → l[j]? = some y → y ≠ x)) (fun i => l.length - (intOf i).toNat)
  case atStart => exact ⟨0, Nat.zero_le _, rfl, fun j _ hj => by omega⟩
  case round =>
    obtain ⟨k, hk, rfl, hno⟩ := hrel
    by_cases hlt : k < l.length
    · obtain ⟨b, off, rfl, _, hc⟩ := h (by omega)
      obtain ⟨y, hy⟩ : ∃ y, l[k]? = some y := ⟨_, List.getElem?_eq_getElem hlt⟩
      have hck := hc k y hy
      clear hc h
      have HY := Lib.hid hy
      clear hy
      by_cases hx : y = x
      · subst hx
        go_wp2
        go_ret
        exact ⟨ret_int (idxOf_hit l y k hno HY.out).symm, rfl⟩
      · have hxb := beq_no hx
        have HX := Lib.hid hx
        clear hx
        go_wp2
        go_round
        case rel => exact ⟨k + 1, by omega, by go_num, fun j z hj hz => by
          by_cases e : j = k
          · subst e; rw [HY.out] at hz; cases hz; exact HX.out
          · exact hno j z (by omega) hz⟩
        case measure => simp [intOf]; omega
    · clear h
      go_wp2
      go_ret
      exact ⟨ret_int (idxOf_miss l x (fun j y hy => hno j y (by have := (List.getElem?_eq_some_iff.1 hy).1; omega) hy)).symm, rfl⟩
theorem idxOf_lt {l : List Int} {x : Int} : decide (idxOf l x < 0) = decide (x ∉ l) := by
  have h := idxOf_mem l x
  by_cases hx : x ∈ l
  · rw [dec_yes hx, decide_eq_true_eq] at h
    rw [dec_no (by omega), dec_no (fun h => h hx)]
  · rw [dec_no hx, decide_eq_false_iff_not] at h
    rw [dec_yes (by omega), dec_yes hx]
theorem idxOf_nat {l : List Nat} {x : Nat} (h : x ∈ l) : idxOf (ntI l) (x : Int) = (l.idxOf x : Int) := by
  refine idxOf_hit _ _ _ (fun j y hj hy => ?_) ?_
  · unfold ntI at hy
    rw [List.getElem?_map] at hy
    cases hz : l[j]? with
    | none => rw [hz] at hy; cases hy
    | some z =>
      rw [hz] at hy
      simp only [Option.map_some, Option.some.injEq] at hy
      rintro rfl
      have h1 : z = x := by omega
      subst h1
      obtain ⟨h2, h3⟩ := List.getElem?_eq_some_iff.1 hz
      have h4 := List.not_of_lt_findIdx (p := fun y => y == z) (xs := l) hj
      rw [h3] at h4
      simp at h4
  · unfold ntI
    rw [List.getElem?_map, idx_at h]; rfl
theorem idxOf_none {l : List Nat} {x : Nat} (h : x ∉ l) : idxOf (ntI l) (x : Int) = -1 := idxOf_miss _ _ fun j y hy he => by
  subst he
  exact h (ntI_mem.1 (List.mem_of_getElem? hy))
set_option maxRecDepth 100000 in
set_option maxHeartbeats 2000000 in
theorem roth40_any (n : Nat) (lv : Value) (l : List Int) (w : World) (hn : n ≤ 60) (hl : Ints w lv l) (hll : l.length ≤ 1000) :
    Calls Tryz.prog 55 #[.int .i64 (n : Int), lv] w fun e w' => ∃ nv, e = .returned nv ∧ Hid (Own w' w.heap.size 3 natf nv (othN n l)) ∧ Below w.heap.size w w' := by
  obtain ⟨lo, lc, rfl⟩ := Sl.at_ hl
  have HL := Lib.hid hl
  clear hl
  go_enter Tryz.func55, Tryz.ntmps55
  go_wp2_with fail
  go_loopw [5, 6] (fun o i wr => ∃ k : Nat, k ≤ n ∧ i = .int .i64 (k : Int) ∧ Below w.heap.size w wr ∧ Own wr w.heap.size 3 natf o (othN k l)) (fun _ i _ => n - (intOf i).toNat)
  case atStart => exact ⟨0, Nat.zero_le _, rfl, Below.refl _ _, Own.nil _ _ _ _⟩
  case round =>
    obtain ⟨k, hk, rfl, hBr, hown⟩ := hrel
    have HB := Lib.hid hBr
    have HO := Lib.hid hown
    clear hBr hown
    have hkl := othN_len k l
    obtain ⟨oo, oc, hoo⟩ := HO.out.shape
    subst hoo
    by_cases hk2 : k < n
    · have HCN := Lib.hid (rat40_any _ l (k : Int) wr (Sl.below HL.out HB.out) (by omega))
      have HSN := Lib.hid (othN_succ k l)
      have HIX := Lib.hid (idxOf_lt (l := l) (x := (k : Int)))
      generalize othN k l = E1 at *
      generalize idxOf l (k : Int) = ix at *
      by_cases hq : (k : Int) ∈ l
      · rw [if_pos hq, List.append_nil] at HSN
        have d1 : decide (ix < 0) = false := HIX.out.trans (dec_no (fun h => h hq))
        clear hq
        go_wp2_with fail
        refine HCN.out.mono ?_
        rintro e w9 ⟨rfl, rfl⟩
        go_wp2
        go_roundw
        case rel => exact ⟨k + 1, by omega, by go_num, HB.out, by rw [HSN.out]; exact HO.out⟩
        case measure => simp [intOf]; omega
      · rw [if_neg hq] at HSN
        have d1 : decide (ix < 0) = true := HIX.out.trans (dec_yes hq)
        have hln : E1.length + 1 ≤ 1099511627776 := by omega
        have hb0 : w.heap.size ≤ wr.heap.size := HB.out.size
        clear hq
        go_wp2_with fail
        refine HCN.out.mono ?_
        rintro e w9 ⟨rfl, rfl⟩
        go_wp2_with (at_builtin; refine wpList_pushO wr wr.heap.size rfl rfl _ _ 24 rfl 3 8 elemInt w.heap.size natf _ _ k rfl HO.out rfl rfl hln (by omega) hb0 ?_; intro v' w' hown' hg' hat'; have HW9 := Lib.hid hown'; have HB9 := Lib.hid (HB.out.grown hg' hb0 (fun j hj => (HO.out.lt j hj).1)); clear hown' hg' hat')
        go_roundw
        case rel => exact ⟨k + 1, by omega, by go_num, HB9.out, by rw [HSN.out]; exact HW9.out⟩
        case measure => simp [intOf]; omega
    · obtain rfl : n = k := by omega
      generalize (othN n l).length = ol at *
      go_wp2
      go_ret
      exact ⟨_, rfl, HO.out, HB.out⟩
set_option maxHeartbeats 1000000 in
theorem rnamed40_any (nv pv : Value) (nodes places : List Nat) (w : World) (hn : Nats w nv nodes) (hp : Nats w pv places) (hl : places.length ≤ 1000) (hi : ∀ i ∈ places, i < nodes.length) :
    Calls Tryz.prog 58 #[nv, pv] w fun e w' => ∃ o, e = .returned o ∧ Hid (Own w' w.heap.size 3 natf o (namN nodes places)) ∧ Below w.heap.size w w' := by
  obtain ⟨no, nc, rfl⟩ := Sl.at_ hn
  obtain ⟨po, pc, rfl⟩ := Sl.at_ hp
  have HN := Lib.hid hn
  have HP := Lib.hid hp
  have HI := Lib.hid hi
  clear hn hp hi
  go_enter Tryz.func58, Tryz.ntmps58
  go_wp2_with fail
  go_loopw [5, 6] (fun o i wr => ∃ k : Nat, k ≤ places.length ∧ i = .int .i64 (k : Int) ∧ Below w.heap.size w wr ∧ Own wr w.heap.size 3 natf o (namN nodes (places.take k))) (fun _ i _ => places.length - (intOf i).toNat)
  case atStart => exact ⟨0, Nat.zero_le _, rfl, Below.refl _ _, Own.nil _ _ _ _⟩
  case round =>
    obtain ⟨k, hk, rfl, hBr, hown⟩ := hrel
    have HB := Lib.hid hBr
    have HO := Lib.hid hown
    clear hBr hown
    by_cases hk2 : k < places.length
    · obtain ⟨i, hi⟩ : ∃ y, places[k]? = some y := ⟨_, List.getElem?_eq_getElem hk2⟩
      have hin := HI.out i (List.mem_of_getElem? hi)
      obtain ⟨x, hx⟩ : ∃ y, nodes[i]? = some y := ⟨_, List.getElem?_eq_getElem hin⟩
      obtain ⟨pb, poff, rfl, hpb, g0⟩ := nats_get (Sl.below HP.out HB.out : Nats wr _ places) hi
      obtain ⟨nb, noff, rfl, hnb, g1⟩ := nats_get (Sl.below HN.out HB.out : Nats wr _ nodes) hx
      have HSN := Lib.hid (namN_snoc (nodes := nodes) hi)
      have hxe : nodes.getD i 0 = x := by rw [List.getD_eq_getElem?_getD, hx]; rfl
      rw [hxe] at HSN
      have i0 : (0 : Int) ≤ (i : Int) := Int.natCast_nonneg _
      have i1 : (i : Int) < (nodes.length : Int) := by omega
      have hnl := namN_len nodes (places.take k)
      rw [List.length_take] at hnl
      have hln : (namN nodes (places.take k)).length + 1 ≤ 1099511627776 := by omega
      have hb0 : w.heap.size ≤ wr.heap.size := HB.out.size
      obtain ⟨oo, oc, hoo⟩ := HO.out.shape
      subst hoo
      generalize hE1 : namN nodes (places.take k) = E1 at *
      clear hi hx hE1 hxe hnl
      go_wp2_with (at_builtin; refine wpList_pushO wr wr.heap.size rfl rfl _ _ 24 rfl 3 8 elemInt w.heap.size natf _ _ x rfl HO.out rfl rfl hln (by omega) hb0 ?_; intro v' w' hown' hg' hat'; have HW9 := Lib.hid hown'; have HB9 := Lib.hid (HB.out.grown hg' hb0 (fun j hj => (HO.out.lt j hj).1)); clear hown' hg' hat')
      go_roundw
      case rel => exact ⟨k + 1, by omega, by go_num, HB9.out, by rw [HSN.out]; exact HW9.out⟩
      case measure => simp [intOf]; omega
    · obtain rfl : places.length = k := by omega
      rw [List.take_length] at HO
      obtain ⟨oo, oc, hoo⟩ := HO.out.shape
      subst hoo
      generalize (namN nodes places).length = nl at *
      go_wp2
      go_ret
      exact ⟨_, rfl, HO.out, HB.out⟩
set_option maxRecDepth 100000 in
set_option maxHeartbeats 2000000 in
theorem rgraph40_any (ev nv : Value) (es : List (Nat × Nat)) (nodes : List Nat) (w : World) (he : NPairs w ev es) (hes : es.length ≤ 1000) (hn : Nats w nv nodes) (hnl : nodes.length ≤ 1000) :
    Calls Tryz.prog 57 #[ev, nv] w fun e w' => ∃ sv, e = .returned sv ∧ Hid (OwnPr w' w.heap.size sv (cst (subE es nodes))) ∧ Below w.heap.size w w' := by
  obtain ⟨eo, ec, rfl, hop⟩ := he.open_
  obtain ⟨no, nc, rfl⟩ := Sl.at_ hn
  have HE := Lib.hid he
  have HN := Lib.hid (Sl.map_ hn (fun k : Nat => (k : Int)) (fun _ => rfl) : Ints w (.slice no nodes.length nc) (ntI nodes))
  clear he hn hop
  go_enter Tryz.func57, Tryz.ntmps57
  go_wp2_with fail
  go_loopw [5, 6] (fun o i wr => ∃ k : Nat, k ≤ es.length ∧ i = .int .i64 (k : Int) ∧ Below w.heap.size w wr ∧ OwnPr wr w.heap.size o (cst (subE (es.take k) nodes))) (fun _ i _ => es.length - (intOf i).toNat)
  case atStart => exact ⟨0, Nat.zero_le _, rfl, Below.refl _ _, OwnN.nil _ _ _ _ _⟩
  case round =>
    obtain ⟨k, hk, rfl, hBr, hown⟩ := hrel
    have HB2 := Lib.hid hBr
    have HO2 := Lib.hid hown
    clear hBr hown
    have hsl := subE_len (es.take k) nodes
    rw [List.length_take] at hsl
    obtain ⟨so, sc, hso⟩ := OwnN.shape HO2.out
    rw [cst_len] at hso
    obtain ⟨sl, hsle⟩ : ∃ r, (subE (es.take k) nodes).length = r := ⟨_, rfl⟩
    rw [hsle] at hso hsl
    subst hso
    by_cases hk2 : k < es.length
    · obtain ⟨e, hek⟩ : ∃ e, es[k]? = some e := ⟨_, List.getElem?_eq_getElem hk2⟩
      obtain ⟨eb, eoff, rfl, hel, g0, g1⟩ := NPairs.edge (HE.out.below HB2.out) hek
      have HSN := Lib.hid (subE_snoc (nodes := nodes) hek)
      obtain ⟨ea, eb2⟩ := e
      simp only at g0 g1 HSN
      have HA1 := Lib.hid (fun (W : World) (hW : Below w.heap.size w W) => rat40_any (.slice no nodes.length nc) (ntI nodes) (ea : Int) W (HN.out.below hW) (by rw [ntI_len]; omega))
      have HA2 := Lib.hid (fun (W : World) (hW : Below w.heap.size w W) => rat40_any (.slice no nodes.length nc) (ntI nodes) (eb2 : Int) W (HN.out.below hW) (by rw [ntI_len]; omega))
      have c0 := fun d os => cell_regrown g0 d os
      have c1 := fun d os => cell_regrown g1 d os
      clear hek
      by_cases hb : ea ∈ nodes ∧ eb2 ∈ nodes
      · rw [idxOf_nat hb.1] at HA1
        rw [idxOf_nat hb.2] at HA2
        rw [if_pos hb] at HSN
        generalize nodes.idxOf ea = p1 at *
        generalize nodes.idxOf eb2 = p2 at *
        clear hb
        have HQ1 := Lib.hid (fun (d : Nat) (os : Array Obj) => regrown_pure (d := d) (os := os) (w := wr) (HA1.out (Go.Sort.grow (redrawn wr d) os) (bstep HB2.out (below_regrown wr d os))))
        have HQ2 := Lib.hid (fun (d : Nat) (os : Array Obj) => regrown_pure (d := d) (os := os) (w := wr) (HA2.out (Go.Sort.grow (redrawn wr d) os) (bstep HB2.out (below_regrown wr d os))))
        clear HA1 HA2
        go_wp2
        refine wp_region_quiet_below (by kernel_rfl) (by kernel_rfl) ?_
        repeat (go_big_quiet_step ((first
          | (go_at_call 54; with_reducible exact HQ1.out _ _)
          | (go_at_call 54; with_reducible exact HQ2.out _ _))))
        refine wpQuiet_nil ?_
        intro _ hw'
        obtain ⟨⟨nq, osq⟩, hw''⟩ := hw'
        subst hw''
        have HB5 := Lib.hid (bstep HB2.out (below_regrown wr nq osq))
        have HO5 := Lib.hid (OwnN.below HO2.out (below_regrown wr nq osq))
        generalize Go.Sort.grow (redrawn wr nq) osq = w5 at *
        clear HQ1 HQ2 c0 c1 g0 g1
        have d1 : decide ((0 : Int) ≤ (p1 : Int)) = true := dec_yes (by omega)
        have d2 : decide ((0 : Int) ≤ (p2 : Int)) = true := dec_yes (by omega)
        have hln : (cst (subE (es.take k) nodes)).length + 1 ≤ 1099511627776 := by rw [cst_len]; omega
        have hbase : w.heap.size ≤ w5.heap.size := HB5.out.size
        go_wp2_with (at_builtin; refine wpList_pushAt _ w5.heap.size (by simp) rfl _ _ 27 rfl 33 2 16 elemPr w.heap.size prCells _ _ ((p1 : Int), (p2 : Int)) _ rfl rfl (pr_one _) HO5.out rfl rfl hln (by omega) hbase ?_; intro v' w' hown' hg' hat'; have HW9 := Lib.hid hown'; have HB9 := Lib.hid (HB5.out.grown hg' hbase (fun j hj => (HO5.out.lt j hj).1)); clear hown' hg' hat')
        go_roundw
        case rel => exact ⟨k + 1, by omega, by go_num, HB9.out, by rw [HSN.out]; unfold cst; rw [List.map_append]; exact HW9.out⟩
        case measure => simp [intOf]; omega
      · rw [if_neg hb, List.append_nil] at HSN
        rcases Decidable.em (ea ∈ nodes) with h1 | h1
        · have h2 : eb2 ∉ nodes := fun h => hb ⟨h1, h⟩
          rw [idxOf_nat h1] at HA1
          rw [idxOf_none h2] at HA2
          generalize nodes.idxOf ea = p1 at *
          clear hb h1 h2
          have HQ1 := Lib.hid (fun (d : Nat) (os : Array Obj) => regrown_pure (d := d) (os := os) (w := wr) (HA1.out (Go.Sort.grow (redrawn wr d) os) (bstep HB2.out (below_regrown wr d os))))
          have HQ2 := Lib.hid (fun (d : Nat) (os : Array Obj) => regrown_pure (d := d) (os := os) (w := wr) (HA2.out (Go.Sort.grow (redrawn wr d) os) (bstep HB2.out (below_regrown wr d os))))
          clear HA1 HA2
          go_wp2
          refine wp_region_quiet_below (by kernel_rfl) (by kernel_rfl) ?_
          repeat (go_big_quiet_step ((first
            | (go_at_call 54; with_reducible exact HQ1.out _ _)
            | (go_at_call 54; with_reducible exact HQ2.out _ _))))
          refine wpQuiet_nil ?_
          intro _ hw'
          obtain ⟨⟨nq, osq⟩, hw''⟩ := hw'
          subst hw''
          have HB5 := Lib.hid (bstep HB2.out (below_regrown wr nq osq))
          have HO5 := Lib.hid (OwnN.below HO2.out (below_regrown wr nq osq))
          generalize Go.Sort.grow (redrawn wr nq) osq = w5 at *
          clear HQ1 HQ2 c0 c1 g0 g1
          have d1 : decide ((0 : Int) ≤ (p1 : Int)) = true := dec_yes (by omega)
          go_wp2
          go_roundw
          case rel => exact ⟨k + 1, by omega, by go_num, HB5.out, by rw [HSN.out]; exact HO5.out⟩
          case measure => simp [intOf]; omega
        · rw [idxOf_none h1] at HA1
          obtain ⟨i2, hi2⟩ : ∃ i2, idxOf (ntI nodes) (eb2 : Int) = i2 := ⟨_, rfl⟩
          rw [hi2] at HA2
          clear hb h1 hi2
          have HQ1 := Lib.hid (fun (d : Nat) (os : Array Obj) => regrown_pure (d := d) (os := os) (w := wr) (HA1.out (Go.Sort.grow (redrawn wr d) os) (bstep HB2.out (below_regrown wr d os))))
          have HQ2 := Lib.hid (fun (d : Nat) (os : Array Obj) => regrown_pure (d := d) (os := os) (w := wr) (HA2.out (Go.Sort.grow (redrawn wr d) os) (bstep HB2.out (below_regrown wr d os))))
          clear HA1 HA2
          go_wp2
          refine wp_region_quiet_below (by kernel_rfl) (by kernel_rfl) ?_
          repeat (go_big_quiet_step ((first
            | (go_at_call 54; with_reducible exact HQ1.out _ _)
            | (go_at_call 54; with_reducible exact HQ2.out _ _))))
          refine wpQuiet_nil ?_
          intro _ hw'
          obtain ⟨⟨nq, osq⟩, hw''⟩ := hw'
          subst hw''
          have HB5 := Lib.hid (bstep HB2.out (below_regrown wr nq osq))
          have HO5 := Lib.hid (OwnN.below HO2.out (below_regrown wr nq osq))
          generalize Go.Sort.grow (redrawn wr nq) osq = w5 at *
          clear HQ1 HQ2 c0 c1 g0 g1
          go_wp2
          go_roundw
          case rel => exact ⟨k + 1, by omega, by go_num, HB5.out, by rw [HSN.out]; exact HO5.out⟩
          case measure => simp [intOf]; omega
    · obtain rfl : es.length = k := by omega
      rw [List.take_length] at HO2
      obtain rfl : (subE es nodes).length = sl := by rw [← hsle, List.take_length]
      generalize (subE es nodes).length = sl at *
      go_wp2
      go_ret
      exact ⟨_, rfl, HO2.out, HB2.out⟩
end
end Go.Proofs.YtamogedpgkofjaaGreat
