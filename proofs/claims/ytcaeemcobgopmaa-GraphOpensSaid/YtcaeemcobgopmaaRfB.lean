/-
  Reference 05: InForest, Forest, Bridges, All.
-/
import Derived.Test.YtcaeemcobgopmaaRfA
namespace Go.Proofs.Ytcaeemcobgopmaa
open Go.RowKit
set_option linter.unusedVariables false

/-- An edge's two cells. -/
theorem NPairs.edge {w : World} {ao : Option Addr} {len cap i : Nat} {ns : List (Nat × Nat)} {e : Nat × Nat} (h : NPairs w (.slice ao len cap) ns) (he : ns[i]? = some e) :
    ∃ b off, ao = some ⟨b, off, none⟩ ∧ b < w.heap.size ∧ w.cell? ⟨b, off + i * 2, none⟩ = some (.int .i64 (e.1 : Int)) ∧ w.cell? ⟨b, off + i * 2 + 1, none⟩ = some (.int .i64 (e.2 : Int)) := by
  obtain ⟨ao', cap', hv, h2⟩ := h.open_
  cases hv
  obtain ⟨b, off, rfl, hlt, hc⟩ := h2 (by have := (List.getElem?_eq_some_iff.1 he).1; omega)
  exact ⟨b, off, rfl, hlt, hc i e he⟩

theorem labelsOf_get {n : Nat} (es : List (Nat × Nat)) {i : Nat} (hi : i < n) : (labelsOf n es)[i]? = some (lbl es i) := by
  unfold labelsOf
  rw [List.getElem?_map, List.getElem?_range hi]; rfl
theorem labelsOf_len (n : Nat) (es : List (Nat × Nat)) : (labelsOf n es).length = n := by simp [labelsOf]

set_option maxHeartbeats 400000 in
theorem inForest_any (n i : Nat) (v : Value) (ns : List (Nat × Nat)) (w : World) (hg : Gr w n v ns) (hi : i < ns.length) :
    Calls Try.prog 51 #[.int .i64 (n : Int), v, .int .i64 (i : Int)] w fun e w' => e = .returned (.bool (inForest ns i)) ∧ Below w.heap.size w w' := by
  have hn := hg.n_le
  have hm := hg.m_le
  have HG := Lib.hid hg
  obtain ⟨⟨x, y⟩, hy⟩ : ∃ y, ns[i]? = some y := ⟨_, List.getElem?_eq_getElem (by omega)⟩
  have hends := hg.ends i _ hy
  have HF : Hid (inForest ns i = decide (lbl (ns.take i) x ≠ lbl (ns.take i) y)) := by unfold inForest; rw [hy]; exact rfl
  have HY := Lib.hid hy
  clear hg hy
  obtain ⟨ao, cap, rfl, _⟩ := HG.out.pairs.open_
  simp only at hends
  obtain ⟨hx1, hy1, _⟩ := hends
  go_enter Try.func51, Try.ntmps51
  go_wp2_with fail
  refine (labels_any n i (-1) _ ns _ hn hm HG.out.pairs HG.out.ends (by omega)).mono ?_
  rintro e w1 ⟨u, rfl, hu, hb1⟩
  obtain ⟨g, ucap, rfl, hgl, _⟩ := hu.form (by rw [labelsOf_len]; omega)
  rw [labelsOf_len]
  rw [labelsOf_len] at hu
  have c1 := hu.cell (labelsOf_get _ hx1)
  have c2 := hu.cell (labelsOf_get _ hy1)
  rw [lbl_sel_take] at c1 c2
  obtain ⟨b, off, rfl, hbl, d1, d2⟩ := (HG.out.pairs.below hb1).edge HY.out
  unfold natf at c1 c2
  obtain ⟨p, hp⟩ : ∃ p, lbl (ns.take i) x = p := ⟨_, rfl⟩
  obtain ⟨q, hq⟩ : ∃ p, lbl (ns.take i) y = p := ⟨_, rfl⟩
  rw [hp] at c1 HF
  rw [hq] at c2 HF
  clear hp hq hu
  have i0 : (0 : Int) ≤ (i : Int) := Int.natCast_nonneg _
  have i1 : (i : Int) < (ns.length : Int) := by omega
  have x0 : (0 : Int) ≤ (x : Int) := Int.natCast_nonneg _
  have x1 : (x : Int) < (n : Int) := by omega
  have y0 : (0 : Int) ≤ (y : Int) := Int.natCast_nonneg _
  have y1 : (y : Int) < (n : Int) := by omega
  by_cases hpq : p = q
  · subst hpq
    have e1 := bne_no (show (p : Int) = (p : Int) from rfl)
    go_wp2
    go_quiet (fail)
    go_wp2
    go_ret
    exact ⟨ret_bool (by rw [HF.out]; simp), below_drewN' hb1 _⟩
  · have e1 := bne_yes (show (p : Int) ≠ (q : Int) by omega)
    have HP := Lib.hid hpq
    clear hpq
    go_wp2
    go_quiet (fail)
    go_wp2
    go_ret
    exact ⟨ret_bool (by rw [HF.out, dec_yes HP.out]), below_drewN' hb1 _⟩

theorem inF_get {ns : List (Nat × Nat)} {k : Nat} (h : k < ns.length) : (inF ns)[k]? = some (inForest ns k) := by
  unfold inF
  rw [List.getElem?_map, List.getElem?_range h]; rfl
theorem idxs_len (l : List Bool) (want : Bool) : (idxs l want).length ≤ l.length := by
  unfold idxs
  refine Nat.le_trans (List.length_filter_le _ _) ?_
  simp

set_option maxHeartbeats 400000 in
theorem rforest_any (n : Nat) (v : Value) (ns : List (Nat × Nat)) (w : World) (hg : Gr w n v ns) :
    Calls Try.prog 22 #[.int .i64 (n : Int), v] w fun e w' => ∃ u, e = .returned u ∧ Own w' w.heap.size 3 natf u (forestOf ns) ∧ Below w.heap.size w w' := by
  have hn := hg.n_le
  have hm := hg.m_le
  have HG := Lib.hid hg
  clear hg
  obtain ⟨ao, cap, rfl, _⟩ := HG.out.pairs.open_
  go_enter Try.func22, Try.ntmps22
  go_wp2_with fail
  go_loopw [5, 6] (fun v i wr => ∃ k : Nat, k ≤ ns.length ∧ i = .int .i64 k ∧ Hid (Own wr w.heap.size 3 natf v (idxs ((inF ns).take k) true)) ∧ Below w.heap.size w wr) (fun _ i _ => ns.length - (intOf i).toNat)
  case atStart => exact ⟨0, Nat.zero_le _, rfl, Own.nil _ _ _ _, Below.refl _ _⟩
  case round =>
    obtain ⟨k, hk, rfl, hv, hB⟩ := hrel
    by_cases hlt : k < ns.length
    · have HN := Lib.hid (idxs_snoc (inF ns) true k _ (inF_get hlt))
      have HC := Lib.hid (inForest_any n k _ ns _ (HG.out.below hB) hlt)
      have hlen : (idxs ((inF ns).take k) true).length + 1 ≤ 1099511627776 := by
        have := idxs_len ((inF ns).take k) true
        rw [List.length_take, inF_len] at this
        omega
      obtain ⟨f, hf⟩ : ∃ f, inForest ns k = f := ⟨_, rfl⟩
      rw [hf] at HN HC
      clear hf
      go_wp2_with fail
      refine HC.out.mono ?_
      rintro e w1 ⟨rfl, hb1⟩
      have hB1 := bstep hB hb1
      have hz1 := hB1.size
      have HV := Lib.hid (Own.below hv.out hb1)
      have hvl := HV.out.lt
      clear hv hB hb1
      cases f
      · go_wp2
        go_roundw
        case rel => exact ⟨k + 1, by omega, by go_num, by rw [HN.out]; exact HV.out, hB1⟩
        case measure => simp [intOf]; omega
      · skip
        go_wp2_with (first
          | (at_builtin; refine wpList_push w1 rfl _ _ 25 rfl 3 8 elemInt w.heap.size natf _ _ k rfl HV.out rfl rfl hlen (by omega) hz1 ?_; intro v' w' hown' hg _))
        go_roundw
        case rel => exact ⟨k + 1, by omega, by go_num, by rw [HN.out, if_pos trivial]; exact hown', below_grown hB1 hg hz1 (fun g hg => (hvl g hg).1)⟩
        case measure => simp [intOf]; omega
    · go_wp2
      go_ret
      have hkl : (inF ns).take k = inF ns := List.take_of_length_le (by rw [inF_len]; omega)
      rw [hkl] at hv
      exact ⟨_, rfl, hv.out, hB⟩

def rbridges (ns : List (Nat × Nat)) : List Nat := (List.range ns.length).filter (bridge ns)

theorem bridgesOf_eq {n : Nat} {ns : List (Nat × Nat)} (he : Ends n ns) (hm : ns.length ≤ 4000) : bridgesOf n ns = rbridges ns := by
  unfold bridgesOf rbridges
  rw [besTo_all_ok he (besTo_rowOk he hm)]
  unfold idxs
  rw [List.length_map, List.length_range]
  refine List.filter_congr fun j hj => ?_
  have hj := List.mem_range.1 hj
  simp [List.getD, hj]

set_option maxHeartbeats 400000 in
theorem rbridges_any (n : Nat) (v : Value) (ns : List (Nat × Nat)) (w : World) (hg : Gr w n v ns) :
    Calls Try.prog 16 #[.int .i64 (n : Int), v] w fun e w' => ∃ u, e = .returned u ∧ Own w' w.heap.size 3 natf u (rbridges ns) ∧ Below w.heap.size w w' := by
  have hn := hg.n_le
  have hm := hg.m_le
  have HG := Lib.hid hg
  clear hg
  obtain ⟨ao, cap, rfl, _⟩ := HG.out.pairs.open_
  go_enter Try.func16, Try.ntmps16
  go_wp2_with fail
  go_loopw [5, 6, 7] (fun v i _ wr => ∃ k : Nat, k ≤ ns.length ∧ i = .int .i64 k ∧ Hid (Own wr w.heap.size 3 natf v ((List.range k).filter (bridge ns))) ∧ Below w.heap.size w wr) (fun _ i _ _ => ns.length - (intOf i).toNat)
  case atStart => exact ⟨0, Nat.zero_le _, rfl, Own.nil _ _ _ _, Below.refl _ _⟩
  case round =>
    obtain ⟨k, hk, rfl, hv, hB⟩ := hrel
    by_cases hlt : k < ns.length
    · have HG1 := Lib.hid (HG.out.below hB)
      have HC := Lib.hid (labels_any n ns.length k _ ns _ hn hm HG1.out.pairs HG1.out.ends (Nat.le_refl _))
      have hlen : ((List.range k).filter (bridge ns)).length + 1 ≤ 1099511627776 := by
        have := List.length_filter_le (bridge ns) (List.range k)
        rw [List.length_range] at this
        omega
      obtain ⟨⟨x, y⟩, hy⟩ : ∃ y, ns[k]? = some y := ⟨_, List.getElem?_eq_getElem (by omega)⟩
      have hends := HG.out.ends k _ hy
      simp only at hends
      obtain ⟨hx1, hy1, _⟩ := hends
      have HF : Hid (bridge ns k = decide (lbl (without ns k) x ≠ lbl (without ns k) y)) := by unfold bridge; rw [hy]; exact rfl
      have HY := Lib.hid hy
      have HN := Lib.hid (show (List.range (k + 1)).filter (bridge ns) = if bridge ns k then (List.range k).filter (bridge ns) ++ [k] else (List.range k).filter (bridge ns) by
        rw [List.range_succ, List.filter_append, List.filter_cons, List.filter_nil]
        cases bridge ns k <;> simp)
      clear hy
      go_wp2_with fail
      refine HC.out.mono ?_
      rintro e w1 ⟨u, rfl, hu, hb1⟩
      obtain ⟨g, ucap, rfl, hgl, _⟩ := hu.form (by rw [labelsOf_len]; omega)
      rw [labelsOf_len]
      rw [labelsOf_len] at hu
      have c1 := hu.cell (labelsOf_get _ hx1)
      have c2 := hu.cell (labelsOf_get _ hy1)
      rw [lbl_sel_without] at c1 c2
      obtain ⟨b, off, rfl, hbl, d1, d2⟩ := (HG1.out.pairs.below hb1).edge HY.out
      unfold natf at c1 c2
      obtain ⟨p, hp⟩ : ∃ p, lbl (without ns k) x = p := ⟨_, rfl⟩
      obtain ⟨q, hq⟩ : ∃ p, lbl (without ns k) y = p := ⟨_, rfl⟩
      rw [hp] at c1 HF
      rw [hq] at c2 HF
      clear hp hq hu
      have i0 : (0 : Int) ≤ (k : Int) := Int.natCast_nonneg _
      have i1 : (k : Int) < (ns.length : Int) := by omega
      have x0 : (0 : Int) ≤ (x : Int) := Int.natCast_nonneg _
      have x1 : (x : Int) < (n : Int) := by omega
      have y0 : (0 : Int) ≤ (y : Int) := Int.natCast_nonneg _
      have y1 : (y : Int) < (n : Int) := by omega
      have hB1 := bstep hB hb1
      have hz1 := hB1.size
      have HV := Lib.hid (Own.below hv.out hb1)
      have hvl := HV.out.lt
      clear hv hB hb1
      by_cases hpq : p = q
      · subst hpq
        have e1 := bne_no (show (p : Int) = (p : Int) from rfl)
        go_wp2
        go_quiet (fail)
        go_wp2
        go_roundw
        case rel => exact ⟨k + 1, by omega, by go_num, by rw [HN.out, if_neg (by rw [HF.out]; simp)]; exact HV.out.drawN _, below_drewN' hB1 _⟩
        case measure => simp [intOf]; omega
      · have e1 := bne_yes (show (p : Int) ≠ (q : Int) by omega)
        have HP := Lib.hid hpq
        clear hpq
        go_wp2
        go_quiet (fail)
        generalize hW : World.drewN w1 _ = W2
        have HV2 : Hid (Own W2 w.heap.size 3 natf u5 ((List.range k).filter (bridge ns))) := by rw [← hW]; exact HV.out.drawN _
        have hB2 : Below w.heap.size w W2 := by rw [← hW]; exact below_drewN' hB1 _
        have hz2 := hB2.size
        clear hW d1 d2 c1 c2
        go_wp2_with (first
          | (at_builtin; refine wpList_push W2 rfl _ _ 25 rfl 3 8 elemInt w.heap.size natf _ _ k rfl HV2.out rfl rfl hlen (by omega) hz2 ?_; intro v' w' hown' hg _))
        go_roundw
        case rel => exact ⟨k + 1, by omega, by go_num, by rw [HN.out, if_pos (by rw [HF.out]; exact dec_yes HP.out)]; exact hown', below_grown hB2 hg hz2 (fun g hg => (hvl g hg).1)⟩
        case measure => simp [intOf]; omega
    · obtain rfl : k = ns.length := by omega
      go_wp2
      go_ret
      exact ⟨_, rfl, hv.out, hB⟩

set_option maxHeartbeats 400000 in
theorem all_any (v : Value) (ns : List (Nat × Nat)) (w : World) (hp : NPairs w v ns) (hm : ns.length ≤ 4000) :
    Calls Try.prog 45 #[v] w fun e w' => ∃ u, e = .returned u ∧ Own w' w.heap.size 3 natf u (List.range ns.length) ∧ Below w.heap.size w w' := by
  obtain ⟨ao, cap, rfl, h⟩ := hp.open_
  clear h hp
  go_enter Try.func45, Try.ntmps45
  go_wp2
  go_loopw [3, 4] (fun v i wr => ∃ k : Nat, k ≤ ns.length ∧ i = .int .i64 k ∧ Own wr w.heap.size 3 natf v (List.range k) ∧ Below w.heap.size w wr) (fun _ i _ => ns.length - (intOf i).toNat)
  case atStart => exact ⟨0, Nat.zero_le _, rfl, Own.nil _ _ _ _, Below.refl _ _⟩
  case round =>
    obtain ⟨k, hk, rfl, hown, hB⟩ := hrel
    have hz := hB.size
    by_cases hlt : k < ns.length
    · have hl : (List.range k).length + 1 ≤ 1099511627776 := by simp; omega
      have hrb := (hown.lt)
      have HR := Lib.hid (List.range_succ (n := k))
      go_wp2_with (first
        | (at_builtin; refine wpList_push wr rfl _ _ 25 rfl 3 8 elemInt w.heap.size natf _ (List.range k) k rfl hown rfl rfl hl (by omega) hz ?_; intro v' w' hown' hg _))
      go_roundw
      case rel => exact ⟨k + 1, by omega, by go_num, by rw [HR.out]; exact hown', below_grown hB hg hz (fun g hg => (hrb g hg).1)⟩
      case measure => simp [intOf]; omega
    · obtain rfl : k = ns.length := by omega
      go_wp2
      go_ret
      exact ⟨_, rfl, hown, hB⟩
end Go.Proofs.Ytcaeemcobgopmaa
