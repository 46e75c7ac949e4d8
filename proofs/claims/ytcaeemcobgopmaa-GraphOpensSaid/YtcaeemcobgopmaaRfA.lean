/-
  Reference 05: Valid, Labels.
-/
import Derived.Test.YtcaeemcobgopmaaGrF
import Derived.Test.YtcaeemcobgopmaaRfL
import Derived.Deep.LoopGhost
import Derived.Outline
namespace Go.Proofs.Ytcaeemcobgopmaa
open Go.RowKit
set_option linter.unusedVariables false

set_option maxHeartbeats 400000 in
theorem rvalid_any (n : Int) (v : Value) (l : List (Int × Int)) (w : World) (hp : Pairs w v l) (hl : l.length ≤ 140737488355328) :
    Calls Try.prog 15 #[.int .i64 n, v] w fun e w' => e = .returned (.bool (vld n l)) ∧ Below w.heap.size w w' := by
  obtain ⟨ao, cap, rfl, h⟩ := hp
  by_cases hh : 0 ≤ n ∧ n ≤ 1000 ∧ l.length ≤ 4000
  · have E := Lib.hid (show vld n l = !l.any (badE n) by rw [vld, dec_yes hh]; simp)
    obtain ⟨h1, h2, h3⟩ := hh
    go_enter Try.func15, Try.ntmps15
    have d1 : decide (n < 0) = false := dec_no (by omega)
    have d2 : decide (1000 < n) = false := dec_no (by omega)
    have d3 : decide (4000 < (l.length : Int)) = false := dec_no (by omega)
    go_wp2_with fail
    go_loopw [5] (fun i wr => ∃ k : Nat, k ≤ l.length ∧ i = .int .i64 k ∧ Below w.heap.size w wr ∧ Hid (∀ (j : Nat) y, j < k → l[j]? = some y → badE n y = false)) (fun i _ => l.length - (intOf i).toNat)
    case atStart => exact ⟨0, Nat.zero_le _, rfl, Below.refl _ _, fun j _ hj => by omega⟩
    case round =>
      obtain ⟨k, hk, rfl, hBr, hno⟩ := hrel
      by_cases hk2 : k < l.length
      · obtain ⟨b, off, rfl, hbl, hc⟩ := h (by omega)
        obtain ⟨⟨x, y⟩, hy⟩ : ∃ y, l[k]? = some y := ⟨_, List.getElem?_eq_getElem hk2⟩
        obtain ⟨hc1, hc2⟩ := hc k _ hy
        have hd1 := (hBr.cell (p := ⟨b, off + k * 2, none⟩) hbl).trans hc1
        have hd2 := (hBr.cell (p := ⟨b, off + k * 2 + 1, none⟩) hbl).trans hc2
        have HY := Lib.hid hy
        clear hy hc h hc1 hc2
        have k0 : (0 : Int) ≤ (k : Int) := Int.natCast_nonneg _
        have k1 : (k : Int) < (l.length : Int) := by omega
        clear d1 d2 d3
        by_cases hxy : x = y
        · have hb := beq_yes hxy
          have H1 := Lib.hid hxy
          clear hxy
          go_wp2
          go_quiet (fail)
          go_wp2
          all_goals
            go_ret
            exact ⟨ret_bool (by rw [E.out, List.any_eq_true.2 ⟨_, List.mem_of_getElem? HY.out, badE_yes (.inl H1.out)⟩]; rfl), below_drewN' hBr _⟩
        · have hb := beq_no hxy
          have H1 := Lib.hid hxy
          clear hxy
          go_wp2
          go_quiet (fail)
          go_wp2
          all_goals first
            | (go_ret
               exact ⟨ret_bool (by rw [E.out, List.any_eq_true.2 ⟨_, List.mem_of_getElem? HY.out, badE_yes (by omega)⟩]; rfl), below_drewN' hBr _⟩)
            | (go_roundw
               case rel => exact ⟨k + 1, by omega, by go_num, below_drewN' hBr _, fun j z hj hz => by
                 by_cases e : j = k
                 · subst e; rw [HY.out] at hz; cases hz; exact badE_no (by have := H1.out; omega)
                 · exact hno j z (by omega) hz⟩
               case measure => simp [intOf]; omega)
      · go_wp2
        go_ret
        exact ⟨ret_bool (by
          rw [E.out, show l.any (badE n) = false from List.any_eq_false.2 fun x hx => by
            obtain ⟨j, hj, rfl⟩ := List.getElem_of_mem hx
            rw [hno j _ (by omega) (List.getElem?_eq_getElem hj)]; simp]; rfl), hBr⟩
  · have E := Lib.hid (show vld n l = false by rw [vld, dec_no hh]; simp)
    clear h
    by_cases h1 : n < 0
    · clear hh
      go_enter Try.func15, Try.ntmps15
      go_wp2
      go_ret
      exact ⟨ret_bool E.out.symm, Below.refl _ _⟩
    · by_cases h2 : 1000 < n
      · clear hh
        go_enter Try.func15, Try.ntmps15
        go_wp2
        go_ret
        exact ⟨ret_bool E.out.symm, Below.refl _ _⟩
      · have h3 : 4000 < l.length := by omega
        clear hh
        go_enter Try.func15, Try.ntmps15
        go_wp2
        go_ret
        exact ⟨ret_bool E.out.symm, Below.refl _ _⟩


def LabAt (w : World) (n : Nat) (f : Nat → Nat) (V : Value) (L : List Nat) (wr : World) : Prop := Lab n f L ∧ Own wr w.heap.size 3 natf V L ∧ Below w.heap.size w wr

theorem LabAt.drawN {w wr : World} {n : Nat} {f : Nat → Nat} {V : Value} {L : List Nat} (h : LabAt w n f V L wr) (m : Nat) : LabAt w n f V L (wr.drewN m) := ⟨h.1, h.2.1.drawN m, below_drewN' h.2.2 m⟩
theorem LabAt.set {w wr : World} {n g cap : Nat} {f : Nat → Nat} {L : List Nat} (h : LabAt w n f (.slice (some ⟨g, 0, none⟩) n cap) L wr) {a b x y : Nat} (hx : L[a]? = some x) (hy : L[b]? = some y) (hlt : x < y) (hab : f a = f b) :
    LabAt w n f (.slice (some ⟨g, 0, none⟩) n cap) (L.set b x) (wr.setCell ⟨g, b, none⟩ (.int .i64 (x : Int))) :=
  ⟨(h.1.set hx hy hlt hab).1, h.2.1.set b x, h.2.2.setCell (p := ⟨g, b, none⟩) (h.2.1.lt g rfl).1 _⟩

set_option maxRecDepth 100000 in
set_option maxHeartbeats 4000000 in
theorem labels_any (n most : Nat) (but : Int) (v : Value) (ns : List (Nat × Nat)) (w : World) (hn : n ≤ 1000) (hm : ns.length ≤ 4000) (hp : NPairs w v ns) (he : Ends n ns) (hmo : most ≤ ns.length) :
    Calls Try.prog 46 #[.int .i64 (n : Int), v, .int .i64 (most : Int), .int .i64 but] w fun e w' => ∃ u, e = .returned u ∧ Own w' w.heap.size 3 natf u (labelsOf n (sel ns most but)) ∧ Below w.heap.size w w' := by
  obtain ⟨ao, cap, rfl, h⟩ := hp.open_
  have HE := Lib.hid he
  have HH := Lib.hid h
  clear he hp h
  go_enter Try.func46, Try.ntmps46
  go_wp2_with fail
  go_loopw [9, 10] (fun v i wr => ∃ k : Nat, k ≤ n ∧ i = .int .i64 k ∧ Own wr w.heap.size 3 natf v (List.range k) ∧ Below w.heap.size w wr) (fun _ i _ => n - (intOf i).toNat)
  case atStart => exact ⟨0, Nat.zero_le _, rfl, Own.nil _ _ _ _, Below.refl _ _⟩
  case round =>
    obtain ⟨k, hk, rfl, hown, hB⟩ := hrel
    have hz := hB.size
    by_cases hlt : k < n
    · have hl : (List.range k).length + 1 ≤ 1099511627776 := by simp; omega
      have hrb := (hown.lt)
      have HR := Lib.hid (List.range_succ (n := k))
      go_wp2_with (first
        | (at_builtin; refine wpList_push wr rfl _ _ 25 rfl 3 8 elemInt w.heap.size natf _ (List.range k) k rfl hown rfl rfl hl (by omega) hz ?_; intro v' w' hown' hg _))
      go_roundw
      case rel => exact ⟨k + 1, by omega, by go_num, by rw [HR.out]; exact hown', below_grown hB hg hz (fun g hg => (hrb g hg).1)⟩
      case measure => simp [intOf]; omega
    · obtain rfl : k = n := by omega
      obtain ⟨V, hV⟩ : ∃ V, V = u9 := ⟨_, rfl⟩
      subst hV
      have HL0 : Hid (LabAt w k (lbl (sel ns most but)) V (List.range k) wr) := ⟨Lab.start _ _, hown, hB⟩
      have HSUM := Lib.hid (sum_range_le k)
      clear hown hB hz
      go_wp2_with fail
      go_loopg [11, 12, 13, 14] (k * k + 1) (fun gk s11 s12 s13 s14 wr => ∃ (ag : Bool) (L : List Nat), s11 = .bool ag ∧ Hid (LabAt w k (lbl (sel ns most but)) V L wr ∧ L.sum + (if ag then 1 else 0) ≤ gk ∧ gk ≤ k * k + 1 ∧ (ag = false → L = labelsOf k (sel ns most but))))
      case atStart => exact ⟨true, _, rfl, HL0.out, by have := HSUM.out; simp; omega, Nat.le_refl _, fun h => by cases h⟩
      case round =>
        clear HL0 HSUM
        obtain ⟨ag, L, rfl, H⟩ := hrel
        cases ag
        · have HR : Hid (L = labelsOf k (sel ns most but)) := H.out.2.2.2 rfl
          go_wp2
          go_ret
          exact ⟨_, rfl, by rw [← HR.out]; exact H.out.1.2.1, H.out.1.2.2⟩
        · go_wp2_with fail
          go_loopw [11, 12, 13, 14] (fun s11 s12 s13 s14 wr => ∃ (i : Nat) (ag : Bool) (L' : List Nat), i ≤ most ∧ s11 = .bool ag ∧ s12 = .int .i64 i ∧ Hid (LabAt w k (lbl (sel ns most but)) V L' wr) ∧ Hid ((ag = false ∧ L' = L ∧ ∀ (j : Nat) e, j < i → (j : Int) ≠ but → ns[j]? = some e → ∃ x, L[e.1]? = some x ∧ L[e.2]? = some x) ∨ (ag = true ∧ L'.sum < L.sum))) (fun _ s12 _ _ _ => most - (intOf s12).toNat)
          case atStart => exact ⟨0, false, L, Nat.zero_le _, rfl, rfl, H.out.1, .inl ⟨rfl, rfl, fun j e hj => by omega⟩⟩
          case round =>
            obtain ⟨i, ag, L', hi, rfl, rfl, HLA, HOR⟩ := hrel
            by_cases hlt : i < most
            · obtain ⟨b, off, rfl, hbl, hc⟩ := HH.out (by omega)
              obtain ⟨⟨x, y⟩, hy⟩ : ∃ y, ns[i]? = some y := ⟨_, List.getElem?_eq_getElem (by omega)⟩
              obtain ⟨hc1, hc2⟩ := hc i _ hy
              have hd1 := (HLA.out.2.2.cell (p := ⟨b, off + i * 2, none⟩) hbl).trans hc1
              have hd2 := (HLA.out.2.2.cell (p := ⟨b, off + i * 2 + 1, none⟩) hbl).trans hc2
              have hends := HE.out i _ hy
              simp only at hd1 hd2 hends
              obtain ⟨hx1, hy1, hne⟩ := hends
              have HNE := Lib.hid hne
              have HY := Lib.hid hy
              clear hy hc hc1 hc2 hne
              by_cases hib : (i : Int) = but
              · have e1 := beq_yes hib
                have HIB := Lib.hid hib
                clear hib
                go_wp2
                go_roundw
                case rel => exact ⟨i + 1, ag, L', by omega, rfl, by go_num, HLA.out, by
                  rcases HOR.out with ⟨h1, h2, h3⟩ | h1
                  · refine .inl ⟨h1, h2, fun j e hj hjb hje => ?_⟩
                    have : j ≠ i := fun e' => hjb (by rw [e']; exact HIB.out)
                    exact h3 j e (by omega) hjb hje
                  · exact .inr h1⟩
                case measure => simp [intOf]; omega
              · have e1 := beq_no hib
                have HIB := Lib.hid hib
                clear hib
                have hmem : Hid (lbl (sel ns most but) x = lbl (sel ns most but) y) := lbl_edge _ (x, y) (mem_sel.2 ⟨i, hlt, HIB.out, HY.out⟩)
                obtain ⟨p, hp⟩ : ∃ p, L'[x]? = some p := ⟨_, List.getElem?_eq_getElem (by rw [HLA.out.1.len]; exact hx1)⟩
                obtain ⟨q, hq⟩ : ∃ p, L'[y]? = some p := ⟨_, List.getElem?_eq_getElem (by rw [HLA.out.1.len]; exact hy1)⟩
                obtain ⟨g, ucap, hV, _⟩ := HLA.out.2.1.form (by rw [HLA.out.1.len]; omega)
                rw [HLA.out.1.len] at hV
                subst hV
                have c1 := HLA.out.2.1.cell hp
                have c2 := HLA.out.2.1.cell hq
                have f1 := HLA.out.2.1.free x
                have f2 := HLA.out.2.1.free y
                have HP := Lib.hid hp
                have HQ := Lib.hid hq
                unfold natf at c1 c2
                clear hp hq
                have i0 : (0 : Int) ≤ (i : Int) := Int.natCast_nonneg _
                have i1 : (i : Int) < (ns.length : Int) := by omega
                have x0 : (0 : Int) ≤ (x : Int) := Int.natCast_nonneg _
                have x1 : (x : Int) < (k : Int) := by omega
                have y0 : (0 : Int) ≤ (y : Int) := Int.natCast_nonneg _
                have y1 : (y : Int) < (k : Int) := by omega
                go_wp2
                go_quiet (fail)
                go_wp2
                rcases Nat.lt_trichotomy p q with hpq | hpq | hpq
                · have e2 : (p : Int) < (q : Int) := by omega
                  go_quiet (fail)
                  go_wp2
                  generalize hW : (World.setCell (World.drewN wr _) ⟨g, y, none⟩ (.int .i64 (p : Int))) = W2
                  have HS2 : Hid (LabAt w k (lbl (sel ns most but)) (.slice (some ⟨g, 0, none⟩) k ucap) (L'.set y p) W2) := by
                    rw [← hW]; exact LabAt.set (HLA.out.drawN _) HP.out HQ.out hpq hmem.out
                  have HS3 := Lib.hid (HLA.out.1.set HP.out HQ.out hpq hmem.out).2
                  clear hW c1 c2 f1 f2 hd1 hd2
                  have c1 := HS2.out.2.1.cell (k := x) (x := p) (by rw [List.getElem?_set_ne (Ne.symm HNE.out)]; exact HP.out)
                  have c2 := HS2.out.2.1.cell (k := y) (x := p) (by rw [List.getElem?_set_self (by rw [HLA.out.1.len]; omega)])
                  unfold natf at c1 c2
                  clear e2
                  have e2 : ¬ (p : Int) < (p : Int) := by omega
                  go_quiet (fail)
                  go_wp2
                  go_roundw
                  case rel => exact ⟨i + 1, true, _, by omega, rfl, by go_num, HS2.out.drawN _, .inr ⟨rfl, by
                    have := HS3.out
                    rcases HOR.out with ⟨_, h2, _⟩ | ⟨_, h2⟩
                    · rw [← h2]; exact this
                    · omega⟩⟩
                  case measure => simp [intOf]; omega
                · subst hpq
                  have e2 : ¬ (p : Int) < (p : Int) := by omega
                  go_quiet (fail)
                  go_wp2
                  go_quiet (fail)
                  go_wp2
                  go_roundw
                  case rel => exact ⟨i + 1, ag, _, by omega, rfl, by go_num, HLA.out.drawN _, by
                    rcases HOR.out with ⟨h1, h2, h3⟩ | h1
                    · refine .inl ⟨h1, h2, fun j e hj hjb hje => ?_⟩
                      by_cases hji : j = i
                      · subst hji
                        rw [HY.out] at hje
                        cases hje
                        exact ⟨p, by rw [← h2]; exact HP.out, by rw [← h2]; exact HQ.out⟩
                      · exact h3 j e (by omega) hjb hje
                    · exact .inr h1⟩
                  case measure => simp [intOf]; omega
                · have e2 : ¬ (p : Int) < (q : Int) := by omega
                  have e3 : (q : Int) < (p : Int) := by omega
                  go_quiet (fail)
                  go_wp2
                  go_quiet (fail)
                  go_wp2
                  have HS3 := Lib.hid (HLA.out.1.set HQ.out HP.out hpq hmem.out.symm).2
                  go_roundw
                  case rel => exact ⟨i + 1, true, _, by omega, rfl, by go_num, LabAt.set (HLA.out.drawN _) HQ.out HP.out hpq hmem.out.symm, .inr ⟨rfl, by
                    have := HS3.out
                    rcases HOR.out with ⟨_, h2, _⟩ | ⟨_, h2⟩
                    · rw [← h2]; exact this
                    · omega⟩⟩
                  case measure => simp [intOf]; omega
            · have hio : i = most := by omega
              subst hio
              cases ag
              · have HF : Hid (L' = labelsOf k (sel ns i but)) := by
                  rcases HOR.out with ⟨_, h2, h3⟩ | ⟨h1, _⟩
                  · subst h2
                    refine HLA.out.1.done fun e he => ?_
                    obtain ⟨j, h4, h5, h6⟩ := mem_sel.1 he
                    exact h3 j e h4 h5 h6
                  · cases h1
                have hs : L'.sum = L.sum := by
                  rcases HOR.out with ⟨_, h2, _⟩ | ⟨h1, _⟩
                  · rw [h2]
                  · cases h1
                have HS := Lib.hid hs
                clear hs
                go_wp2
                go_roundg (gk - 1)
                case measure => have := H.out.2.1; simp at this; omega
                case rel => exact ⟨false, L', rfl, HLA.out, by have := H.out.2.1; have := HS.out; simp at *; omega, by have := H.out.2.2.1; omega, fun _ => HF.out⟩
              · have HS : Hid (L'.sum < L.sum) := by
                  rcases HOR.out with ⟨h1, _⟩ | ⟨_, h1⟩
                  · cases h1
                  · exact h1
                go_wp2
                go_roundg (gk - 1)
                case measure => have := H.out.2.1; simp at this; omega
                case rel => exact ⟨true, L', rfl, HLA.out, by have := H.out.2.1; have := HS.out; simp at *; omega, by have := H.out.2.2.1; omega, fun h => by cases h⟩
end Go.Proofs.Ytcaeemcobgopmaa
