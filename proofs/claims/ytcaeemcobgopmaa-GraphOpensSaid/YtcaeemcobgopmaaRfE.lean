/-
  Reference 05: Parts.
-/
import Derived.Test.YtcaeemcobgopmaaRfB
import Derived.Test.YtcaeemcobgopmaaApp
namespace Go.Proofs.Ytcaeemcobgopmaa
open Go.RowKit
set_option linter.unusedVariables false

/-- The part of the least node i, as far as the nodes below k go. -/
def partTo (f : Nat → Nat) (i k : Nat) : List Nat := (List.range k).filter fun j => f j == i
theorem partTo_none {f : Nat → Nat} (h : ∀ j, f j ≤ j) (i : Nat) : partTo f i i = [] := by
  unfold partTo
  rw [List.filter_eq_nil_iff]
  intro j hj
  have := List.mem_range.1 hj
  have := h j
  simp; omega
theorem partTo_succ (f : Nat → Nat) (i k : Nat) : partTo f i (k + 1) = if f k = i then partTo f i k ++ [k] else partTo f i k := by
  unfold partTo
  rw [List.range_succ, List.filter_append, List.filter_cons, List.filter_nil]
  by_cases h : f k = i <;> simp [h]
theorem partTo_len (f : Nat → Nat) (i k : Nat) : (partTo f i k).length ≤ k := by
  unfold partTo
  have := List.length_filter_le (fun j => f j == i) (List.range k)
  rw [List.length_range] at this
  exact this
def partsTo (f : Nat → Nat) (n k : Nat) : List (List Nat) := (rootsTo f k).map fun r => partTo f r n
theorem partsTo_all (ns : List (Nat × Nat)) (n : Nat) : partsTo (lbl ns) n n = partsOf n ns := rfl
theorem partsTo_root {f : Nat → Nat} {n k : Nat} (h : f k = k) : partsTo f n (k + 1) = partsTo f n k ++ [partTo f k n] := by
  unfold partsTo; rw [rootsTo_root h]; simp
theorem partsTo_not {f : Nat → Nat} {n k : Nat} (h : f k ≠ k) : partsTo f n (k + 1) = partsTo f n k := by
  unfold partsTo; rw [rootsTo_not h]
theorem partsTo_len (f : Nat → Nat) (n k : Nat) : (partsTo f n k).length ≤ k := by
  unfold partsTo; rw [List.length_map]; exact rootsTo_le f k

set_option maxRecDepth 100000 in
set_option maxHeartbeats 4000000 in
theorem rparts_any (n : Nat) (v : Value) (ns : List (Nat × Nat)) (w : World) (hg : Gr w n v ns) :
    Calls Try.prog 21 #[.int .i64 (n : Int), v] w fun e w' => ∃ V, e = .returned V ∧ Mat w' w.heap.size V (partsOf n ns) ∧ Below w.heap.size w w' := by
  have hn := hg.n_le
  have hm := hg.m_le
  have HG := Lib.hid hg
  clear hg
  obtain ⟨ao, cap, rfl, _⟩ := HG.out.pairs.open_
  go_enter Try.func21, Try.ntmps21
  go_wp2_with fail
  refine (labels_any n ns.length (-1) _ ns _ hn hm HG.out.pairs HG.out.ends (Nat.le_refl _)).mono ?_
  rintro e w1 ⟨u, rfl, hu, hb1⟩
  have hsl : lbl (sel ns ns.length (-1)) = lbl ns := by rw [lbl_sel_take, List.take_length]
  have hlab : labelsOf n (sel ns ns.length (-1)) = labelsOf n ns := by unfold labelsOf; rw [hsl]
  rw [hlab] at hu
  have HU := Lib.hid hu
  obtain ⟨uo, uc, rfl⟩ := hu.shape
  rw [labelsOf_len]
  rw [labelsOf_len] at HU
  obtain ⟨f, hf⟩ : ∃ f, lbl ns = f := ⟨_, rfl⟩
  have HF := Lib.hid hf
  have HLE : Hid (∀ j, f j ≤ j) := by rw [← hf]; exact lbl_le ns
  have hz1 := hb1.size
  clear hu hsl hlab hf
  go_wp2_with fail
  go_loopw [6, 7, 8, 9] (fun s6 s7 s8 s9 wr => ∃ k : Nat, k ≤ n ∧ s7 = .int .i64 (k : Int) ∧ Hid (Mat wr w1.heap.size s6 (partsTo f n k) ∧ Below w1.heap.size w1 wr)) (fun _ s7 _ _ _ => n - (intOf s7).toNat)
  case atStart => exact ⟨0, Nat.zero_le _, rfl, Mat.new (n := 0) (Own.nil _ _ _ _), Below.refl _ _⟩
  case round =>
    obtain ⟨k, hk, rfl, H⟩ := hrel
    by_cases hlt : k < n
    · have U1 := HU.out.below H.out.2
      obtain ⟨g, ucap, hgv, hgl, _⟩ := U1.form (by rw [labelsOf_len]; omega)
      rw [labelsOf_len] at hgv
      cases hgv
      have c1 := U1.cell (labelsOf_get ns hlt)
      rw [HF.out] at c1
      obtain ⟨p, hp⟩ : ∃ p, f k = p := ⟨_, rfl⟩
      rw [hp] at c1
      unfold natf at c1
      have k0 : (0 : Int) ≤ (k : Int) := Int.natCast_nonneg _
      have k1 : (k : Int) < (n : Int) := by omega
      have HP := Lib.hid hp
      clear U1 hp
      by_cases hpk : p = k
      · subst hpk
        have e1 : ((p : Int) != (p : Int)) = false := by simp
        have hlen := partsTo_len f n p
        obtain ⟨vals, hMV⟩ := H.out.1
        have hvl : vals.length + 1 ≤ 1099511627776 := by rw [hMV.1]; omega
        have HMV := Lib.hid hMV
        have hB := H.out.2
        have hB0 := bstep hb1 hB
        clear hMV H
        go_wp2_with fail
        clear c1 e1
        obtain ⟨wo, rfl⟩ : ∃ wo : World, wo = wr := ⟨_, rfl⟩
        go_loopw [8, 9] (fun s8 s9 wr2 => ∃ j : Nat, j ≤ n ∧ s9 = .int .i64 (j : Int) ∧ Hid (Own wr2 wo.heap.size 3 natf s8 (partTo f p j) ∧ Below wo.heap.size wo wr2)) (fun _ s9 _ => n - (intOf s9).toNat)
        case atStart => exact ⟨p, hk, rfl, by rw [partTo_none HLE.out]; exact Own.nil _ _ _ _, Below.refl _ _⟩
        case round =>
          obtain ⟨j, hj, rfl, H⟩ := hrel
          have hBj := H.out.2
          have hzj := hBj.size
          by_cases hjl : j < n
          · have U1 := (HU.out.below hB).below hBj
            have c1 := U1.cell (labelsOf_get ns hjl)
            rw [HF.out] at c1
            obtain ⟨q, hq⟩ : ∃ q, f j = q := ⟨_, rfl⟩
            rw [hq] at c1
            unfold natf at c1
            have j0 : (0 : Int) ≤ (j : Int) := Int.natCast_nonneg _
            have j1 : (j : Int) < (n : Int) := by omega
            have HQ := Lib.hid hq
            have HS := Lib.hid (partTo_succ f p j)
            have hpl : (partTo f p j).length + 1 ≤ 1099511627776 := by have := partTo_len f p j; omega
            have hol := H.out.1.lt
            clear U1 hq
            by_cases hqp : q = p
            · subst hqp
              have e1 : ((q : Int) == (q : Int)) = true := by simp
              go_wp2_with (first
                | (at_builtin; refine wpList_push wr rfl _ _ 25 rfl 3 8 elemInt wo.heap.size natf _ _ j rfl H.out.1 rfl rfl hpl (by omega) hzj ?_; intro v' w' hown' hg _))
              go_roundw
              case rel => exact ⟨j + 1, by omega, by go_num, by rw [HS.out, if_pos HQ.out]; exact hown', below_grown hBj hg hzj (fun g hg => (hol g hg).1)⟩
              case measure => simp [intOf]; omega
            · have e1 : ((q : Int) == (p : Int)) = false := beq_no (by omega)
              have HE := Lib.hid hqp
              clear hqp
              go_wp2
              go_roundw
              case rel => exact ⟨j + 1, by omega, by go_num, by rw [HS.out, if_neg (by rw [HQ.out]; exact HE.out)]; exact H.out⟩
              case measure => simp [intOf]; omega
          · obtain rfl : j = n := by omega
            have hM2 := HMV.out.below hBj
            have hz0 := hB.size
            obtain ⟨po, pc, hps⟩ := H.out.1.shape
            subst hps
            go_wp2_with (at_builtin; refine wpList_push wr rfl _ _ 35 rfl 25 24 elemRow w1.heap.size rowf _ vals _ rfl hM2.2.1 rfl rfl hvl (by omega) (by omega) ?_; intro V7 w7 ho7 hg7 hat7)
            go_roundw
            case rel =>
              have hF := hM2.pushRow (H.out.1.mono hz0) (fun g hg k u hu e => by
                  have h1 := HMV.out.old k u hu g e
                  have h2 := (H.out.1.lt g hg).1
                  omega) ho7 hg7
              refine ⟨p + 1, by omega, by go_num, ?_, ?_⟩
              · rw [partsTo_root HP.out]
                exact ⟨_, hF⟩
              · exact below_grown (bstep hB hBj) hg7 (by omega) (fun g e => (hM2.2.1.lt g e).1)
            case measure => simp [intOf]; omega
      · have e1 : ((p : Int) != (k : Int)) = true := bne_yes (by omega)
        have HE := Lib.hid hpk
        clear hpk
        go_wp2
        go_roundw
        case rel => exact ⟨k + 1, by omega, by go_num, by rw [partsTo_not (by rw [HP.out]; exact HE.out)]; exact H.out⟩
        case measure => simp [intOf]; omega
    · obtain rfl : k = n := by omega
      go_wp2
      go_ret
      refine ⟨_, rfl, ?_, bstep hb1 H.out.2⟩
      have := H.out.1
      rw [← HF.out, partsTo_all] at this
      exact this.mono hz1
end Go.Proofs.Ytcaeemcobgopmaa
