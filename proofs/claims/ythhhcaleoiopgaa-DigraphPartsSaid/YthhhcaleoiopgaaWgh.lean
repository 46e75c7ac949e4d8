/-
  Law DigraphPaths: the inner function that weighs a path.
-/
import Derived.Test.YthhhcaleoiopgaaPdr
import Derived.Test.YthhhcaleoiopgaaDl0
import Derived.Deep.RegionHeld3
namespace Go.Proofs.Ythhhcaleoiopgaa
open Go.RowKit
set_option linter.unusedVariables false
attribute [local go_sem ↓] Go.wp_at_zero Go.wp_at_succ

def wOK (n : Nat) (es : List (Nat × Nat)) (ws l : List Int) (i : Nat) : Prop :=
  ∀ x, l[i]? = some x → 0 ≤ x ∧ x < n ∧ x < ws.length ∧ ∀ (j : Nat) y, i = j + 1 → l[j]? = some y → (y, x) ∈ cst es
def WPath (n : Nat) (es : List (Nat × Nat)) (ws l : List Int) : Prop := ∀ i, wOK n es ws l i
def wsum (ws l : List Int) : Int := (l.map fun x => ws.getD x.toNat 0).sum
def WeighPost (w : World) (n : Nat) (es : List (Nat × Nat)) (ws l : List Int) (e : Ending) (w' : World) : Prop :=
  ((WPath n es ws l ∧ e = .returned (.tuple #[.int .i64 (wsum ws l), .bool true])) ∨ (¬ WPath n es ws l ∧ e = .returned (.tuple #[.int .i64 0, .bool false]))) ∧ Below w.heap.size w w'

theorem wsum_snoc (ws l : List Int) (x : Int) : wsum ws (l ++ [x]) = wsum ws l + ws.getD x.toNat 0 := by
  unfold wsum
  rw [List.map_append, List.sum_append]; simp
theorem wsum_bd {ws : List Int} (h : ∀ x ∈ ws, 0 ≤ x ∧ x ≤ 1073741824) (l : List Int) : 0 ≤ wsum ws l ∧ wsum ws l ≤ (l.length : Int) * 1073741824 := by
  refine snoc_ind (p := fun l => 0 ≤ wsum ws l ∧ wsum ws l ≤ (l.length : Int) * 1073741824) (by simp [wsum]) (fun l a ih => ?_) l
  rw [wsum_snoc, List.length_append, List.length_singleton]
  have hg : 0 ≤ ws.getD a.toNat 0 ∧ ws.getD a.toNat 0 ≤ 1073741824 := by
    rw [List.getD_eq_getElem?_getD]
    cases hk : ws[a.toNat]? with
    | none => simp
    | some y => exact h y (List.mem_of_getElem? hk)
  have e : ((l.length + 1 : Nat) : Int) * 1073741824 = (l.length : Int) * 1073741824 + 1073741824 := by omega
  rw [e]; omega

set_option maxRecDepth 100000 in
set_option maxHeartbeats 1000000 in
theorem weigh_any (X7 X9 X8 n : Nat) (v vw u : Value) (es : List (Nat × Nat)) (ws l : List Int) (w : World) (c7 : w.cell? ⟨X7, 0, none⟩ = some (.int .i64 (n : Int))) (c9 : w.cell? ⟨X9, 0, none⟩ = some vw) (c8 : w.cell? ⟨X8, 0, none⟩ = some v)
    (h7 : X7 < w.heap.size) (h9 : X9 < w.heap.size) (h8 : X8 < w.heap.size) (hp : NPairs w v es) (hm : es.length ≤ 4000) (hw : Ints w vw ws) (hwl : ws.length ≤ 1000) (hn : n ≤ 1000) (hwb : ∀ x ∈ ws, 0 ≤ x ∧ x ≤ 1073741824) (hu : Ints w u l) (hl : l.length ≤ 1000) :
    Calls Try.prog 18 #[u, .pointer (some ⟨X7, 0, none⟩), .pointer (some ⟨X9, 0, none⟩), .pointer (some ⟨X8, 0, none⟩)] w (WeighPost w n es ws l) := by
  have HP := Lib.hid hp
  have HW := Lib.hid hw
  have HU := Lib.hid hu
  have HWB := Lib.hid hwb
  have HC := Lib.hid (And.intro c7 (And.intro c9 c8))
  obtain ⟨eao, ecap, rfl, _⟩ := hp.open_
  obtain ⟨wo, wcap, rfl, _⟩ := hw
  obtain ⟨uo, uc, rfl, _⟩ := hu
  clear hp hwb c7 c9 c8
  go_enter Try.func18, Try.ntmps18
  go_wp2
  go_loopw [7, 8, 9, 12] (fun s7 _ _ s12 wr => ∃ k : Nat, k ≤ l.length ∧ s12 = .int .i64 (k : Int) ∧ s7 = .int .i64 (wsum ws (l.take k)) ∧ Below w.heap.size w wr ∧ Hid (∀ i, i < k → wOK n es ws l i)) (fun _ _ _ s12 _ => l.length - (intOf s12).toNat)
  case atStart => exact ⟨0, Nat.zero_le _, rfl, rfl, Below.refl _ _, fun i h => by omega⟩
  case round =>
    obtain ⟨k, hk, rfl, rfl, hB, HT⟩ := hrel
    have c7 := (hB.cell (p := ⟨X7, 0, none⟩) h7).trans HC.out.1
    have c9 := (hB.cell (p := ⟨X9, 0, none⟩) h9).trans HC.out.2.1
    have c8 := (hB.cell (p := ⟨X8, 0, none⟩) h8).trans HC.out.2.2
    have hsb := wsum_bd HWB.out (l.take k)
    rw [List.length_take] at hsb
    obtain ⟨S, hS⟩ : ∃ S, wsum ws (l.take k) = S := ⟨_, rfl⟩
    rw [hS] at hsb ⊢
    have HS := Lib.hid hS
    clear hS
    have hs0 : 0 ≤ S := hsb.1
    have hs1 : S ≤ 1073741824000 := by have := hsb.2; omega
    clear hsb
    by_cases hlt : k < l.length
    · obtain ⟨x, hx⟩ : ∃ x, l[k]? = some x := ⟨_, List.getElem?_eq_getElem hlt⟩
      obtain ⟨ub, uoff, rfl, hub, huc⟩ : ∃ b off, uo = some ⟨b, off, none⟩ ∧ b < w.heap.size ∧ w.cell? ⟨b, off + k, none⟩ = some (.int .i64 x) := by
        obtain ⟨ao', cap', hv, h2⟩ := HU.out
        cases hv
        obtain ⟨b, off, rfl, hlt', hc⟩ := h2 (by omega)
        exact ⟨b, off, rfl, hlt', hc k x hx⟩
      have d1 := (hB.cell (p := ⟨ub, uoff + k, none⟩) hub).trans huc
      have HX := Lib.hid hx
      have k0 : (0 : Int) ≤ (k : Int) := Int.natCast_nonneg _
      have k1 : (k : Int) < (l.length : Int) := by omega
      clear hx huc
      by_cases h1 : x < 0
      · have b1 := dec_yes h1
        have HR : Hid (¬ WPath n es ws l) := fun h => by have := (h k x HX.out).1; omega
        go_wp2
        go_quiet (fail)
        go_wp2
        go_ret2
        exact ⟨.inr ⟨HR.out, rfl⟩, below_drewN' hB _⟩
      · have b1 := dec_no h1
        by_cases h2 : (n : Int) ≤ x
        · have b2 := dec_yes h2
          have HR : Hid (¬ WPath n es ws l) := fun h => by have := (h k x HX.out).2.1; omega
          go_wp2
          go_quiet (fail)
          go_wp2
          go_ret2
          exact ⟨.inr ⟨HR.out, rfl⟩, below_drewN' hB _⟩
        · have b2 := dec_no h2
          by_cases h3 : (ws.length : Int) ≤ x
          · have b3 := dec_yes h3
            have HR : Hid (¬ WPath n es ws l) := fun h => by have := (h k x HX.out).2.2.1; omega
            go_wp2
            go_quiet (fail)
            go_wp2
            go_ret2
            exact ⟨.inr ⟨HR.out, rfl⟩, below_drewN' hB _⟩
          · have b3 := dec_no h3
            obtain ⟨X, rfl⟩ : ∃ X : Nat, x = (X : Int) := ⟨x.toNat, by omega⟩
            have n2 : decide (n ≤ X) = false := dec_no (by omega)
            have n3 : decide (ws.length ≤ X) = false := dec_no (by omega)
            obtain ⟨y, hy⟩ : ∃ y, ws[X]? = some y := ⟨_, List.getElem?_eq_getElem (by omega)⟩
            have hby := HWB.out y (List.mem_of_getElem? hy)
            obtain ⟨wb, woff, rfl, hwb2, hwc⟩ : ∃ b off, wo = some ⟨b, off, none⟩ ∧ b < w.heap.size ∧ w.cell? ⟨b, off + X, none⟩ = some (.int .i64 y) := by
              obtain ⟨ao', cap', hv, h2⟩ := HW.out
              cases hv
              obtain ⟨b, off, rfl, hlt', hc⟩ := h2 (by omega)
              exact ⟨b, off, rfl, hlt', hc X y hy⟩
            have HST := Lib.hid (show wsum ws (l.take (k + 1)) = S + y by
              rw [List.take_succ_eq_append_getElem hlt, (List.getElem?_eq_some_iff.1 HX.out).2, wsum_snoc, HS.out, Int.toNat_natCast, List.getD_eq_getElem?_getD, hy]; rfl)
            have HY := Lib.hid (And.intro hy hwc)
            clear hy hwc
            cases k with
            | zero =>
              have HN : Hid (∀ i, i < 0 + 1 → wOK n es ws l i) := fun i hi => by
                obtain rfl : i = 0 := by omega
                intro z hz
                rw [HX.out] at hz
                cases hz
                exact ⟨by omega, by omega, by omega, fun j y hj => by omega⟩
              have d2 := (hB.cell (p := ⟨wb, woff + X, none⟩) hwb2).trans HY.out.2
              have X0 : (0 : Int) ≤ (X : Int) := Int.natCast_nonneg _
              have b4 : decide ((0 : Int) < ((0 : Nat) : Int)) = false := rfl
              have d1' : wr.cell? ⟨ub, uoff, none⟩ = some (.int .i64 (X : Int)) := d1
              have b5 : decide ((0 : Int) < 0) = false := rfl
              go_wp2
              go_quiet (fail)
              go_wp2
              go_roundw
              case rel => exact ⟨0 + 1, by omega, by go_num, by rw [HST.out], below_drewN' hB _, HN.out⟩
              case measure => simp [intOf]; omega
            | succ k' =>
              obtain ⟨z, hz⟩ : ∃ z, l[k']? = some z := ⟨_, List.getElem?_eq_getElem (by omega)⟩
              have d3 : wr.cell? ⟨ub, uoff + k', none⟩ = some (.int .i64 z) := by
                obtain ⟨ao', cap', hv, h2⟩ := HU.out
                cases hv
                obtain ⟨b, off, e, hlt', hc⟩ := h2 (by omega)
                cases e
                exact (hB.cell (p := ⟨ub, uoff + k', none⟩) hub).trans (hc k' z hz)
              have HZ := Lib.hid hz
              have HCP := Lib.hid (fun W (hW : Below w.heap.size w W) => containsPair_any (.slice eao es.length ecap) (cst es) z (X : Int) W (HP.out.below hW) (by rw [cst_len]; omega))
              have kp : (0 : Int) < ((k' + 1 : Nat) : Int) := by omega
              have b4 := dec_yes kp
              have ks : IntKind.i64.wrap (((k' + 1 : Nat) : Int) - 1) = (k' : Int) := by rw [IntWalk.i64_in _ (by omega)]; omega
              have ks2 : IntKind.i64.wrap ((k' : Int) + 1 - 1) = (k' : Int) := by rw [IntWalk.i64_in _ (by omega)]; omega
              have ks3 : ((k' + 1 : Nat) : Int) - 1 = (k' : Int) := by omega
              have ks5 : IntKind.i64.wrap (k' : Int) = (k' : Int) := by rw [IntWalk.i64_in _ (by omega)]
              have q2 : k' < l.length := by omega
              have ks4 : (0 : Int) < (k' : Int) + 1 := by omega
              have b6 := dec_yes ks4
              have q0 : (0 : Int) ≤ (k' : Int) := Int.natCast_nonneg _
              have q1 : (k' : Int) < (l.length : Int) := by omega
              obtain ⟨bq, hbq⟩ : ∃ bq, pairIn (cst es) z (X : Int) = bq := ⟨_, rfl⟩
              rw [hbq] at HCP
              have HBQ := Lib.hid hbq
              clear hz hbq
              obtain ⟨wq, rfl⟩ : ∃ wq : World, wq = wr := ⟨_, rfl⟩
              have X0 : (0 : Int) ≤ (X : Int) := Int.natCast_nonneg _
              go_upto_region 5 with fail
              go_region_held3 (fun w' => w'.cell? ⟨X7, 0, none⟩ = some (.int .i64 (n : Int)) ∧ w'.cell? ⟨X9, 0, none⟩ = some (.slice (some ⟨wb, woff, none⟩) ws.length wcap) ∧ w'.cell? ⟨X8, 0, none⟩ = some (.slice eao es.length ecap) ∧ w'.cell? ⟨ub, uoff + k', none⟩ = some (.int .i64 z))
                (first
                  | go_keep
                  | (go_split_ands
                     refine ⟨?_, ?_, ?_, ?_⟩
                     · exact (hb9.cell (p := ⟨X7, 0, none⟩) (show X7 < wq.heap.size by have := hB.size; omega)).trans c7
                     · exact (hb9.cell (p := ⟨X9, 0, none⟩) (show X9 < wq.heap.size by have := hB.size; omega)).trans c9
                     · exact (hb9.cell (p := ⟨X8, 0, none⟩) (show X8 < wq.heap.size by have := hB.size; omega)).trans c8
                     · exact (hb9.cell (p := ⟨ub, uoff + k', none⟩) (show ub < wq.heap.size by have := hB.size; omega)).trans d3))
                ((go_at_call 19; refine (HCP.out _ (hB.drew)).mono ?_; rintro e w9 ⟨rfl, hb9⟩))
              have HB9 := Lib.hid (bstep hB.drew hb9)
              have d2 := (HB9.out.cell (p := ⟨wb, woff + X, none⟩) hwb2).trans HY.out.2
              have c9' := (HB9.out.cell (p := ⟨X9, 0, none⟩) h9).trans HC.out.2.1
              cases bq
              · have HR : Hid (¬ WPath n es ws l) := fun h => by
                  have h1 := (h (k' + 1) X HX.out).2.2.2 k' z rfl HZ.out
                  have h2 := HBQ.out
                  unfold pairIn at h2
                  rw [dec_yes h1] at h2
                  cases h2
                go_wp2
                go_ret2
                exact ⟨.inr ⟨HR.out, rfl⟩, HB9.out⟩
              · have HN : Hid (∀ i, i < k' + 1 + 1 → wOK n es ws l i) := fun i hi => by
                  by_cases e : i = k' + 1
                  · subst e
                    intro a ha
                    rw [HX.out] at ha
                    cases ha
                    refine ⟨by omega, by omega, by omega, fun j y hj hy => ?_⟩
                    obtain rfl : j = k' := by omega
                    rw [HZ.out] at hy
                    cases hy
                    have h2 := HBQ.out
                    unfold pairIn at h2
                    exact of_decide_eq_true h2
                  · exact HT.out i (by omega)
                clear ks ks2 ks3 ks5
                go_wp2
                go_roundw
                case rel => exact ⟨k' + 1 + 1, by omega, by go_num, by rw [HST.out], HB9.out, HN.out⟩
                case measure => simp [intOf]; omega
    · obtain rfl : k = l.length := by omega
      have HR : Hid (WPath n es ws l ∧ wsum ws l = S) := by
        refine ⟨fun i => ?_, ?_⟩
        · by_cases h : i < l.length
          · exact HT.out i h
          · intro x hx; have := (List.getElem?_eq_some_iff.1 hx).1; omega
        · have := HS.out
          rwa [List.take_length] at this
      go_wp2
      go_ret2
      exact ⟨.inl ⟨HR.out.1, by rw [HR.out.2]; rfl⟩, hB⟩
end Go.Proofs.Ythhhcaleoiopgaa
