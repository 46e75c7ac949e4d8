/-
  The walk of BlockFewer: its text.
-/
import Derived.Test.YtnlloecbjohfdaaBkY
import Derived.Test.YtnlloecbjohfdaaOpc
namespace Go.Proofs.Ytnlloecbjohfdaa
open Go.RowKit
set_option linter.unusedVariables false
set_option linter.unusedSimpArgs false
attribute [local go_sem ↓] Go.wp_at_zero Go.wp_at_succ

theorem part_run (ao : Option Addr) (n cap m : Nat) (h : m ≤ cap) (W : World) :
    (Instr.slice 69 (.slice ao n cap) none (some (.int .i64 (m : Int))) none).run Try.prog W = .ok (.slice (if cap = 0 then ao else ao.map (·.add (0 * 1))) (m - 0) (cap - 0)) W := by
  have h1 : (m : Int) ≤ (cap : Int) := by omega
  have h0 : (0 : Int) ≤ (m : Int) := by omega
  go_simp
/-- A part of a slice of numbers: its first m. -/
theorem part_of {w : World} {ao : Option Addr} {cap : Nat} {T : List Int} (h : Ints w (.slice ao T.length cap) T) (hc : T.length ≤ cap) (m : Nat) (hm : m ≤ T.length) :
    ∃ po pc, (∀ W, (Instr.slice 69 (.slice ao T.length cap) none (some (.int .i64 (m : Int))) none).run Try.prog W = .ok (.slice po m pc) W) ∧ Ints w (.slice po m pc) (T.take m) := by
  refine ⟨if cap = 0 then ao else ao.map (·.add (0 * 1)), cap, fun W => part_run ao T.length cap m (by omega) W, ?_⟩
  obtain ⟨ao', cap', hv, h2⟩ := h
  cases hv
  have e : (T.take m).length = m := by simp; omega
  refine ⟨_, cap, by rw [e], fun hl => ?_⟩
  obtain ⟨b, off, rfl, hlt, hcl⟩ := h2 (by rw [e] at hl; omega)
  have hp : (if cap = 0 then some (⟨b, off, none⟩ : Addr) else (some (⟨b, off, none⟩ : Addr)).map (·.add (0 * 1))) = some ⟨b, off, none⟩ := by
    split
    · rfl
    · simp [Addr.add]
  rw [hp]
  refine ⟨b, off, rfl, hlt, fun k x hx => hcl k x ?_⟩
  rw [List.getElem?_take] at hx
  split at hx
  · exact hx
  · cases hx
theorem caps_le {ao : Option Addr} {n cap : Nat} (h : Caps (.slice ao n cap)) : n ≤ cap := by
  rcases h with h | ⟨a, len, c, h, hc⟩
  · cases h; exact Nat.le_refl _
  · cases h; exact hc
theorem small_of {rs : List RunD} {l : List BarD} (h : laidOk l rs = true) (hq : (∀ r ∈ rs, 1 ≤ r.count ∧ r.count ≤ 2000) → rs.length ≤ 60 → sumC rs ≤ 14) : (lgsOf l rs).length ≤ 14 := by
  obtain ⟨s1, s2, s3, s4, s5⟩ := laid_sum h
  have := hq (fun r hr => by have := s3 r hr; omega) s2
  rw [lgsOf_len]
  omega
set_option maxRecDepth 100000 in
set_option maxHeartbeats 16000000 in
theorem blockFewer_walk (w : World) (v : Value) (l : List BarD) (hp : Bars w v l) (hf : FitB l) (hl : l.length * 64 ≤ 140737488351232) (vr : Value) (rs : List RunD) (hr : Runs w vr rs) (hm : ∀ r ∈ rs, r.mark.size ≤ maxLen) (hlr : rs.length * 88 ≤ 140737488351232)
    (i : Int) (wi : (Lit.int .i64 i).wf = true) (x : Int) (wx : (Lit.int .i64 x).wf = true) (tv : Value) (T : List Int) (ht : Ints w tv T) (hlt : T.length * 8 ≤ 140737488351232) (wt : ∀ x ∈ T, (Lit.int .i64 x).wf = true) (hc : Caps tv) (cut : Int) (wc : (Lit.int .u8 cut).wf = true) :
    Calls Try.prog 9 #[v, vr, .int .i64 i, .int .i64 x, tv, .int .u8 cut] w fun e w' => e = .returned (.bool true) ∧ Below w.heap.size w w' := by
  have hl2 : l.length ≤ 140737488355328 := by omega
  have hlr2 : rs.length ≤ 140737488355328 := by omega
  have HFW := Lib.hid (fun W (hW : Below w.heap.size w W) => few_any v vr l rs W (hp.below hW) (hr.below hW) hl2 hlr2)
  have HP := Lib.hid hp
  have HR := Lib.hid hr
  have HFI := Lib.hid hf
  have HT := Lib.hid ht
  obtain ⟨tpo, tc, rfl⟩ := Sl.at_ ht
  have HCP := Lib.hid hc
  obtain ⟨c0, c1⟩ := Go.bounds_u8 wc
  clear hp hr hf hl hlr hm wi wx wt wc ht hc
  by_cases h30 : 30 < T.length
  · have d30 : decide ((30 : Int) < (T.length : Int)) = true := dec_yes (by omega)
    have hh30 : (30 : Int) < (T.length : Int) := by omega
    go_enter Try.func9, Try.ntmps9
    go_wp2_with fail
    refine (bawake_any _).mono ?_
    rintro e w1 ⟨rfl, hb1⟩
    have HW1 := Lib.hid hb1
    clear hb1
    go_wp2_with fail
    refine (HFW.out _ HW1.out).mono ?_
    rintro e w2 ⟨q, rfl, hb2, hq⟩
    have HW2 := Lib.hid (bstep HW1.out hb2)
    clear hb2 hq
    cases q
    all_goals
      go_wp2
      go_ret
      exact ⟨rfl, HW2.out⟩
  · have d30 : decide ((30 : Int) < (T.length : Int)) = false := dec_no (by omega)
    have hh30 : ¬ (30 : Int) < (T.length : Int) := by omega
    cases hok : laidOk l rs with
    | false =>
      have HB := Lib.hid (fun W (hW : Below w.heap.size w W) => blockedI_bad v vr i x (.slice tpo T.length tc) l rs W (HP.out.below hW) (HR.out.below hW) hl2 hlr2 HFI.out hok)
      have HY := Lib.hid (fun W (hW : Below w.heap.size w W) => waysI_bad v vr i (.slice tpo T.length tc) l rs W (HP.out.below hW) (HR.out.below hW) hl2 hlr2 HFI.out hok)
      clear hok
      go_enter Try.func9, Try.ntmps9
      go_wp2_with fail
      refine (bawake_any _).mono ?_
      rintro e w1 ⟨rfl, hb1⟩
      have HW1 := Lib.hid hb1
      clear hb1
      go_wp2_with fail
      refine (HFW.out _ HW1.out).mono ?_
      rintro e w2 ⟨q, rfl, hb2, hq⟩
      have HW2 := Lib.hid (bstep HW1.out hb2)
      clear hb2 hq
      cases q
      · go_wp2
        go_ret
        exact ⟨rfl, HW2.out⟩
      · go_wp2_with fail
        refine (HB.out _ HW2.out).mono ?_
        rintro e w3 ⟨o3, rfl, _, ho3, hb3⟩
        obtain rfl := ho3 (by omega)
        have HW3 := Lib.hid (bstep HW2.out hb3)
        clear hb3
        go_wp2_with fail
        refine (HY.out _ HW3.out).mono ?_
        rintro e w4 ⟨o4, rfl, _, ho4, hb4⟩
        obtain rfl := ho4 (by omega)
        have HW4 := Lib.hid (bstep HW3.out hb4)
        clear hb4
        go_wp2
        go_ret
        exact ⟨rfl, HW4.out⟩
    | true =>
      have HSM := Lib.hid (fun hq => small_of (l := l) (rs := rs) hok hq)
      have HLZ := Lib.hid (lzOk_of hok)
      have HB := Lib.hid (fun pv (P : List Int) (hP : P.length ≤ 1000000) W (hW : Below w.heap.size w W) (hp : Ints W pv P) => blockedI_good v vr i x pv P l rs W (HP.out.below hW) (HR.out.below hW) hp hl2 hlr2 hP HFI.out hok)
      have HY := Lib.hid (fun pv (P : List Int) (hP : P.length ≤ 1000000) W (hW : Below w.heap.size w W) (hp : Ints W pv P) => waysI_good v vr i pv P l rs W (HP.out.below hW) (HR.out.below hW) hp hl2 hlr2 hP HFI.out hok)
      have HE := Lib.hid (fun pv (P : List Int) (hP : P.length ≤ 140737488355328) W (hW : Below w.heap.size w W) (hp : Ints W pv P) => edgesI_good v vr pv P l rs W (HP.out.below hW) (HR.out.below hW) hp hl2 hlr2 hP HFI.out hok)
      have HCO := Lib.hid (fun W (hW : Below w.heap.size w W) => count_good v vr l rs W (HP.out.below hW) (HR.out.below hW) hl2 hlr2 HFI.out hok)
      rw [← lgsOf_len l rs] at HCO
      generalize lgsOf l rs = L at *
      generalize szsOf l rs = Z at *
      clear hok
      obtain ⟨m, hm, hmT⟩ : ∃ m : Nat, cut % ((T.length : Int) + 1) = (m : Int) ∧ m ≤ T.length := by
        have h1 := Int.emod_nonneg cut (show (T.length : Int) + 1 ≠ 0 by omega)
        have h2 := Int.emod_lt_of_pos cut (show (0 : Int) < (T.length : Int) + 1 by omega)
        exact ⟨(cut % ((T.length : Int) + 1)).toNat, by omega, by omega⟩
      obtain ⟨po, pc, hsl, hpt⟩ := part_of HT.out (caps_le HCP.out) m hmT
      have HPT := Lib.hid hpt
      have HMT := Lib.hid hmT
      clear hpt
      have htl : T.length ≤ 1000000 := by omega
      have hptl : (T.take m).length ≤ 1000000 := by rw [List.length_take]; omega
      go_enter Try.func9, Try.ntmps9
      go_wp2_with fail
      refine (bawake_any _).mono ?_
      rintro e w1 ⟨rfl, hb1⟩
      have HW1 := Lib.hid hb1
      clear hb1
      go_wp2_with fail
      refine (HFW.out _ HW1.out).mono ?_
      rintro e w2 ⟨q, rfl, hb2, hq⟩
      have HW2 := Lib.hid (bstep HW1.out hb2)
      have HQ := Lib.hid hq
      clear hb2 hq
      cases q
      · go_wp2
        go_ret
        exact ⟨rfl, HW2.out⟩
      · have hL14 := HSM.out (HQ.out rfl)
        clear HQ
        go_wp2_with fail
        refine (HB.out _ T htl _ HW2.out (Sl.below HT.out HW2.out)).mono ?_
        rintro e w3 ⟨o3, rfl, ho3, hn3, hb3⟩
        have HW3 := Lib.hid (bstep HW2.out hb3)
        have HO3 := Lib.hid (And.intro ho3 hn3)
        clear hb3 ho3 hn3
        go_wp2_with fail
        refine (HY.out _ T htl _ HW3.out (Sl.below HT.out HW3.out)).mono ?_
        rintro e w4 ⟨o4, rfl, ho4, hn4, hb4⟩
        have HW4 := Lib.hid (bstep HW3.out hb4)
        have HO4 := Lib.hid (And.intro ho4 hn4)
        have HB34 := Lib.hid hb4
        clear hb4 ho4 hn4
        by_cases hc1 : othE L.length i x T = 0
        · by_cases hc2 : othE L.length i 1 T = 0
          · obtain ⟨⟨i0, i1⟩, hTin, hxa, hnd⟩ := othE_zero hc1
            obtain ⟨i, rfl⟩ : ∃ n : Nat, i = (n : Int) := ⟨i.toNat, by omega⟩
            have ho3 := HO3.out.1 hc1
            have ho4 := HO4.out.1 hc2
            rw [Int.toNat_natCast] at ho3 ho4
            have he3 := othE_part m hc1
            have he4 := othE_part m hc2
            have he5 := othE_nil hc2
            have HC3 := Lib.hid (fun W hW hp => HB.out (.slice po m pc) (T.take m) hptl W hW hp)
            have HC4 := Lib.hid (fun W hW hp => HY.out (.slice po m pc) (T.take m) hptl W hW hp)
            have HC5 := Lib.hid (fun W hW hp => HY.out (.slice none 0 0) [] (by decide) W hW hp)
            have HXA := Lib.hid hxa
            have HTI := Lib.hid hTin
            have HND := Lib.hid hnd
            rw [he3] at HC3
            rw [he4] at HC4
            rw [he5] at HC5
            rw [Int.toNat_natCast] at HC3 HC4 HC5
            have HWN : Hid (waysL L Z i [] = axesL) := ways_nil L Z i
            rw [HWN.out] at HC5
            have HPL := Lib.hid (blkL_part L Z x i T m)
            have HPN := Lib.hid (blkL_part_len L Z x i T m)
            have HWP := Lib.hid (fun a (ha : a ∈ waysL L Z i T) => ways_part m ha)
            have HFX := Lib.hid (few_way L Z i T hxa)
            have HLW : Hid ((waysL L Z i T).length ≤ 140737488355328 ∧ (waysL L Z i (T.take m)).length ≤ 140737488355328 ∧ (blkL L Z x i T).length ≤ 1000000) := by
              have h1 : ∀ P, (waysL L Z i P).length ≤ axesL.length := fun P => List.length_filter_le _ _
              have h2 : (blkL L Z x i T).length ≤ T.length := List.length_filter_le _ _
              have h3 : axesL.length = 6 := rfl
              have h4 := h1 T
              have h5 := h1 (T.take m)
              exact ⟨by omega, by omega, by omega⟩
            obtain ⟨a3, c3, rfl, hle3⟩ := own_cap ho3
            obtain ⟨a4, c4, rfl, hle4⟩ := own_cap ho4
            have HI3 := Lib.hid (ho3.sl.below HB34.out)
            have HI4 := Lib.hid ho4.sl
            have hcb1 : (othE L.length i x T != 0) = false := bne_no hc1
            have hcb2 : (othE L.length i 1 T != 0) = false := bne_no hc2
            have i1' : (i : Int) < (L.length : Int) := i1
            rw [show othE L.length i x T = 0 from hc1, show othE L.length i 1 T = 0 from hc2]
            clear hc1 hc2 he3 he4 he5 hxa hTin hnd ho3 ho4 hcb1 hcb2 HO3 HO4 HWN HB HY HB34
            go_wp2_with fail
            refine (HC3.out _ HW4.out (Sl.below HPT.out HW4.out)).mono ?_
            rintro e w5 ⟨o5, rfl, ho5, _, hb5⟩
            have HW5 := Lib.hid (bstep HW4.out hb5)
            have HI35 := Lib.hid (Sl.below HI3.out hb5)
            have HI45 := Lib.hid (Sl.below HI4.out hb5)
            have ho5 := ho5 rfl
            obtain ⟨a5, c5, rfl, hle5⟩ := own_cap ho5
            have HI5 := Lib.hid ho5.sl
            clear hb5 ho5 HC3 HI3 HI4
            go_wp2_with fail
            refine (HC4.out _ HW5.out (Sl.below HPT.out HW5.out)).mono ?_
            rintro e w6 ⟨o6, rfl, ho6, _, hb6⟩
            have ho6 := ho6 rfl
            obtain ⟨a6, c6, rfl, hle6⟩ := own_cap ho6
            have hbb := bstep hb6 (below_new w6 (.cells #[.slice a6 (waysL L Z i (T.take m)).length c6] 69))
            have HW6 := Lib.hid (bstep HW5.out hbb)
            have HI36 := Lib.hid (Sl.below HI35.out hbb)
            have HI46 := Lib.hid (Sl.below HI45.out hbb)
            have HI56 := Lib.hid (Sl.below HI5.out hbb)
            have HI66 := Lib.hid (Sl.below ho6.sl (below_new w6 (.cells #[.slice a6 (waysL L Z i (T.take m)).length c6] 69)))
            have HBX := Lib.hid (BlkIs.new w6 #[.slice a6 (waysL L Z i (T.take m)).length c6] 69)
            clear hb6 ho6 hbb HC4 HI35 HI45 HI5
            go_wp2_with fail
            refine (HC5.out _ HW6.out (Sl.nil _ _ _ _)).mono ?_
            rintro e w7 ⟨o7, rfl, ho7, _, hb7⟩
            have ho7 := ho7 rfl
            obtain ⟨a7, c7, rfl, hle7⟩ := own_cap ho7
            have HW7 := Lib.hid (bstep HW6.out hb7)
            have HI37 := Lib.hid (Sl.below HI36.out hb7)
            have HI47 := Lib.hid (Sl.below HI46.out hb7)
            have HI57 := Lib.hid (Sl.below HI56.out hb7)
            have HI67 := Lib.hid (Sl.below HI66.out hb7)
            have HBX7 := Lib.hid (HBX.out.below hb7)
            have HEQ1 := Lib.hid (equal_any (.slice a7 axesL.length c7) (.slice (some ⟨w7.heap.size, 0, none⟩) 6 6) axesL axesL _ (Sl.below ho7.sl (below_new w7 (.cells #[.int .i64 1, .int .i64 2, .int .i64 3, .int .i64 (-1), .int .i64 (-2), .int .i64 (-3)] 3))) (axes_lit w7) (by decide) (by decide))
            rw [dec_yes rfl] at HEQ1
            clear hb7 ho7 HC5 HI36 HI46 HI56 HI66 HBX
            go_wp2_with fail
            refine HEQ1.out.mono ?_
            rintro e w8 ⟨rfl, hb8⟩
            have hbb := bstep (below_new w7 (.cells #[.int .i64 1, .int .i64 2, .int .i64 3, .int .i64 (-1), .int .i64 (-2), .int .i64 (-3)] 3)) hb8
            have HW8 := Lib.hid (bstep HW7.out hbb)
            have HI38 := Lib.hid (Sl.below HI37.out hbb)
            have HI48 := Lib.hid (Sl.below HI47.out hbb)
            have HI58 := Lib.hid (Sl.below HI57.out hbb)
            have HI68 := Lib.hid (Sl.below HI67.out hbb)
            have HBX8 := Lib.hid (HBX7.out.below hbb)
            obtain ⟨p8, q8, hs8, hp8⟩ := part_of HI38.out hle3 (blkL L Z x i (T.take m)).length HPN.out
            rw [← HPL.out] at hp8
            have HEQ2 := Lib.hid (equal_any (.slice a5 (blkL L Z x i (T.take m)).length c5) (.slice p8 (blkL L Z x i (T.take m)).length q8) _ _ w8 HI58.out hp8 (by have := HPN.out; have := HLW.out; omega) (by have := HPN.out; have := HLW.out; omega))
            rw [dec_yes rfl] at HEQ2
            have hgt : decide (((blkL L Z x i T).length : Int) < ((blkL L Z x i (T.take m)).length : Int)) = false := dec_no (by have := HPN.out; omega)
            have hgt2 : ¬ ((blkL L Z x i T).length : Int) < ((blkL L Z x i (T.take m)).length : Int) := by have := HPN.out; omega
            have HAN := Lib.hid (fun W (hW : Below w8.heap.size w8 W) => anyInts_any 40 #[.pointer (some ⟨w6.heap.size, 0, none⟩)] (fun a => !decide (a ∈ waysL L Z i (T.take m))) _ (waysL L Z i T) W (Sl.below HI48.out hW) HLW.out.1
              ⟨fun xs W => by rfl, fun a V _ hV => fewer1_any w6.heap.size _ (waysL L Z i (T.take m)) a V (((HBX8.out.below (bstep hW hV)).cell 0)) (Sl.below HI68.out (bstep hW hV)) HLW.out.2.1⟩)
            have HAF : Hid ((waysL L Z i T).any (fun a => !decide (a ∈ waysL L Z i (T.take m))) = false) := by
              unfold Hid
              rw [List.any_eq_false]
              intro a ha
              simp [HWP.out a ha]
            rw [HAF.out] at HAN
            have HCW := Lib.hid (fun W (hW : Below w8.heap.size w8 W) => contains_any _ (waysL L Z i T) x W (Sl.below HI48.out hW) HLW.out.1)
            rw [HFX.out] at HCW
            have HCK := Lib.hid (fun k W (hW : Below w8.heap.size w8 W) => contains_any _ (blkL L Z x i T) k W (Sl.below HI38.out hW) (by have := HLW.out; omega))
            have hq0 : (((blkL L Z x i T).length : Int) == 0) = decide (((blkL L Z x i T).length : Int) = 0) := by rw [Bool.eq_iff_iff]; simp
            have hqq : ∀ b : Bool, (b != b) = false := by intro b; simp
            have HFE := Lib.hid (fun (k : Nat) (hk : k < L.length) (hne : i ≠ k) (hkT : (k : Int) ∈ T) => few_edge (L := L) (Z := Z) (x := x) (by omega : i < L.length) hk hne hkT)
            clear hb8 hbb HI37 HI47 HI57 HI67 HBX7 HEQ1 HWP HAF HI58 HI68 HBX8 HPL HI48
            generalize blkL L Z x i (T.take m) = X5 at *
            generalize hX3 : blkL L Z x i T = X3 at *
            have HX3 := Lib.hid hX3
            clear hX3
            go_wp2_with fail
            refine HEQ2.out.mono ?_
            rintro e w9 ⟨rfl, hb9⟩
            have HB9 := Lib.hid hb9
            clear hb9 HEQ2 hs8 hp8
            go_wp2_with fail
            refine (HAN.out _ HB9.out).mono ?_
            rintro e w10 ⟨rfl, hb10⟩
            have HB10 := Lib.hid (bstep HB9.out hb10)
            clear hb10 HAN
            generalize decide ((X3.length : Int) = 0) = q0 at *
            go_wp2_with fail
            refine (HCW.out _ HB10.out).mono ?_
            rintro e w11 ⟨rfl, rfl⟩
            go_wp2_with fail
            refine (HCO.out _ (bstep HW8.out HB10.out)).mono ?_
            rintro e w12 ⟨rfl, hb12⟩
            have HB12 := Lib.hid (bstep HB10.out hb12)
            clear hb12 HCO HCW
            have HLI : Hid (Ints (w12.alloc (.cells #[.int .i64 x] 3)) (.slice (some ⟨w12.heap.size, 0, none⟩) 1 1) [x]) := by
              have := World.ownsRow_lit w12 #[intv x] 1 (e := 3) (size := 1) (base := 0) (by omega) (by unfold maxLen; omega) rfl
              exact Own.sl (f := intv) (l := [x]) this
            have HRP := Lib.hid (repeat_any (.slice (some ⟨w12.heap.size, 0, none⟩) 1 1) x L.length _ HLI.out (by omega) (by omega))
            have HB12a := Lib.hid (bstep HB12.out (below_new w12 (.cells #[.int .i64 x] 3)))
            clear HLI
            go_wp2_with fail
            refine HRP.out.mono ?_
            rintro e w13 ⟨⟨o13, rfl, ho13⟩, hb13⟩
            obtain ⟨a13, c13, hv13, hle13⟩ := own_cap ho13
            rw [List.length_replicate] at hv13
            subst hv13
            have HB13 := Lib.hid (bstep HB12a.out hb13)
            have HE13 := Lib.hid (HE.out _ (List.replicate L.length x) (by rw [List.length_replicate]; omega) w13 (bstep HW8.out HB13.out) ho13.sl)
            rw [edgE_rep (by omega) HXA.out] at HE13
            clear hb13 HRP ho13 HE hle13 HB12a
            go_wp2_with fail
            refine HE13.out.mono ?_
            rintro e w14 ⟨o14, rfl, ho14, _, hb14⟩
            have ho14 := ho14 rfl
            obtain ⟨a14, c14, rfl⟩ := OwnN.shape ho14
            have HB14 := Lib.hid (bstep HB13.out hb14)
            have HPR := Lib.hid (pairs_of (OwnN.fl pr_len ho14))
            have HEL : Hid ((edgL L Z (List.replicate L.length x) L.length L.length).length ≤ 140737488355328) := by
              have h1 := edgL_len L Z (List.replicate L.length x) L.length L.length
              have h2 : L.length * L.length ≤ 14 * 14 := Nat.mul_le_mul hL14 hL14
              exact Nat.le_trans h1 (Nat.le_trans h2 (by decide))
            clear hb14 HE13 ho14
            generalize edgL L Z (List.replicate L.length x) L.length L.length = E at *
            have HT14 := Lib.hid (Sl.below HT.out (bstep HW8.out HB14.out))
            go_wp2_with fail
            go_loopw [178] (fun c wr => ∃ k : Nat, k ≤ T.length ∧ c = .int .i64 (k : Int) ∧ Below w14.heap.size w14 wr) (fun c _ => T.length - (intOf c).toNat)
            case atStart => exact ⟨0, Nat.zero_le _, rfl, Below.refl _ _⟩
            case round =>
              obtain ⟨k, hk, rfl, hBr⟩ := hrel
              have HBr := Lib.hid hBr
              clear hBr
              by_cases hk2 : k < T.length
              · obtain ⟨y, hy⟩ : ∃ y, T[k]? = some y := ⟨_, List.getElem?_eq_getElem hk2⟩
                obtain ⟨y0, y1⟩ := HTI.out y (List.mem_of_getElem? hy)
                obtain ⟨y, rfl⟩ : ∃ n : Nat, y = (n : Int) := ⟨y.toNat, by omega⟩
                have hyT := List.mem_of_getElem? hy
                obtain ⟨tb, toff, rfl, htb, g0⟩ := zints_get (Sl.below HT14.out HBr.out) hy
                have hne : i ≠ y := fun e => by
                  have := HND.out
                  rw [List.nodup_cons] at this
                  exact this.1 (by rw [e]; exact hyT)
                have HF := Lib.hid (HFE.out y (by omega) hne hyT)
                have HCP2 := Lib.hid (containsPair_any _ E (i : Int) (y : Int) wr (Pairs.below HPR.out HBr.out) HEL.out)
                rw [HF.out] at HCP2
                have HCK2 := Lib.hid (fun W hW => HCK.out (y : Int) W hW)
                clear hy hyT htb hne HF
                generalize decide ((y : Int) ∈ X3) = q1 at *
                go_wp2_with fail
                refine HCP2.out.mono ?_
                rintro e w15 ⟨rfl, hb15⟩
                have HB15 := Lib.hid (bstep HBr.out hb15)
                clear hb15 HCP2 g0
                go_wp2_with fail
                refine (HCK2.out _ (bstep HB14.out HB15.out)).mono ?_
                rintro e w16 ⟨rfl, rfl⟩
                go_wp2
                go_roundw
                case rel => exact ⟨k + 1, by omega, by go_num, HB15.out⟩
                case measure => simp [intOf]; omega
              · obtain rfl : k = T.length := by omega
                have HZ := Lib.hid (bstep HW8.out (bstep HB14.out HBr.out))
                go_wp2
                go_ret
                exact ⟨rfl, HZ.out⟩
          · have hcb1 : (othE L.length i x T != 0) = false := bne_no hc1
            have hcb2 : (othE L.length i 1 T != 0) = true := bne_yes hc2
            have hcb3 : (othE L.length i x T == 0) = true := beq_yes hc1
            have hcb4 : (othE L.length i 1 T == 0) = false := beq_no hc2
            obtain rfl := HO4.out.2 hc2
            clear hc1 hc2
            generalize othE L.length i x T = e1 at *
            generalize othE L.length i 1 T = e2 at *
            go_wp2
            go_ret
            exact ⟨rfl, HW4.out⟩
        · have hcb1 : (othE L.length i x T != 0) = true := bne_yes hc1
          have hcb3 : (othE L.length i x T == 0) = false := beq_no hc1
          obtain rfl := HO3.out.2 hc1
          by_cases hc2 : othE L.length i 1 T = 0
          · have hcb4 : (othE L.length i 1 T == 0) = true := beq_yes hc2
            clear hc1 hc2
            generalize othE L.length i x T = e1 at *
            generalize othE L.length i 1 T = e2 at *
            go_wp2
            go_ret
            exact ⟨rfl, HW4.out⟩
          · have hcb4 : (othE L.length i 1 T == 0) = false := beq_no hc2
            obtain rfl := HO4.out.2 hc2
            clear hc1 hc2
            generalize othE L.length i x T = e1 at *
            generalize othE L.length i 1 T = e2 at *
            go_wp2
            go_ret
            exact ⟨rfl, HW4.out⟩
end Go.Proofs.Ytnlloecbjohfdaa
