/-
  Reference 05: Cycles.
-/
import Derived.Test.YtcaeemcobgopmaaRfD
import Derived.Test.YtcaeemcobgopmaaApp
import Derived.Deep.RegionHeld3
namespace Go.Proofs.Ytcaeemcobgopmaa
open Go.RowKit
set_option linter.unusedVariables false

theorem ULst_forest (ns : List (Nat × Nat)) : ULst ns (inFb ns) = forestOf ns := by
  unfold ULst forestOf idxs inFb
  rw [inF_len]
  refine List.filter_congr fun i _ => ?_
  simp

theorem rway_list (n a b : Nat) (v vl : Value) (ns : List (Nat × Nat)) (U : Nat → Bool) (w : World) (hg : Gr w n v ns) (hl : Nats w vl (ULst ns U)) (ha : a < n) (hb : b < n) :
    Calls Try.prog 44 #[.int .i64 (n : Int), v, vl, .int .i64 (a : Int), .int .i64 (b : Int)] w fun e w' => ∃ ao cap ok, e = .returned (.tuple #[.slice ao (wayTo ns U n b a).length cap, .bool ok]) ∧ Own w' w.heap.size 3 natf (.slice ao (wayTo ns U n b a).length cap) (wayTo ns U n b a) ∧ Below w.heap.size w w' := by
  refine (rway_any n a b v vl ns U w hg hl ha hb).mono ?_
  rintro e w' ⟨⟨_, u, rfl, hu⟩ | ⟨h0, rfl⟩, hb'⟩
  · obtain ⟨ao, cap, rfl⟩ := hu.shape
    exact ⟨ao, cap, true, rfl, hu, hb'⟩
  · rw [wayTo_none h0]
    exact ⟨none, 0, false, rfl, Own.nil _ _ _ _, hb'⟩

def othTo (ns : List (Nat × Nat)) (k : Nat) : List Nat := idxs ((inF ns).take k) false
theorem othTo_succ {ns : List (Nat × Nat)} {k : Nat} (h : k < ns.length) : othTo ns (k + 1) = if inForest ns k = false then othTo ns k ++ [k] else othTo ns k := idxs_snoc (inF ns) false k _ (inF_get h)
theorem othTo_len (ns : List (Nat × Nat)) (k : Nat) : (othTo ns k).length ≤ k := by
  unfold othTo
  have := idxs_len ((inF ns).take k) false
  rw [List.length_take] at this
  omega
theorem othTo_all (ns : List (Nat × Nat)) : othTo ns ns.length = otherOf ns := by
  unfold othTo otherOf
  rw [List.take_of_length_le (by rw [inF_len]; exact Nat.le_refl _)]

set_option maxRecDepth 100000 in
set_option maxHeartbeats 4000000 in
theorem rcycles_any (n : Nat) (v : Value) (ns : List (Nat × Nat)) (w : World) (hg : Gr w n v ns) :
    Calls Try.prog 30 #[.int .i64 (n : Int), v] w fun e w' => ∃ V, e = .returned V ∧ Mat w' w.heap.size V (cyclesOf n ns) ∧ Below w.heap.size w w' := by
  have hn := hg.n_le
  have hm := hg.m_le
  have HG := Lib.hid hg
  clear hg
  obtain ⟨eao, ecap, rfl, _⟩ := HG.out.pairs.open_
  go_enter Try.func30, Try.ntmps30
  go_wp2_with fail
  refine (rforest_any n _ ns _ HG.out).mono ?_
  rintro e w1 ⟨q, rfl, hq, hb1⟩
  obtain ⟨qo, qc, rfl⟩ := hq.shape
  have HQ : Hid (Nats w1 (.slice qo (forestOf ns).length qc) (ULst ns (inFb ns))) := by
    have := hq.sl
    rw [← ULst_forest] at this ⊢
    exact this
  have hz1 := hb1.size
  obtain ⟨fl, hfl⟩ : ∃ fl, (forestOf ns).length = fl := ⟨_, rfl⟩
  rw [hfl] at HQ ⊢
  clear hq hfl
  go_wp2_with fail
  go_loopw [6, 7, 8, 9] (fun s6 s7 s8 s9 wr => ∃ k : Nat, k ≤ ns.length ∧ s7 = .int .i64 (k : Int) ∧ Hid (Mat wr w1.heap.size s6 ((othTo ns k).map (cycRow ns n)) ∧ Below w1.heap.size w1 wr)) (fun _ s7 _ _ _ => ns.length - (intOf s7).toNat)
  case atStart => exact ⟨0, Nat.zero_le _, rfl, by
    have : othTo ns 0 = [] := rfl
    rw [this]
    exact Mat.new (n := 0) (Own.nil _ _ _ _), Below.refl _ _⟩
  case round =>
    obtain ⟨i, hi, rfl, H⟩ := hrel
    have HW := Lib.hid (bstep hb1 H.out.2)
    by_cases hil : i < ns.length
    · have HC := Lib.hid (inForest_any n i _ ns wr (HG.out.below HW.out) hil)
      have HS := Lib.hid (othTo_succ hil)
      obtain ⟨f, hf⟩ : ∃ f, inForest ns i = f := ⟨_, rfl⟩
      rw [hf] at HC HS
      have HF := Lib.hid hf
      clear hf
      go_wp2_with fail
      refine HC.out.mono ?_
      rintro e wo ⟨rfl, hbo⟩
      have hB := bstep H.out.2 hbo
      have HB0 := Lib.hid (bstep hb1 hB)
      have hlen := othTo_len ns i
      have HM := Lib.hid (Mat.below H.out.1 hbo)
      clear H HW hbo
      cases f
      · obtain ⟨⟨x, y⟩, hxy⟩ : ∃ e, ns[i]? = some e := ⟨_, List.getElem?_eq_getElem hil⟩
        have hends := HG.out.ends i _ hxy
        obtain ⟨eb, eoff, rfl, heb, hd1, hd2⟩ := (HG.out.pairs.below HB0.out).edge hxy
        have hrow : cycRow ns n i = i :: wayTo ns (inFb ns) n x y := by simp [cycRow, List.getD, hxy]
        simp only at hd1 hd2 hends
        have hlw := wayTo_len (U := inFb ns) hends.1 HG.out.ends y
        have HROW := Lib.hid hrow
        have HX := Lib.hid hends
        obtain ⟨hx1, hy1, _⟩ := hends
        have hzr := HB0.out.size
        have i0 : (0 : Int) ≤ (i : Int) := Int.natCast_nonneg _
        have i1 : (i : Int) < (ns.length : Int) := by omega
        clear hxy hrow
        obtain ⟨vals, hMV⟩ := HM.out
        obtain ⟨vo, vc, hvs⟩ := hMV.2.1.shape
        subst hvs
        have hvl : vals.length ≤ i := by rw [hMV.1, List.length_map]; exact hlen
        have HMV := Lib.hid hMV
        clear hMV
        obtain ⟨W, hWd⟩ : ∃ W, wayTo ns (inFb ns) n x y = W := ⟨_, rfl⟩
        rw [hWd] at HROW hlw
        have HWD := Lib.hid hWd
        clear hWd
        go_wp2
        go_region_held3 (fun w' => w'.cell? ⟨eb, eoff + i * 2, none⟩ = some (.int .i64 (x : Int)) ∧ w'.cell? ⟨eb, eoff + i * 2 + 1, none⟩ = some (.int .i64 (y : Int)))
          (first
            | go_keep
            | (go_split_ands
               refine ⟨?_, ?_⟩
               · exact (hb9.cell (p := ⟨eb, eoff + i * 2, none⟩) (show eb < wo.heap.size by omega)).trans hd1
               · exact (hb9.cell (p := ⟨eb, eoff + i * 2 + 1, none⟩) (show eb < wo.heap.size by omega)).trans hd2))
          ((go_at_call 44; refine (rway_list n y x _ _ ns (inFb ns) _ ((HG.out.below HB0.out).below (bdraw _)) ((HQ.out.below hB).below (bdraw _)) hy1 hx1).mono ?_; rw [HWD.out]; rintro e w9 ⟨uo, uc, ok, rfl, hu, hb9⟩))
        have hs9 : wo.heap.size ≤ w9.heap.size := hb9.size
        have HU := Lib.hid hu
        have HB94 := Lib.hid (bstep hB (bstep (bdraw 1) hb9))
        have HM9 := Lib.hid (HMV.out.below (bstep (bdraw 1) hb9))
        have hs49 := HB94.out.size
        have hkl1 : vals.length + 1 ≤ 1099511627776 := by omega
        have hlw1 : [i].length + W.length ≤ 1099511627776 := by simp; omega
        clear hu hd1 hd2 hb9
        go_wp2_with (first
          | (at_builtin; refine wpList_app _ rfl _ _ 25 rfl 3 8 elemInt wo.heap.size _ natf _ _ [i] W (fun _ => rfl) (own_lit w9 3 natf i wo.heap.size hs9) (HU.out.alloc _) rfl rfl hlw1 (by omega) (by simp; omega) ?_; intro v6 w6 ho6 hg6 hat6; obtain ⟨ao6, c6, rfl⟩ := ho6.shape; have hz6 := hg6.size)
          | (at_builtin; refine wpList_push w6 rfl _ _ 35 rfl 25 24 elemRow w1.heap.size rowf _ vals _ rfl (HM9.out.only (only_next (World.grownBy_alloc w9 _ none) hg6 (.inr (fun g e => by cases e; exact Nat.le_refl _))) (fun _ e => by cases e)).2.1 rfl rfl hkl1 (by omega) (by simp at hz6; omega) ?_; intro V7 w7 ho7 hg7 hat7))
        have hlen6 : ([i] ++ W).length = W.length + 1 := by simp
        rw [hlen6] at ho6
        have h4r := hB.size
        have hg6' : (w9.alloc (.cells #[.int .i64 (i : Int)] 3)).grownBy w6 (some w9.heap.size) := hg6
        have hM6 := HM9.out.only (only_next (World.grownBy_alloc w9 _ none) hg6' (.inr (fun g e => by cases e; exact Nat.le_refl _))) (fun _ e => by cases e)
        have hF := hM6.pushRow (ho6.mono h4r) (fun g hg j u hu e => by
          have h1 := HMV.out.old j u hu g e
          have h2 := (ho6.lt g hg).1
          omega) ho7 hg7
        have hb7 : Below w1.heap.size w1 w7 := below_grown (below_grown (HB94.out.alloc hs49 _) hg6' (by simp; omega) (fun g e => by cases e; exact hs49)) hg7 (by simp at hz6; omega) (fun g e => (HMV.out.2.1.lt g e).1)
        have htk : (othTo ns (i + 1)).map (cycRow ns n) = (othTo ns i).map (cycRow ns n) ++ [[i] ++ W] := by
          rw [HS.out]
          simp only [if_pos trivial]
          rw [List.map_append, List.map_singleton, HROW.out]
          rfl
        have HFI : Hid (Mat w7 w1.heap.size V7 ((othTo ns (i + 1)).map (cycRow ns n)) ∧ Below w1.heap.size w1 w7) := ⟨⟨_, by rw [htk]; exact hF⟩, hb7⟩
        go_roundw
        case rel => exact ⟨i + 1, by omega, by go_num, HFI⟩
        case measure => simp [intOf]; omega
      · have htk : Hid (othTo ns (i + 1) = othTo ns i) := by
          show _ = _
          rw [HS.out]
          simp
        go_wp2
        go_roundw
        case rel => exact ⟨i + 1, by omega, by go_num, by rw [htk.out]; exact ⟨HM.out, hB⟩⟩
        case measure => simp [intOf]; omega
    · obtain rfl : i = ns.length := by omega
      go_wp2
      go_ret
      refine ⟨_, rfl, ?_, HW.out⟩
      have := H.out.1
      rw [othTo_all] at this
      exact this.mono hz1
end Go.Proofs.Ytcaeemcobgopmaa
