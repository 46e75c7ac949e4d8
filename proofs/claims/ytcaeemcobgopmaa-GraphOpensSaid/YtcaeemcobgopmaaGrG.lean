/-
  Graph: Cycles.
-/
import Derived.Test.YtcaeemcobgopmaaGrT
import Derived.Test.YtcaeemcobgopmaaApp
namespace Go.Proofs.Ytcaeemcobgopmaa
open Go.RowKit
set_option linter.unusedVariables false

theorem cyclesNo_any (n : Int) (v : Value) (l : List (Int × Int)) (w : World) (hp : Pairs w v l) (hl : l.length ≤ 140737488355328) (hv : vld n l = false) :
    Calls Try.prog 27 #[.int .i64 n, v] w fun e w' => e = .returned (.tuple #[.slice none 0 0, .int .i64 1]) ∧ Below w.heap.size w w' := by
  have HV := Lib.hid hv
  clear hv
  go_enter Try.func27, Try.ntmps27
  go_wp2_with (first
    | (go_at_call 19; refine (valid_any n _ l _ hp hl).mono ?_; rw [HV.out]; rintro e w9 ⟨rfl, hb1⟩))
  go_ret2
  exact ⟨rfl, hb1⟩

def inFb (ns : List (Nat × Nat)) (k : Nat) : Bool := (inF ns).getD k false
def cycRow (ns : List (Nat × Nat)) (n i : Nat) : List Nat := i :: wayTo ns (inFb ns) n (ns.getD i (0, 0)).1 (ns.getD i (0, 0)).2
def cyclesOf (n : Nat) (ns : List (Nat × Nat)) : List (List Nat) := (otherOf ns).map (cycRow ns n)

theorem distOf_le {ns : List (Nat × Nat)} {U : Nat → Bool} {n b : Nat} (hb : b < n) (he : Ends n ns) (v : Nat) : distOf ns U n b v ≤ (n : Int) - 1 := by
  have hl : ∀ i ∈ (List.range ns.length).filter U, ∃ e, ns[i]? = some e ∧ e.1 < n ∧ e.2 < n := by
    intro i hi
    have hi := List.mem_range.1 (List.mem_filter.1 hi).1
    have h := he i _ (List.getElem?_eq_getElem hi)
    exact ⟨_, List.getElem?_eq_getElem hi, h.1, h.2.1⟩
  have := (farTo_at hb hl n).ok.bd v
  unfold distOf farOf
  omega
theorem wayL_len (ns : List (Nat × Nat)) (l : List Nat) (d : Nat → Int) : ∀ f x, (wayL ns l d f x).length ≤ f := by
  intro f
  induction f with
  | zero => intro x; simp [wayL]
  | succ f ih =>
    intro x
    unfold wayL
    split
    · simp; exact ih _
    · simp
theorem wayTo_len {ns : List (Nat × Nat)} {U : Nat → Bool} {n b : Nat} (hb : b < n) (he : Ends n ns) (a : Nat) : (wayTo ns U n b a).length ≤ n := by
  have h1 := wayL_len ns ((List.range ns.length).filter U) (distOf ns U n b) (distOf ns U n b a).toNat a
  have h2 := distOf_le (U := U) hb he a
  unfold wayTo
  omega
theorem wayTo_none {ns : List (Nat × Nat)} {U : Nat → Bool} {n b a : Nat} (h : distOf ns U n b a < 0) : wayTo ns U n b a = [] := by
  unfold wayTo
  rw [show (distOf ns U n b a).toNat = 0 by omega]
  rfl

/-- way, by the list alone. -/
theorem way_list (n : Nat) (ve vat : Value) (ns : List (Nat × Nat)) (U : Nat → Bool) (a b : Nat) (w : World) (hn : n ≤ 1000) (hm : ns.length ≤ 4000) (hp : NPairs w ve ns) (hr : Rows w vat (besTo n ns U ns.length)) (he : Ends n ns) (ha : a < n) (hb : b < n) :
    Calls Try.prog 42 #[ve, vat, .int .i64 (a : Int), .int .i64 (b : Int)] w fun e w' => ∃ ao cap ok, e = .returned (.tuple #[.slice ao (wayTo ns U n b a).length cap, .bool ok]) ∧ Own w' w.heap.size 3 natf (.slice ao (wayTo ns U n b a).length cap) (wayTo ns U n b a) ∧ Below w.heap.size w w' := by
  refine (way_any n ve vat ns _ U a b w hn hm hp hr he (besTo_rowOk he hm) ha hb).mono ?_
  rintro e w' ⟨⟨d, hd, hor⟩, hb'⟩
  obtain ⟨h1, h2⟩ := way_eq he ha hb hd
  rw [h2, h1] at hor
  rcases hor with ⟨_, u, rfl, hu⟩ | ⟨h0, rfl⟩
  · obtain ⟨ao, cp, rfl⟩ := hu.shape
    exact ⟨ao, cp, true, rfl, hu, hb'⟩
  · have := wayTo_none h0
    rw [this]
    exact ⟨none, 0, false, rfl, Own.nil _ _ _ _, hb'⟩

theorem cycClos (k : Nat) (g cap len : Nat) (ba : Nat) (l : List Bool) (W : World) (hk : k < l.length) (hc : W.cell? ⟨ba, 0, none⟩ = some (.slice (some ⟨g, 0, none⟩) l.length cap)) (hl : ∀ (j : Nat) x, l[j]? = some x → W.cell? ⟨g, j, none⟩ = some (.bool x)) (hll : l.length ≤ 4000) :
    Calls Try.prog 54 #[.int .i64 (k : Int), .pointer (some ⟨ba, 0, none⟩)] W fun e w1 => e = .returned (.bool (l.getD k false)) ∧ W = w1 := by
  obtain ⟨x, hx⟩ : ∃ x, l[k]? = some x := ⟨_, List.getElem?_eq_getElem hk⟩
  have hcx := hl k x hx
  have HX := Lib.hid (show l.getD k false = x by simp [List.getD, hx])
  have k0 : (0 : Int) ≤ (k : Int) := Int.natCast_nonneg _
  have k1 : (k : Int) < (l.length : Int) := by omega
  clear hl hx
  go_enter Try.func54, Try.ntmps54
  go_wp2
  go_ret
  exact ⟨by rw [HX.out]; rfl, rfl⟩

/-- The rows so far, and the two that stay: the matrix of the forest's edges, and the box of the flags. -/
structure CAt (w : World) (n k : Nat) (ns : List (Nat × Nat)) (at_ V : Value) (wr : World) : Prop where
  rows : Rows wr at_ (besTo n ns (inFb ns) ns.length)
  mat : Mat wr w.heap.size V (((otherOf ns).take k).map (cycRow ns n))
  below : Below w.heap.size w wr

theorem otherOf_len (ns : List (Nat × Nat)) : (otherOf ns).length ≤ ns.length := by
  unfold otherOf idxs
  refine Nat.le_trans (List.length_filter_le _ _) ?_
  rw [List.length_range, inF_len]; exact Nat.le_refl _
theorem otherOf_lt {ns : List (Nat × Nat)} {i : Nat} (h : i ∈ otherOf ns) : i < ns.length := by
  unfold otherOf idxs at h
  have := List.mem_range.1 (List.mem_filter.1 h).1
  rwa [inF_len] at this

set_option maxRecDepth 100000 in
set_option maxHeartbeats 4000000 in
theorem cycles_ok (n : Nat) (v : Value) (ns : List (Nat × Nat)) (w : World) (hg : Gr w n v ns) :
    Calls Try.prog 27 #[.int .i64 (n : Int), v] w fun e w' => (∃ V, e = .returned (.tuple #[V, .int .i64 0]) ∧ Mat w' w.heap.size V (cyclesOf n ns)) ∧ Below w.heap.size w w' := by
  have hcl : (cst ns).length ≤ 140737488355328 := by rw [cst_len]; have := hg.m_le; omega
  have HO := Lib.hid hg.ok
  have hn := hg.n_le
  have hm := hg.m_le
  have HG := Lib.hid hg
  have hp := hg.pairs
  go_enter Try.func27, Try.ntmps27
  go_wp2_with fail
  refine (valid_any n _ (cst ns) _ hp hcl).mono ?_
  rw [HO.out]
  rintro e w1 ⟨rfl, hb1⟩
  go_wp2_with fail
  refine (forest_any n _ ns _ hn hm (hp.below hb1) HG.out.ends).mono ?_
  rintro e w2 ⟨a, u, L, rfl, ha, hu, hL, huf, hb2⟩
  have hB2 := bstep hb1 hb2
  have hz2 := hB2.size
  clear hu hL huf
  obtain ⟨ao, ac, rfl⟩ := ha.shape
  rw [inF_len]
  have HA := Lib.hid ha
  clear ha
  go_wp2_with fail
  have hBx : Below w.heap.size w (w2.alloc (.cells #[.slice ao ns.length ac] 55)) := hB2.alloc hz2 _
  have hcl1 : ∀ W, Below (w2.heap.size + 1) (w2.alloc (.cells #[.slice ao ns.length ac] 55)) W → W.cell? ⟨w2.heap.size, 0, none⟩ = some (.slice ao ns.length ac) := fun W hW => (hW.cell (p := ⟨w2.heap.size, 0, none⟩) (by simp)).trans (by rw [World.cell?_alloc_at _ _ _ _ rfl]; rfl)
  refine (beside_any 54 #[.pointer (some ⟨w2.heap.size, 0, none⟩)] (inFb ns) n v ns _ hn hm (hp.below hBx) HG.out.ends (fun xs W => by rfl) (fun k W hk hW => ?_)).mono ?_
  · have hW' : Below (w2.heap.size + 1) (w2.alloc (.cells #[.slice ao ns.length ac] 55)) W := by simpa using hW
    have hc := hcl1 W hW'
    have hlen := inF_len ns
    have ho := (HA.out.alloc (.cells #[.slice ao ns.length ac] 55)).below hW
    obtain ⟨g, cap, hs, hgl, _⟩ := ho.form (by omega)
    rw [hlen] at hs
    cases hs
    rw [hlen] at ho
    have hkk : k < (inF ns).length := by omega
    rw [← hlen] at hc
    exact cycClos k g ac (inF ns).length w2.heap.size (inF ns) W hkk hc (fun j x hj => ho.cell hj) (by omega)
  rintro e w3 ⟨V, rfl, hM, hb3⟩
  have hB3 := bstep hBx hb3
  have hz3 := hB3.size
  have hcb := hcl1 w3 (by simpa using hb3)
  have hA3 : Bools w3 (.slice ao ns.length ac) (inF ns) := by
    have := (HA.out.alloc (.cells #[.slice ao ns.length ac] 55)).below hb3
    rw [inF_len] at this
    exact this.bools
  have HM := Lib.hid hM.rows
  clear hM hcl1 hb3 HA
  go_wp2_with fail
  refine (indices_any _ (inF ns) false _ hA3 (by rw [inF_len]; omega)).mono ?_
  rintro e w4 ⟨q, rfl, hq, hb4⟩
  have hB4 := bstep hB3 hb4
  have hz4 := hB4.size
  obtain ⟨qo, qc, rfl⟩ := hq.shape
  have HM4 := Lib.hid (HM.out.below hb4)
  have HQ := Lib.hid hq.sl
  have HOL := Lib.hid (otherOf_len ns)
  obtain ⟨L, hLd⟩ : ∃ L, idxs (inF ns) false = L := ⟨_, rfl⟩
  have HLD := Lib.hid (show otherOf ns = L from hLd)
  rw [hLd] at HQ ⊢
  rw [HLD.out] at HOL
  clear hq hA3 hcb HM hLd hb4 hb1 hb2 hBx
  have hll : L.length ≤ 4000 := by have := HOL.out; omega
  go_wp2_with fail
  go_loopw [9, 31] (fun s9 s31 wr => ∃ k : Nat, k ≤ L.length ∧ s31 = .int .i64 k ∧ Hid (Mat wr w4.heap.size s9 ((L.take k).map (cycRow ns n)) ∧ Below w4.heap.size w4 wr)) (fun _ s31 _ => L.length - (intOf s31).toNat)
  case atStart => exact ⟨0, Nat.zero_le _, rfl, (Mat.new (n := 0) (Own.nil _ _ _ _)), Below.refl _ _⟩
  case round =>
    obtain ⟨k, hk, rfl, H⟩ := hrel
    have HW := Lib.hid (bstep hB4 H.out.2)
    by_cases hlt : k < L.length
    · obtain ⟨i, hi⟩ : ∃ i, L[k]? = some i := ⟨_, List.getElem?_eq_getElem hlt⟩
      have hil := otherOf_lt (by rw [HLD.out]; exact List.mem_of_getElem? hi)
      obtain ⟨ao1, c1, hsh, hcc⟩ := HQ.out
      cases hsh
      obtain ⟨qb, qoff, rfl, hqb, hqc⟩ := hcc (by omega)
      have hci := (H.out.2.cell (p := ⟨qb, qoff + k, none⟩) hqb).trans (hqc k i hi)
      obtain ⟨⟨x, y⟩, hxy⟩ : ∃ e, ns[i]? = some e := ⟨_, List.getElem?_eq_getElem hil⟩
      have hends := HG.out.ends i _ hxy
      obtain ⟨eao, ecap, rfl, hec⟩ := hp.open_
      obtain ⟨eb, eoff, rfl, heb, hec⟩ := hec (by omega)
      obtain ⟨he1, he2⟩ := hec i _ hxy
      have hd1 := (HW.out.cell (p := ⟨eb, eoff + i * 2, none⟩) heb).trans he1
      have hd2 := (HW.out.cell (p := ⟨eb, eoff + i * 2 + 1, none⟩) heb).trans he2
      simp only at hd1 hd2 hends
      have hrow : cycRow ns n i = i :: wayTo ns (inFb ns) n x y := by simp [cycRow, List.getD, hxy]
      have hlw := wayTo_len (U := inFb ns) hends.1 HG.out.ends y
      have HI := Lib.hid hi
      have HROW := Lib.hid hrow
      have HX := Lib.hid hends
      obtain ⟨hx1, hy1, _⟩ := hends
      have hzr := HW.out.size
      have i0 : (0 : Int) ≤ (i : Int) := Int.natCast_nonneg _
      have i1 : (i : Int) < (ns.length : Int) := by omega
      clear hcc hqc hi hxy hec he1 he2 hrow
      unfold natf at hci
      obtain ⟨vals, hMV⟩ := H.out.1
      obtain ⟨vo, vc, rfl⟩ := hMV.2.1.shape
      have hvl : vals.length = k := by rw [hMV.1, List.length_map, List.length_take]; omega
      rw [hvl] at hMV ⊢
      have HMV := Lib.hid hMV
      have HVL := Lib.hid hvl
      clear hMV hvl
      obtain ⟨W, hWd⟩ : ∃ W, wayTo ns (inFb ns) n x y = W := ⟨_, rfl⟩
      rw [hWd] at HROW hlw
      have HWD := Lib.hid hWd
      clear hWd
      go_wp2
      go_region_held3 (fun w' => w'.cell? ⟨eb, eoff + i * 2, none⟩ = some (.int .i64 (x : Int)) ∧ w'.cell? ⟨eb, eoff + i * 2 + 1, none⟩ = some (.int .i64 (y : Int)))
        (first
          | go_keep
          | (go_split_ands
             refine ⟨?_, ?_⟩
             · exact (hb9.cell (p := ⟨eb, eoff + i * 2, none⟩) (show eb < wr.heap.size by omega)).trans hd1
             · exact (hb9.cell (p := ⟨eb, eoff + i * 2 + 1, none⟩) (show eb < wr.heap.size by omega)).trans hd2))
        ((go_at_call 42; refine (way_list n _ V ns (inFb ns) y x _ hn hm ((hp.below HW.out).below (bdraw _)) ((HM4.out.below H.out.2).below (bdraw _)) HG.out.ends hy1 hx1).mono ?_; rw [HWD.out]; rintro e w9 ⟨uo, uc, ok, rfl, hu, hb9⟩))
      have hs9 : wr.heap.size ≤ w9.heap.size := hb9.size
      have HU := Lib.hid hu
      have HB94 := Lib.hid (bstep H.out.2 (bstep (bdraw 1) hb9))
      have HM9 := Lib.hid (HMV.out.below (bstep (bdraw 1) hb9))
      have hs49 := HB94.out.size
      have hs0 : w.heap.size ≤ w9.heap.size := by omega
      have hkl1 : vals.length + 1 ≤ 1099511627776 := by rw [HVL.out]; omega
      have hlw1 : [i].length + W.length ≤ 1099511627776 := by simp; omega
      clear hu hd1 hd2 hci hb9
      go_wp2_with (first
        | (at_builtin; refine wpList_app _ rfl _ _ 25 rfl 3 8 elemInt wr.heap.size _ natf _ _ [i] W (fun _ => rfl) (own_lit w9 3 natf i wr.heap.size hs9) (HU.out.alloc _) rfl rfl hlw1 (by omega) (by simp; omega) ?_; intro v6 w6 ho6 hg6 hat6; obtain ⟨ao6, c6, rfl⟩ := ho6.shape; have hz6 := hg6.size)
        | (at_builtin; refine wpList_push w6 rfl _ _ 35 rfl 25 24 elemRow w4.heap.size rowf _ vals _ rfl (HM9.out.only (only_next (World.grownBy_alloc w9 _ none) hg6 (.inr (fun g e => by cases e; exact Nat.le_refl _))) (fun _ e => by cases e)).2.1 rfl rfl hkl1 (by omega) (by simp at hz6; omega) ?_; intro V7 w7 ho7 hg7 hat7; obtain ⟨ao7, c7, rfl⟩ := ho7.shape))
      have hlen6 : ([i] ++ W).length = W.length + 1 := by simp
      have hlen7 : (vals ++ [Value.slice ao6 (W.length + 1) c6]).length = k + 1 := by rw [List.length_append, HVL.out]; rfl
      rw [hlen6] at ho6
      rw [hlen7] at ho7
      have h4r := H.out.2.size
      have hg6' : (w9.alloc (.cells #[.int .i64 (i : Int)] 3)).grownBy w6 (some w9.heap.size) := hg6
      have hM6 := HM9.out.only (only_next (World.grownBy_alloc w9 _ none) hg6' (.inr (fun g e => by cases e; exact Nat.le_refl _))) (fun _ e => by cases e)
      have hF := hM6.pushRow (ho6.mono h4r) (fun g hg j u hu e => by
        have h1 := HMV.out.old j u hu g e
        have h2 := (ho6.lt g hg).1
        omega) ho7 hg7
      have hb7 : Below w4.heap.size w4 w7 := below_grown (below_grown (HB94.out.alloc hs49 _) hg6' (by simp; omega) (fun g e => by cases e; exact hs49)) hg7 (by simp at hz6; omega) (fun g e => (HMV.out.2.1.lt g e).1)
      have htk : (L.take (k + 1)).map (cycRow ns n) = (L.take k).map (cycRow ns n) ++ [[i] ++ W] := by
        rw [List.take_succ_eq_append_getElem hlt, List.map_append, List.map_singleton, (List.getElem?_eq_some_iff.1 HI.out).2, HROW.out]
        rfl
      have HF : Hid (Mat w7 w4.heap.size (.slice ao7 (k + 1) c7) ((L.take (k + 1)).map (cycRow ns n)) ∧ Below w4.heap.size w4 w7) := ⟨⟨_, by rw [htk]; exact hF⟩, hb7⟩
      refine ⟨⟨k + 1, by omega, by go_num, ?_⟩, by simp [intOf]; omega⟩
      rw [HVL.out]
      exact HF
    · have hkl : k = L.length := by omega
      subst hkl
      go_wp2
      go_ret2
      refine ⟨⟨_, rfl, ?_⟩, HW.out⟩
      have := H.out.1
      rw [List.take_length] at this
      unfold cyclesOf
      rw [HLD.out]
      exact this.mono hz4
end Go.Proofs.Ytcaeemcobgopmaa
