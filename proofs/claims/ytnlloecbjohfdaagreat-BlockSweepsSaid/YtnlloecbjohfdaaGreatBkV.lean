/-
  The edges: block.Edges.
-/
import Derived.Test.YtnlloecbjohfdaaGreatBkX
import Derived.Test.YtnlloecbjohfdaaGreatIfn
namespace Go.Proofs.YtnlloecbjohfdaaGreat
open Go.RowKit
set_option linter.unusedVariables false
set_option linter.unusedSimpArgs false
attribute [local go_sem ↓] Go.wp_at_zero Go.wp_at_succ

def prCells (p : Int × Int) : List Value := [.int .i64 p.1, .int .i64 p.2]
theorem pr_len (p : Int × Int) : (prCells p).length = 2 := rfl
theorem pr_one (p : Int × Int) : ∀ u ∈ prCells p, u.oneCell' = true := by intro u hu; simp [prCells] at hu; rcases hu with rfl | rfl <;> rfl
theorem elemPr : ElemN Tryz.prog 63 68 2 16 := elemN_of (z := .agg #[.int .i64 0, .int .i64 0]) Tryz.underlying63 (by kernel_rfl) rfl (by omega)
abbrev OwnPr (w : World) (B : Nat) (v : Value) (l : List (Int × Int)) : Prop := OwnN w B 68 2 prCells v l
theorem edgR_len (L : List (List Bx)) (Z : List Int) (x : Int) (i k : Nat) : (edgR L Z x i k).length ≤ k := by
  unfold edgR
  rw [List.length_map]
  refine Nat.le_trans (List.length_filter_le _ _) ?_
  simp
theorem edgL_len (L : List (List Bx)) (Z : List Int) (X : List Int) (n : Nat) : ∀ i, (edgL L Z X n i).length ≤ i * n := by
  intro i
  induction i with
  | zero => simp [edgL]
  | succ i ih =>
    rw [edgL_succ, List.length_append, Nat.succ_mul]
    have := edgR_len L Z (X.getD i 0) i n
    omega
def edgE (n : Nat) (X : List Int) : Int := if 60 < n then 6 else if X.length = n then (if X.any (fun a => !axB a) then 11 else 0) else 3
theorem edgE_limit {n : Nat} {X : List Int} (h : 60 < n) : edgE n X = 6 := if_pos h
theorem edgE_size {n : Nat} {X : List Int} (h : ¬ 60 < n) (h2 : X.length ≠ n) : edgE n X = 3 := (if_neg h).trans (if_neg h2)
theorem edgE_kind {n : Nat} {X : List Int} (h : ¬ 60 < n) (h2 : X.length = n) (h3 : X.any (fun a => !axB a) = true) : edgE n X = 11 := (if_neg h).trans ((if_pos h2).trans (if_pos h3))
theorem edgE_ok {n : Nat} {X : List Int} (h : ¬ 60 < n) (h2 : X.length = n) (h3 : X.any (fun a => !axB a) = false) : edgE n X = 0 := (if_neg h).trans ((if_pos h2).trans (if_neg (by simp [h3])))
theorem edgE_zero {n : Nat} {X : List Int} (h : edgE n X = 0) : n ≤ 60 ∧ X.length = n ∧ ∀ k, k < n → axB (X.getD k 0) = true := by
  by_cases h1 : 60 < n
  · rw [edgE_limit h1] at h; omega
  · by_cases h2 : X.length = n
    · cases h3 : X.any (fun a => !axB a)
      · refine ⟨by omega, h2, fun k hk => ?_⟩
        rw [List.any_eq_false] at h3
        have := h3 (X.getD k 0) (by rw [List.getD_eq_getElem?_getD, List.getElem?_eq_getElem (by omega)]; exact List.getElem_mem (by omega))
        simpa using this
      · rw [edgE_kind h1 h2 h3] at h; omega
    · rw [edgE_size h1 h2] at h; omega

theorem edges1_any (x : Int) (w : World) : Calls Tryz.prog 86 #[.int .i64 x] w fun e w' => e = .returned (.bool (!axB x)) ∧ Below w.heap.size w w' := by
  have H := Lib.hid (fun W => isAxis_any x W)
  generalize axB x = q at *
  go_enter Tryz.func86, Tryz.ntmps86
  go_wp2_with fail
  refine (H.out _).mono ?_
  rintro e w1 ⟨rfl, hb1⟩
  have HB1 := Lib.hid hb1
  clear hb1
  go_wp2
  go_ret
  exact ⟨rfl, HB1.out⟩

def EdgPost (w : World) (c : Int) (E : List (Int × Int)) (e : Ending) (w' : World) : Prop := ∃ o, e = .returned (.tuple #[o, .int .i64 c]) ∧ (c = 0 → OwnPr w' w.heap.size o E) ∧ (c ≠ 0 → o = .slice none 0 0) ∧ Below w.heap.size w w'
theorem edgesI_bad (v vr tv : Value) (l : List BarD) (rs : List RunD) (w : World) (hp : Bars w v l) (hr : Runs w vr rs) (hl : l.length ≤ 140737488355328) (hlr : rs.length ≤ 140737488355328) (hf : FitB l) (h : laidOk l rs = false) :
    Calls Tryz.prog 35 #[v, vr, tv] w (EdgPost w 1 []) := by
  have HB := Lib.hid (count_bad v vr l rs w hp hr hl hlr hf h)
  clear hp hr h
  go_enter Tryz.func35, Tryz.ntmps35
  go_wp2_with fail
  refine HB.out.mono ?_
  rintro e w1 ⟨rfl, hb1⟩
  have HB1 := Lib.hid hb1
  clear hb1
  go_wp2
  go_ret2
  exact ⟨_, rfl, fun h => by omega, fun _ => rfl, HB1.out⟩
set_option maxRecDepth 100000 in
set_option maxHeartbeats 8000000 in
theorem edgesI_good (v vr tv : Value) (X : List Int) (l : List BarD) (rs : List RunD) (w : World) (hp : Bars w v l) (hr : Runs w vr rs) (ht : Ints w tv X) (hl : l.length ≤ 140737488355328) (hlr : rs.length ≤ 140737488355328) (hlt : X.length ≤ 140737488355328) (hf : FitB l) (h : laidOk l rs = true) :
    Calls Tryz.prog 35 #[v, vr, tv] w (EdgPost w (edgE (lgsOf l rs).length X) (edgL (lgsOf l rs) (szsOf l rs) X (lgsOf l rs).length (lgsOf l rs).length)) := by
  have HCO := Lib.hid (count_good v vr l rs w hp hr hl hlr hf h)
  have HRO := Lib.hid (fun W (hW : Below w.heap.size w W) => rods_good v vr l rs W (hp.below hW) (hr.below hW) hl hlr hf h)
  have HLZ := Lib.hid (lzOk_of h)
  have HT := Lib.hid ht
  rw [← lgsOf_len l rs] at HCO
  generalize lgsOf l rs = L at *
  generalize szsOf l rs = Z at *
  obtain ⟨tpo, tc, rfl⟩ := Sl.at_ ht
  have hLs := HLZ.out.small
  clear hp hr h hf ht
  go_enter Tryz.func35, Tryz.ntmps35
  go_wp2_with fail
  refine HCO.out.mono ?_
  rintro e w1 ⟨rfl, hb1⟩
  have HB1 := Lib.hid hb1
  have HT1 := Lib.hid (Sl.below HT.out hb1)
  have HAN := Lib.hid (anyInts_any 86 #[] (fun a => !axB a) _ X w1 HT1.out hlt ⟨fun xs W => by rfl, fun x W _ _ => edges1_any x W⟩)
  clear hb1 HCO
  by_cases h1 : 60 < L.length
  · have d1 : decide ((60 : Int) < (L.length : Int)) = true := dec_yes (by omega)
    have HE := Lib.hid (edgE_limit (X := X) h1)
    have hh1 : (60 : Int) < (L.length : Int) := by omega
    go_wp2
    go_ret2
    exact ⟨_, by rw [HE.out]; rfl, fun h => by rw [HE.out] at h; omega, fun _ => rfl, HB1.out⟩
  · have d1 : decide ((60 : Int) < (L.length : Int)) = false := dec_no (by omega)
    have hh1 : ¬ (60 : Int) < (L.length : Int) := by omega
    by_cases h2 : X.length = L.length
    · have d2 : ((X.length : Int) != (L.length : Int)) = false := bne_no (by omega)
      obtain ⟨q, hq⟩ : ∃ q, X.any (fun a => !axB a) = q := ⟨_, rfl⟩
      have HQ := Lib.hid hq
      rw [hq] at HAN
      have HX2 := Lib.hid h2
      clear hq h2
      go_wp2_with fail
      refine HAN.out.mono ?_
      rintro e w2 ⟨rfl, hb2⟩
      have HB2 := Lib.hid (bstep HB1.out hb2)
      have HT2 := Lib.hid (Sl.below HT1.out hb2)
      clear hb2 HT1
      cases q
      · have HE := Lib.hid (edgE_ok h1 HX2.out HQ.out)
        have HAXS := Lib.hid (edgE_zero HE.out).2.2
        go_wp2_with fail
        refine (HRO.out _ HB2.out).mono ?_
        rintro e w3 ⟨o, rfl, ho, hb3⟩
        obtain ⟨oo, oc, rfl⟩ := ho.at_
        have HO3 := Lib.hid ho
        have HB3 := Lib.hid (bstep HB2.out hb3)
        have HT3 := Lib.hid (Sl.below HT2.out hb3)
        clear ho hb3 HT2 HRO HB1 HB2
        go_wp2_with fail
        go_loopw [11, 46] (fun o c wr => ∃ i : Nat, i ≤ L.length ∧ c = .int .i64 (i : Int) ∧ Below w3.heap.size w3 wr ∧ OwnPr wr w3.heap.size o (edgL L Z X L.length i)) (fun _ c _ => L.length - (intOf c).toNat)
        case atStart => exact ⟨0, Nat.zero_le _, rfl, Below.refl _ _, OwnN.nil _ _ _ _ _⟩
        case round =>
          obtain ⟨i, hi, rfl, hBr, hown⟩ := hrel
          obtain ⟨wo, rfl⟩ : ∃ wo : World, wo = wr := ⟨_, rfl⟩
          have HBo := Lib.hid hBr
          have HWo := Lib.hid hown
          clear hBr hown
          by_cases hi2 : i < L.length
          · have HES := Lib.hid (edgL_succ L Z X L.length i)
            have HEL := edgL_len L Z X L.length i
            have HE0 : Hid (edgR L Z (X.getD i 0) i 0 = []) := rfl
            have hxa := HAXS.out i hi2
            generalize hx : X.getD i 0 = x at *
            obtain ⟨y, hy⟩ : ∃ y, X[i]? = some y := ⟨_, List.getElem?_eq_getElem (by have := HX2.out; omega)⟩
            obtain rfl : y = x := by rw [List.getD_eq_getElem?_getD, hy] at hx; exact hx
            have HY := Lib.hid hy
            have HBL := Lib.hid (fun (k : Nat) (hk : k < L.length) u u' W hu hu' => blocks_any u u' (L.getD i []) (L.getD k []) (Z.getD i 0) (Z.getD k 0) y W hu hu' (HLZ.out.legs i hi2).2.2 (HLZ.out.legs k hk).2.2 (by have := HLZ.out.legs i hi2; omega) (by have := HLZ.out.legs k hk; omega) (HLZ.out.size i hi2) (HLZ.out.size k hk) hxa)
            generalize edgL L Z X L.length i = E0 at *
            have hE0 : E0.length ≤ 3600 := by
              have : i * L.length ≤ 60 * 60 := Nat.mul_le_mul (by omega) (by omega)
              omega
            clear hx hy hxa HEL
            go_wp2_with fail
            go_loopw [11, 51] (fun o c wr => ∃ k : Nat, k ≤ L.length ∧ c = .int .i64 (k : Int) ∧ Below w3.heap.size w3 wr ∧ OwnPr wr w3.heap.size o (E0 ++ edgR L Z y i k)) (fun _ c _ => L.length - (intOf c).toNat)
            case atStart => exact ⟨0, Nat.zero_le _, rfl, HBo.out, by rw [HE0.out, List.append_nil]; exact HWo.out⟩
            case round =>
              clear HBo HWo HE0
              obtain ⟨k, hk, rfl, hBr, hown⟩ := hrel
              have HB := Lib.hid hBr
              have HW := Lib.hid hown
              clear hBr hown
              by_cases hk2 : k < L.length
              · have HSN := Lib.hid (edgR_succ L Z y i k)
                have hRl := edgR_len L Z y i k
                by_cases hik : i = k
                · have d3 : ((i : Int) != (k : Int)) = false := bne_no (by omega)
                  rw [if_neg (fun h => h.1 hik), List.append_nil] at HSN
                  clear hik
                  go_wp2_with fail
                  refine wp_region_quiet_below (by kernel_rfl) (by kernel_rfl) ?_
                  repeat (go_big_quiet_step ((first
                    | fail)))
                  refine wpQuiet_nil ?_
                  intro _ hw'
                  obtain ⟨⟨nq, osq⟩, hw''⟩ := hw'
                  subst hw''
                  have HB2 := Lib.hid (bstep HB.out (below_regrown wr nq osq))
                  have HW2 := Lib.hid (OwnN.below HW.out (below_regrown wr nq osq))
                  generalize Go.Sort.grow (redrawn wr nq) osq = W2 at *
                  go_wp2
                  go_roundw
                  case rel => exact ⟨k + 1, by omega, by go_num, HB2.out, by rw [HSN.out]; exact HW2.out⟩
                  case measure => simp [intOf]; omega
                · have d3 : ((i : Int) != (k : Int)) = true := bne_yes (by omega)
                  obtain ⟨tb, toff, rfl, htb, g0⟩ := zints_get (Sl.below (Sl.below HT3.out HB.out) (Below.refl _ _)) HY.out
                  obtain ⟨b, off, cap, u, u', hv, hbl, c0, c1, hu, e0, e1, hu'⟩ := rods_two (HO3.out.below HB.out) hi2 hk2
                  cases hv
                  have HBK : Hid (blkAt L Z y i k = blkP (L.getD i []) (L.getD k []) y ((Z.getD i 0 + Z.getD k 0) * (Z.getD i 0 + Z.getD k 0))) := rfl
                  rw [HBK.out] at HSN
                  have HBM := Lib.hid (HBL.out k hk2)
                  have i0 : (0 : Int) ≤ (i : Int) := by omega
                  have i1 : (i : Int) < (L.length : Int) := by omega
                  have i2 : (i : Int) < (X.length : Int) := by have := HX2.out; omega
                  have k0 : (0 : Int) ≤ (k : Int) := by omega
                  have k1 : (k : Int) < (L.length : Int) := by omega
                  have c0 := fun d os => cell_regrown c0 d os
                  have c1 := fun d os => cell_regrown c1 d os
                  have e0 := fun d os => cell_regrown e0 d os
                  have e1 := fun d os => cell_regrown e1 d os
                  have g0 := fun d os => cell_regrown g0 d os
                  have HU := Lib.hid hu
                  have HU' := Lib.hid hu'
                  have HIK := Lib.hid hik
                  generalize blkP (L.getD i []) (L.getD k []) y ((Z.getD i 0 + Z.getD k 0) * (Z.getD i 0 + Z.getD k 0)) = q at *
                  generalize Z.getD i 0 = zi at *
                  generalize Z.getD k 0 = zm at *
                  generalize L.getD i [] = Li at *
                  generalize L.getD k [] = Lm at *
                  clear hu hu' hbl htb HBL HBK hik
                  cases q
                  · rw [if_neg (fun h => by cases h.2), List.append_nil] at HSN
                    go_wp2_with fail
                    refine wp_region_quiet_below (by kernel_rfl) (by kernel_rfl) ?_
                    repeat (go_big_quiet_step ((first
                      | (go_at_call 65; exact Calls.regrown_of (HBM.out _ _ _ (HU.out.below (below_regrown _ _ _)) (HU'.out.below (below_regrown _ _ _)))))))
                    refine wpQuiet_nil ?_
                    intro _ hw'
                    obtain ⟨⟨nq, osq⟩, hw''⟩ := hw'
                    subst hw''
                    have HB2 := Lib.hid (bstep HB.out (below_regrown wr nq osq))
                    have HW2 := Lib.hid (OwnN.below HW.out (below_regrown wr nq osq))
                    clear c0 c1 e0 e1 g0 HBM
                    generalize Go.Sort.grow (redrawn wr nq) osq = W2 at *
                    go_wp2
                    go_roundw
                    case rel => exact ⟨k + 1, by omega, by go_num, HB2.out, by rw [HSN.out]; exact HW2.out⟩
                    case measure => simp [intOf]; omega
                  · rw [if_pos ⟨HIK.out, rfl⟩] at HSN
                    go_wp2_with fail
                    refine wp_region_quiet_below (by kernel_rfl) (by kernel_rfl) ?_
                    repeat (go_big_quiet_step ((first
                      | (go_at_call 65; exact Calls.regrown_of (HBM.out _ _ _ (HU.out.below (below_regrown _ _ _)) (HU'.out.below (below_regrown _ _ _)))))))
                    refine wpQuiet_nil ?_
                    intro _ hw'
                    obtain ⟨⟨nq, osq⟩, hw''⟩ := hw'
                    subst hw''
                    have HB2 := Lib.hid (bstep HB.out (below_regrown wr nq osq))
                    have HW2 := Lib.hid (OwnN.below HW.out (below_regrown wr nq osq))
                    clear c0 c1 e0 e1 g0 HBM
                    generalize Go.Sort.grow (redrawn wr nq) osq = W2 at *
                    have hbase : w3.heap.size ≤ W2.heap.size := HB2.out.size
                    have hln : (E0 ++ edgR L Z y i k).length + 1 ≤ 1099511627776 := by rw [List.length_append]; omega
                    generalize hE1 : E0 ++ edgR L Z y i k = E1 at *
                    have HE1 := Lib.hid hE1
                    clear hE1
                    go_wp2_with (at_builtin; refine wpList_pushAt _ W2.heap.size (by simp) rfl _ _ 63 rfl 68 2 16 elemPr w3.heap.size prCells _ _ ((i : Int), (k : Int)) _ rfl rfl (pr_one _) HW2.out rfl rfl hln (by omega) hbase ?_; intro v' w' hown' hg' hat'; have HW9 := Lib.hid hown'; have HB9 := Lib.hid (HB2.out.grown hg' hbase (fun j hj => (HW2.out.lt j hj).1)); clear hown' hg' hat')
                    go_roundw
                    case rel => exact ⟨k + 1, by omega, by go_num, HB9.out, by rw [HSN.out, ← List.append_assoc, HE1.out]; exact HW9.out⟩
                    case measure => simp [intOf]; omega
              · obtain rfl : k = L.length := by omega
                go_wp2
                go_roundw
                case rel => exact ⟨i + 1, by omega, by go_num, HB.out, by rw [HES.out]; exact HW.out⟩
                case measure => simp [intOf]; omega
          · obtain rfl : i = L.length := by omega
            have hz : w.heap.size ≤ w3.heap.size := HB3.out.size
            go_wp2
            go_ret2
            exact ⟨_, by rw [HE.out]; rfl, fun _ => OwnN.mono HWo.out hz, fun h => absurd HE.out h, bstep HB3.out HBo.out⟩
      · have HE := Lib.hid (edgE_kind h1 HX2.out HQ.out)
        go_wp2
        go_ret2
        exact ⟨_, by rw [HE.out]; rfl, fun h => by rw [HE.out] at h; omega, fun _ => rfl, HB2.out⟩
    · have d2 : ((X.length : Int) != (L.length : Int)) = true := bne_yes (by omega)
      have HE := Lib.hid (edgE_size h1 h2)
      clear h2
      go_wp2
      go_ret2
      exact ⟨_, by rw [HE.out]; rfl, fun h => by rw [HE.out] at h; omega, fun _ => rfl, HB1.out⟩
end Go.Proofs.YtnlloecbjohfdaaGreat
