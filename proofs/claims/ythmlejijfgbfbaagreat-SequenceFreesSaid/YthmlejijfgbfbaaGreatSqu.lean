/-
  Reference 39: Free (printed by wip/gen_Squ.py).
-/
import Derived.Test.YthmlejijfgbfbaaGreatSqn
namespace Go.Proofs.YthmlejijfgbfbaaGreat
section
open Go.RowKit
set_option linter.unusedVariables false
set_option linter.unusedSimpArgs false
attribute [local go_sem ↓] Go.wp_at_zero Go.wp_at_succ

/-- The last of the first k that has a way. -/
def bestK (L : List (List Bx)) (Z : List Int) (left : List Nat) (k : Nat) : Option Nat := (left.take k).reverse.find? fun i => !(wysF L Z left i).isEmpty
def optI : Option Nat → Int
  | none => -1
  | some i => (i : Int)
theorem bestK_no {L : List (List Bx)} {Z : List Int} {left : List Nat} {k y : Nat} (hy : left[k]? = some y) (h : wysF L Z left y = []) : bestK L Z left (k + 1) = bestK L Z left k := by
  have hk := (List.getElem?_eq_some_iff.1 hy).1
  unfold bestK
  rw [List.take_succ_eq_append_getElem hk, (List.getElem?_eq_some_iff.1 hy).2, List.reverse_append, List.reverse_singleton, List.singleton_append, List.find?_cons_of_neg (by rw [h]; simp)]
theorem bestK_yes {L : List (List Bx)} {Z : List Int} {left : List Nat} {k y : Nat} (hy : left[k]? = some y) (h : wysF L Z left y ≠ []) : bestK L Z left (k + 1) = some y := by
  have hk := (List.getElem?_eq_some_iff.1 hy).1
  unfold bestK
  rw [List.take_succ_eq_append_getElem hk, (List.getElem?_eq_some_iff.1 hy).2, List.reverse_append, List.reverse_singleton, List.singleton_append, List.find?_cons_of_pos (by simpa using h)]
theorem bestK_all (L : List (List Bx)) (Z : List Int) (left : List Nat) : bestK L Z left left.length = pickF L Z left := by unfold bestK pickF; rw [List.take_length]
/-- The axes so far: those of the bars that are out, and that of the one in hand. -/
structure RfA (L : List (List Bx)) (Z : List Int) (s : FrS) (n : Nat) (A : List Int) (b : Option Nat) : Prop where
  len : A.length = n
  old : ∀ x ∈ s.ord, A.getD x 0 = s.ax.getD x 0
  new : ∀ i, b = some i → A.getD i 0 = (wysF L Z s.left i).headD 0
theorem RfA.step {L : List (List Bx)} {Z : List Int} {s : FrS} {n : Nat} {A : List Int} {b : Option Nat} (h : RfA L Z s n A b) {y : Nat} (hy : y ∉ s.ord) (hn : y < n) : RfA L Z s n (A.set y ((wysF L Z s.left y).headD 0)) (some y) := by
  have hg := getD_setJ (A := A) (v := y) (by rw [h.len]; exact hn)
  refine ⟨by rw [List.length_set]; exact h.len, fun x hx => ?_, fun i hi => ?_⟩
  · rw [hg, if_neg (fun e => by subst e; exact hy hx)]; exact h.old x hx
  · cases hi; rw [hg, if_pos rfl]
theorem RfA.pick {L : List (List Bx)} {Z : List Int} {s : FrS} {n i : Nat} {A : List Int} (h : RfA L Z s n A (some i)) (hi : i < n) (hal : s.ax.length = n) (hno : i ∉ s.ord) : RfA L Z ⟨woN s.left i, s.ord ++ [i], s.ax.set i ((wysF L Z s.left i).headD 0)⟩ n A none := by
  have hg := getD_setJ (A := s.ax) (v := i) (by rw [hal]; exact hi)
  refine ⟨h.len, fun x hx => ?_, fun j hj => by cases hj⟩
  show A.getD x 0 = (s.ax.set i _).getD x 0
  rw [hg]
  rcases List.mem_append.1 hx with h1 | h1
  · rw [if_neg (fun e => by subst e; exact hno h1)]; exact h.old x h1
  · rw [List.mem_singleton] at h1; subst h1; rw [if_pos rfl]; exact h.new x rfl
theorem RfA.all {L : List (List Bx)} {Z : List Int} {s : FrS} {n : Nat} {A : List Int} (h : RfA L Z s n A none) (hI : FrI L Z n n s) : A = s.ax := by
  refine List.ext_getElem? fun x => ?_
  by_cases hx : x < n
  · have h1 := h.old x (nodup_full hI.ond hI.olt hI.olen hx)
    have h2 := h.len
    have h3 := hI.alen
    rw [List.getD_eq_getElem?_getD, List.getD_eq_getElem?_getD, List.getElem?_eq_getElem (by omega), List.getElem?_eq_getElem (by omega)] at h1
    rw [List.getElem?_eq_getElem (by omega), List.getElem?_eq_getElem (by omega)]
    exact congrArg some h1
  · rw [List.getElem?_eq_none (by have := h.len; omega), List.getElem?_eq_none (by have := hI.alen; omega)]
structure RfW (w : World) (Z n : Nat) (vL vO : Value) (left O : List Nat) (A : List Int) (W : World) : Prop where
  below : Below w.heap.size w W
  left : Own W w.heap.size 3 natf vL left
  ap : ∀ g, vL.ownBlock = some g → g ≠ Z
  out : Own W (Z + 1) 3 natf vO O
  ax : Own W w.heap.size 3 intf (.slice (some ⟨Z, 0, none⟩) n n) A
  hZ : w.heap.size ≤ Z
theorem RfW.lt {w : World} {Z n : Nat} {vL vO : Value} {left O : List Nat} {A : List Int} {W : World} (h : RfW w Z n vL vO left O A W) : Z < W.heap.size := (h.ax.lt Z rfl).2
theorem RfW.after {w : World} {Z n : Nat} {vL vO : Value} {left O : List Nat} {A : List Int} {W W' : World} (h : RfW w Z n vL vO left O A W) (hb : Below W.heap.size W W') : RfW w Z n vL vO left O A W' :=
  ⟨bstep h.below hb, h.left.below hb, h.ap, h.out.below hb, h.ax.below hb, h.hZ⟩
theorem RfW.set {w : World} {Z n : Nat} {vL vO : Value} {left O : List Nat} {A : List Int} {W : World} (h : RfW w Z n vL vO left O A W) (i : Nat) (x : Int) : RfW w Z n vL vO left O (A.set i x) (W.setCell ⟨Z, i, none⟩ (.int .i64 x)) :=
  ⟨h.below.setCell h.hZ _, h.left.only (only_set W Z i _) (fun g e e2 => by cases e2; exact h.ap _ e rfl), h.ap, h.out.only (only_set W Z i _) (fun g e e2 => by cases e2; have := (h.out.lt _ e).1; omega), h.ax.set i x, h.hZ⟩
theorem RfW.pick {w : World} {Z n i : Nat} {vL vO vL' vO' : Value} {left O left' O' : List Nat} {A : List Int} {W W5 W7 : World} (h : RfW w Z n vL vO left O A W) (hb : Below W.heap.size W W5)
    (hl : Own W5 W.heap.size 3 natf vL' left') (ho : Own W7 (Z + 1) 3 natf vO' O') (hg : (W5.alloc (.cells #[natf i] 3)).grownBy W7 (some W5.heap.size)) : RfW w Z n vL' vO' left' O' A W7 := by
  have h5 := (h.after hb).after (below_new W5 (.cells #[natf i] 3))
  have hs := hb.size
  have hws := h.below.size
  have hZl := h.lt
  refine ⟨h5.below.grown hg h5.below.size (fun g e => by cases e; omega), ((hl.alloc _).only hg (fun g e e2 => by cases e2; have := (hl.lt _ e).2; omega)).mono hws, fun g e => by have := (hl.lt g e).1; omega, ho, h5.ax.only hg (fun g e e2 => by cases e2; have := ((h.after hb).ax.lt _ e).2; omega), h.hZ⟩
theorem rfree_bad (v vr : Value) (l : List BarD) (rs : List RunD) (w : World) (hA : SqA w v vr l rs) (h : laidOk l rs = false) :
    Calls Tryz.prog 47 #[v, vr] w fun e w' => e = .returned (.tuple #[.slice none 0 0, .slice none 0 0, .int .i64 1]) ∧ Below w.heap.size w w' := by
  have HV := Lib.hid (fun W (hW : Below w.heap.size w W) => rlaid_any v vr l rs W (hA.hp.below hW) (hA.hr.below hW) hA.hl hA.hlr hA.hf)
  rw [h] at HV
  clear hA h
  go_enter Tryz.func47, Tryz.ntmps47
  go_wp2_with fail
  refine (HV.out _ (Below.refl _ _)).mono ?_
  rintro e w1 ⟨rfl, hb1⟩
  have HB := Lib.hid hb1
  clear hb1
  go_wp2
  (try rw [Exit.noGoto_ret])
  exact bodyPost_ret (v := .tuple #[.slice none 0 0, .slice none 0 0, .int .i64 1]) (by simp [results, Tryz.results47, go_sem]) rfl ⟨rfl, HB.out⟩
set_option maxRecDepth 100000 in
set_option maxHeartbeats 4000000 in
theorem rfree_good (v vr : Value) (l : List BarD) (rs : List RunD) (w : World) (hA : SqA w v vr l rs) (h : laidOk l rs = true) :
    Calls Tryz.prog 47 #[v, vr] w (FreePost w (lgsOf l rs) (szsOf l rs) (lgsOf l rs).length) := by
  have h14 := hA.h14 h
  have HV := Lib.hid (fun W (hW : Below w.heap.size w W) => rlaid_any v vr l rs W (hA.hp.below hW) (hA.hr.below hW) hA.hl hA.hlr hA.hf)
  rw [h] at HV
  have HC := Lib.hid (fun W (hW : Below w.heap.size w W) => rcnt39 (hA.below hW) h)
  have HWY := Lib.hid (fun (i : Nat) (tv : Value) (T : List Nat) W (hi : i < (lgsOf l rs).length) (hW : Below w.heap.size w W) (ht : Ints W tv (ntI T)) (hT : (∀ k ∈ ntI T, 0 ≤ k ∧ k < ((lgsOf l rs).length : Int)) ∧ (ntI T).length ≤ 1000000) => rways_any v vr tv i (ntI T) l rs W (hA.hp.below hW) (hA.hr.below hW) ht hA.hl h hi hT.1 hT.2)
  generalize hL : lgsOf l rs = L at *
  generalize hZ : szsOf l rs = Zs at *
  generalize hn : L.length = n at *
  clear hA h hL hZ hn
  have k1 : decide ((60 : Int) < (n : Int)) = false := dec_no (by omega)
  have k2 : decide (60 < n) = false := dec_no (by omega)
  go_enter Tryz.func47, Tryz.ntmps47
  go_wp2_with fail
  refine (HV.out _ (Below.refl _ _)).mono ?_
  rintro e w1 ⟨rfl, hb1⟩
  have HB1 := Lib.hid hb1
  clear hb1 HV
  go_wp2_with fail
  refine (HC.out _ HB1.out).mono ?_
  rintro e w2 ⟨rfl, rfl⟩
  clear HC
  by_cases hn0 : n = 0
  · subst hn0
    go_wp2
    (try rw [Exit.noGoto_ret])
    exact bodyPost_ret (v := .tuple #[.slice none 0 0, .slice none 0 0, .int .i64 0]) (by simp [results, Tryz.results47, go_sem]) rfl (.inl ⟨_, _, _, rfl, rfl, Own.nil _ _ _ _, Own.nil _ _ _ _, HB1.out⟩)
  · have k3 : ((n : Int) == 0) = false := beq_no (by omega)
    go_wp2_with fail
    go_loopw [8, 10] (fun o i wr => ∃ k : Nat, k ≤ n ∧ i = .int .i64 (k : Int) ∧ Below w1.heap.size w1 wr ∧ Own wr w1.heap.size 3 natf o (List.range k)) (fun _ i _ => n - (intOf i).toNat)
    case atStart => exact ⟨0, Nat.zero_le _, rfl, Below.refl _ _, Own.nil _ _ _ _⟩
    case round =>
      obtain ⟨k, hk, rfl, hBr, hown⟩ := hrel
      have HB := Lib.hid hBr
      have HO := Lib.hid hown
      clear hBr hown
      obtain ⟨oo, oc, hoo⟩ := HO.out.shape
      rw [List.length_range] at hoo
      subst hoo
      by_cases hk2 : k < n
      · have hln : (List.range k).length + 1 ≤ 1099511627776 := by rw [List.length_range]; omega
        have hb0 : w1.heap.size ≤ wr.heap.size := HB.out.size
        have HRS := Lib.hid (List.range_succ (n := k))
        generalize List.range k = Rk at *
        go_wp2_with (at_builtin; refine wpList_pushO wr wr.heap.size rfl rfl _ _ 24 rfl 3 8 elemInt w1.heap.size natf _ _ k rfl HO.out rfl rfl hln (by omega) hb0 ?_; intro v' w' hown' hg' hat'; have HW9 := Lib.hid hown'; have HB9 := Lib.hid (HB.out.grown hg' hb0 (fun j hj => (HO.out.lt j hj).1)); clear hown' hg' hat')
        go_roundw
        case rel => exact ⟨k + 1, by omega, by go_num, HB9.out, by rw [HRS.out]; exact HW9.out⟩
        case measure => simp [intOf]; omega
      · obtain rfl : n = k := by omega
        have hmk := fun W => run_make_one (P := Tryz.prog) 24 3 8 (.int .i64 0) Tryz.underlying24 (by kernel_rfl) (by omega) n (by omega) W
        obtain ⟨Z, hZ⟩ : ∃ Z, wr.heap.size = Z := ⟨_, rfl⟩
        obtain ⟨W2, hW2⟩ : ∃ W2, wr.alloc (.cells (madeCells #[Value.int .i64 0] n) 3) = W2 := ⟨_, rfl⟩
        have HR0 : Hid (RfW w Z n (.slice oo n oc) (.slice none 0 0) (List.range n) [] (List.replicate n 0) W2 ∧ RfA L Zs ⟨List.range n, [], List.replicate n 0⟩ n (List.replicate n 0) none) := by
          have hw1 := HB1.out.size
          have hw2 := HB.out.size
          have ha : Own (wr.alloc (.cells (madeCells #[Value.int .i64 0] n) 3)) w.heap.size 3 intf (.slice (some ⟨wr.heap.size, 0, none⟩) n n) (List.replicate n 0) := own_made wr 3 intf 0 (.int .i64 0) rfl n (by omega) w.heap.size (by omega)
          rw [hZ, hW2] at ha
          have hb : Below wr.heap.size wr W2 := by rw [← hW2]; exact below_new _ _
          refine ⟨⟨bstep (bstep HB1.out HB.out) hb, (HO.out.below hb).mono hw1, fun g e => ?_, Own.nil _ _ _ _, ha, by omega⟩, ⟨by simp, fun x hx => by simp at hx, fun i e => by cases e⟩⟩
          have := (HO.out.lt g e).2
          omega
        go_wp2_with fail
        (try rw [hZ]); (try rw [hW2])
        clear hW2 hmk HB HO hk hk2
        go_loopg [8, 9] n (fun m s8 s9 wr => ∃ s A, Hid (s.left.length = m ∧ (∃ k, freeTo L Zs n k = some s) ∧ RfW w Z n s8 s9 s.left s.ord.reverse A wr ∧ RfA L Zs s n A none))
        case atStart => exact ⟨⟨List.range n, [], List.replicate n 0⟩, List.replicate n 0, by simp, ⟨0, rfl⟩, HR0.out.1, HR0.out.2⟩
        case round =>
          clear HR0
          obtain ⟨s, A, HR⟩ := hrel
          obtain ⟨wo, rfl⟩ : ∃ wo : World, wo = wr := ⟨_, rfl⟩
          obtain ⟨hm, ⟨k0, hF⟩, hRW, hRA⟩ := HR.out
          have HI := Lib.hid (frI_all k0 s hF)
          have HF := Lib.hid hF
          have HRW := Lib.hid hRW
          have HRA := Lib.hid hRA
          have hgn : gk ≤ 14 := by have := HI.out.llen; omega
          obtain ⟨oo2, oc2, hoo2⟩ := hRW.out.shape
          obtain ⟨ol, hol⟩ : ∃ r, s.ord.reverse.length = r := ⟨_, rfl⟩
          rw [hol] at hoo2
          subst hoo2
          clear hol
          clear HR hF hRW hRA
          by_cases hm0 : gk = 0
          · obtain ⟨lo, lc, hlo⟩ := HRW.out.left.shape
            rw [hm, hm0] at hlo
            subst hlo
            have hkn : k0 = n := by have := HI.out.llen; omega
            subst hkn
            have hAx := RfA.all HRA.out HI.out
            subst hAx
            clear hm hm0
            go_wp2
            (try rw [Exit.noGoto_ret])
            have hz := HRW.out.hZ
            exact bodyPost_ret (v := .tuple #[.slice oo2 ol oc2, .slice (some ⟨Z, 0, none⟩) k0 k0, .int .i64 0]) (by simp [results, Tryz.results47, go_sem]) rfl (.inl ⟨s, _, _, HF.out, rfl, HRW.out.out.mono (by omega), HRW.out.ax, HRW.out.below⟩)
          · obtain ⟨m, hgm⟩ : ∃ m, gk = m := ⟨_, rfl⟩
            obtain ⟨g, lc, hv, hg1, hg2, hgb⟩ := HRW.out.left.form (by omega)
            rw [hm, hgm] at hv
            subst hv
            have hgz := HRW.out.ap g hgb
            have d1 : decide ((0 : Int) < (m : Int)) = true := dec_yes (by omega)
            have d2 : decide (0 < m) = true := dec_yes (by omega)
            have HM := Lib.hid (hm.trans hgm)
            have HGM := Lib.hid hgm
            have hmn : m ≤ 14 := by omega
            have hm1 : 0 < m := by omega
            clear hm hm0 hgm hgn hgb
            go_wp2_with fail
            go_loopw [12, 13] (fun s12 s13 wi => ∃ k : Nat, k ≤ m ∧ s13 = .int .i64 (k : Int) ∧ s12 = .int .i64 (optI (bestK L Zs s.left k)) ∧ ∃ A', Hid (RfW w Z n (.slice (some ⟨g, 0, none⟩) m lc) (.slice oo2 ol oc2) s.left s.ord.reverse A' wi ∧ RfA L Zs s n A' (bestK L Zs s.left k))) (fun _ s13 _ => m - (intOf s13).toNat)
            case atStart => exact ⟨0, Nat.zero_le _, rfl, rfl, A, HRW.out, HRA.out⟩
            case round =>
              obtain ⟨k, hk, rfl, rfl, A', HR⟩ := hrel
              by_cases hk2 : k < m
              · obtain ⟨y, hy⟩ : ∃ y, s.left[k]? = some y := ⟨_, List.getElem?_eq_getElem (by have := HM.out; omega)⟩
                have hyn : y < n := HI.out.llt y (List.mem_of_getElem? hy)
                have hyo : Hid (y ∉ s.ord) := fun h => HI.out.apart y h (List.mem_of_getElem? hy)
                have G0 := Lib.hid (HR.out.1.left.cell hy)
                unfold natf at G0
                have hgl : g < wr.heap.size := (HR.out.1.left.lt g rfl).2
                have HBN := Lib.hid (fun h => bestK_no (L := L) (Z := Zs) hy h)
                have HBY := Lib.hid (fun h => bestK_yes (L := L) (Z := Zs) hy h)
                have HWO : Hid (Calls Tryz.prog 97 #[.slice (some ⟨g, 0, none⟩) m lc, .int .i64 (y : Int)] wr.drew fun e w' => ∃ o, e = .returned o ∧ Hid (Own w' wr.drew.heap.size 3 natf o (woN s.left y)) ∧ Below wr.drew.heap.size wr.drew w') :=
                  rwo_any _ s.left y wr.drew (HR.out.1.left.drawN 1).sl (by have := HM.out; omega)
                have HTY : Hid ((∀ k ∈ ntI (woN s.left y), 0 ≤ k ∧ k < (n : Int)) ∧ (ntI (woN s.left y)).length ≤ 1000000) := by
                  refine ⟨fun x hx => ?_, ?_⟩
                  · unfold ntI at hx
                    obtain ⟨z, hz, rfl⟩ := List.mem_map.1 hx
                    have := HI.out.llt z (woN_mem.1 hz).1
                    omega
                  · rw [ntI_len]
                    have := woN_le s.left y
                    have := HM.out
                    omega
                have f0 := G0.out
                have b0 : (0 : Int) ≤ (k : Int) := Int.natCast_nonneg _
                have b1 : (k : Int) < (m : Int) := by omega
                clear hy
                go_wp2_with fail
                refine wp_region_held_drew (S := fun W => W.cell? ⟨g, k, none⟩ = some (.int .i64 (y : Int))) (by kernel_rfl) G0.out (fun hS => ?_)
                refine wpAnyH_takeV (i := 0) (some 45) v rfl rfl (by kernel_rfl) (fun _ _ _ h => h) (Or.inl ⟨by rfl, (fun W _ => by rfl)⟩) hS ?_
                simp only [Act.put, List.setIfInBounds_toArray, List.set_cons_zero, List.set_cons_succ]
                refine wpAnyH_takeV (i := 1) (some 46) vr rfl rfl (by kernel_rfl) (fun _ _ _ h => h) (Or.inl ⟨by rfl, (fun W _ => by rfl)⟩) hS ?_
                simp only [Act.put, List.setIfInBounds_toArray, List.set_cons_zero, List.set_cons_succ]
                refine wpAnyH_takeV (i := 2) (some 47) (.slice (some ⟨g, 0, none⟩) m lc) rfl rfl (by kernel_rfl) (fun _ _ _ h => h) (Or.inl ⟨by rfl, (fun W _ => by rfl)⟩) hS ?_
                simp only [Act.put, List.setIfInBounds_toArray, List.set_cons_zero, List.set_cons_succ]
                refine wpAnyH_takeV (i := 3) (some 48) (.int .i64 (k : Int)) rfl rfl (by kernel_rfl) (fun _ _ _ h => h) (Or.inl ⟨by rfl, (fun W _ => by rfl)⟩) hS ?_
                simp only [Act.put, List.setIfInBounds_toArray, List.set_cons_zero, List.set_cons_succ]
                refine wpAnyH_takeV (i := 4) (some 49) (.pointer (some ⟨g, k, none⟩)) rfl rfl (by kernel_rfl) (fun _ _ _ h => h) (Or.inl ⟨by rfl, (by intro W hW; go_simp)⟩) hS ?_
                simp only [Act.put, List.setIfInBounds_toArray, List.set_cons_zero, List.set_cons_succ]
                refine wpAnyH_takeV (i := 5) (some 50) (.int .i64 (y : Int)) rfl rfl (by kernel_rfl) (fun _ _ _ h => h) (Or.inl ⟨by rfl, (by intro W hW; go_simp)⟩) hS ?_
                simp only [Act.put, List.setIfInBounds_toArray, List.set_cons_zero, List.set_cons_succ]
                refine wpAnyH_takeV (i := 6) (some 51) (.slice (some ⟨g, 0, none⟩) m lc) rfl rfl (by kernel_rfl) (fun _ _ _ h => h) (Or.inl ⟨by rfl, (fun W _ => by rfl)⟩) hS ?_
                simp only [Act.put, List.setIfInBounds_toArray, List.set_cons_zero, List.set_cons_succ]
                refine wpAnyH_takeV (i := 7) (some 52) (.slice (some ⟨g, 0, none⟩) m lc) rfl rfl (by kernel_rfl) (fun _ _ _ h => h) (Or.inl ⟨by rfl, (fun W _ => by rfl)⟩) hS ?_
                simp only [Act.put, List.setIfInBounds_toArray, List.set_cons_zero, List.set_cons_succ]
                refine wpAnyH_takeV (i := 8) (some 53) (.int .i64 (k : Int)) rfl rfl (by kernel_rfl) (fun _ _ _ h => h) (Or.inl ⟨by rfl, (fun W _ => by rfl)⟩) hS ?_
                simp only [Act.put, List.setIfInBounds_toArray, List.set_cons_zero, List.set_cons_succ]
                refine wpAnyH_takeV (i := 9) (some 54) (.pointer (some ⟨g, k, none⟩)) rfl rfl (by kernel_rfl) (fun _ _ _ h => h) (Or.inl ⟨by rfl, (by intro W hW; go_simp)⟩) hS ?_
                simp only [Act.put, List.setIfInBounds_toArray, List.set_cons_zero, List.set_cons_succ]
                refine wpAnyH_takeV (i := 10) (some 55) (.int .i64 (y : Int)) rfl rfl (by kernel_rfl) (fun _ _ _ h => h) (Or.inl ⟨by rfl, (by intro W hW; go_simp)⟩) hS ?_
                simp only [Act.put, List.setIfInBounds_toArray, List.set_cons_zero, List.set_cons_succ]
                clear hS
                refine wpAnyH_ready (rs := [11]) (by kernel_rfl) (by simp) ?_
                refine (AllReadyH.cons (o := _) rfl (fun K' HK => ?_) AllReadyH.nil)
                refine step_callA rfl (some 56) rfl 97 #[.slice (some ⟨g, 0, none⟩) m lc, .int .i64 (y : Int)] (by go_simp) (fun u W => Hid (Own W wr.drew.heap.size 3 natf u (woN s.left y)) ∧ Below wr.drew.heap.size wr.drew W) (HWO.out.mono fun e w' ⟨o, h1, h2, h3⟩ => ⟨_, h1, h2, h3⟩) ?_
                rintro ov w4 ⟨hov, hb4⟩
                have HOV := Lib.hid hov.out
                have HB4 := Lib.hid (bstep (Below.refl _ _).drew hb4 : Below wr.heap.size wr w4)
                have G04 := Lib.hid ((hb4.cell (p := ⟨g, k, none⟩) hgl).trans G0.out)
                obtain ⟨wo, wc, rfl⟩ := hov.out.shape
                clear hb4 hov
                refine HK.out _ _ G04.out (fun hS => ?_)
                clear HK K' hS
                simp only [Act.put, List.setIfInBounds_toArray, List.set_cons_zero, List.set_cons_succ]
                refine wpAnyH_ready (rs := [12]) (by kernel_rfl) (by simp) ?_
                refine (AllReadyH.cons (o := _) rfl (fun K' HK => ?_) AllReadyH.nil)
                refine step_callA rfl (some 57) rfl 96 #[v, vr, .int .i64 (y : Int), .slice wo (woN s.left y).length wc] (by go_simp) (fun u W => Hid (Own W w4.heap.size 3 intf u (wysF L Zs s.left y)) ∧ Below w4.heap.size w4 W) ((HWY.out y _ (woN s.left y) w4 hyn (bstep HR.out.1.below HB4.out) HOV.out.sl.ints' HTY.out).mono fun e w' ⟨o, h1, h2, h3⟩ => ⟨_, h1, h2.out, h3⟩) ?_
                rintro yv w5 ⟨hyv, hb5⟩
                have HYV := Lib.hid hyv.out
                have HB5 := Lib.hid (bstep HB4.out hb5)
                have G05 := Lib.hid ((hb5.cell (p := ⟨g, k, none⟩) (show g < w4.heap.size by have := HB4.out.size; omega)).trans G04.out)
                obtain ⟨yo, yc, rfl⟩ := hyv.out.shape
                clear hb5 hyv HOV
                refine HK.out _ _ G05.out (fun hS => ?_)
                clear HK K'
                simp only [Act.put, List.setIfInBounds_toArray, List.set_cons_zero, List.set_cons_succ]
                refine wpAnyH_takeV (i := 13) (some 14) (.slice yo (wysF L Zs s.left y).length yc) rfl rfl (by kernel_rfl) (fun _ _ _ h => h) (Or.inl ⟨by rfl, (fun W _ => by rfl)⟩) hS ?_
                simp only [Act.put, List.setIfInBounds_toArray, List.set_cons_zero, List.set_cons_succ]
                clear hS
                refine wpAnyH_done (by kernel_rfl) ?_ _
                have HR5 := Lib.hid (HR.out.1.after HB5.out)
                by_cases hR : wysF L Zs s.left y = []
                · rw [hR] at HYV
                  rw [hR]
                  have hbn := HBN.out hR
                  go_wp2
                  go_roundw
                  case rel => exact ⟨k + 1, by omega, by go_num, by rw [hbn], A', HR5.out, by rw [hbn]; exact HR.out.2⟩
                  case measure => simp [intOf]; omega
                · have hby := HBY.out hR
                  obtain ⟨x0, R', hx0⟩ : ∃ x0 R', wysF L Zs s.left y = x0 :: R' := by
                    cases hw : wysF L Zs s.left y with
                    | nil => exact absurd hw hR
                    | cons a b => exact ⟨a, b, rfl⟩
                  obtain ⟨gw, gc, hgw, hgw1, hgw2, _⟩ := HYV.out.form (by rw [hx0]; simp)
                  cases hgw
                  have c72 := HYV.out.cell (show (wysF L Zs s.left y)[0]? = some x0 by rw [hx0]; rfl)
                  unfold intf at c72
                  obtain ⟨rl, hrl⟩ : ∃ r, (wysF L Zs s.left y).length = r := ⟨_, rfl⟩
                  have hrl0 : 0 < rl := by rw [← hrl, hx0]; simp
                  have hh := Lib.hid (show (wysF L Zs s.left y).headD 0 = x0 by rw [hx0]; rfl)
                  rw [hrl]
                  clear hR hx0 hrl HYV
                  have d3 : decide ((0 : Int) < (rl : Int)) = true := dec_yes (by omega)
                  have d4 : decide (0 < rl) = true := dec_yes (by omega)
                  obtain ⟨zo, hzo⟩ : ∃ z, A'[y]? = some z := ⟨_, List.getElem?_eq_getElem (by have := HR.out.2.len; omega)⟩
                  have aZ := HR5.out.ax.cell hzo
                  have bZ := HR5.out.ax.free y
                  unfold intf at aZ
                  have eZ := HR5.out.lt
                  have i0 : (0 : Int) ≤ (y : Int) := Int.natCast_nonneg _
                  have i1 : (y : Int) < (n : Int) := by omega
                  have r1 : (0 : Int) < (rl : Int) := by omega
                  have g5 := G05.out
                  have HST := Lib.hid (HR5.out.set y x0)
                  have HAS := Lib.hid (HR.out.2.step hyo.out hyn)
                  rw [hh.out] at HAS
                  have HBYH := Lib.hid hby
                  clear hzo hby
                  go_wp2_with fail
                  go_roundw
                  case rel => exact ⟨k + 1, by omega, by go_num, by rw [HBYH.out]; rfl, _, HST.out, by rw [HBYH.out]; exact HAS.out⟩
                  case measure => simp [intOf]; omega
              · obtain rfl : m = k := by omega
                have hbp : bestK L Zs s.left m = pickF L Zs s.left := by
                  have := bestK_all L Zs s.left
                  rw [HM.out] at this
                  exact this
                rw [hbp] at HR ⊢
                cases hpk : pickF L Zs s.left with
                | none =>
                  have hnone : freeTo L Zs n n = none := by
                    have h2 := (freeTo_succ HF.out).trans (step_stuck hpk)
                    refine freeTo_none h2 n ?_
                    have := HI.out.llen
                    have := HM.out
                    omega
                  have HNO := Lib.hid hnone
                  have HBL := Lib.hid HR.out.1.below
                  clear hnone hpk hbp
                  unfold optI
                  simp only
                  go_wp2
                  (try rw [Exit.noGoto_ret])
                  exact bodyPost_ret (v := .tuple #[.slice none 0 0, .slice none 0 0, .int .i64 23]) (by simp [results, Tryz.results47, go_sem]) rfl (.inr ⟨HNO.out, rfl, HBL.out⟩)
                | some i =>
                  rw [hpk] at HR
                  obtain ⟨hil, _⟩ := pickF_some hpk
                  have hin : i < n := HI.out.llt i hil
                  have hio : Hid (i ∉ s.ord) := fun h => HI.out.apart i h hil
                  have hwl := Lib.hid (woN_len HI.out.lnd hil)
                  have HFS := Lib.hid ((freeTo_succ HF.out).trans (step_pick hpk))
                  have HWO : Hid (Calls Tryz.prog 97 #[.slice (some ⟨g, 0, none⟩) m lc, .int .i64 (i : Int)] wr fun e w' => ∃ o, e = .returned o ∧ Hid (Own w' wr.heap.size 3 natf o (woN s.left i)) ∧ Below wr.heap.size wr w') :=
                    rwo_any _ s.left i wr HR.out.1.left.sl (by have := HM.out; omega)
                  have d3 : decide ((i : Int) < 0) = false := dec_no (by omega)
                  unfold optI
                  simp only
                  clear hbp hpk hil
                  go_wp2_with fail
                  refine HWO.out.mono ?_
                  rintro e w5 ⟨o, rfl, ho, hb⟩
                  obtain ⟨wo2, wc, rfl⟩ := ho.out.shape
                  have HOV := Lib.hid ho.out
                  have HB5 := Lib.hid hb
                  have HR5 := Lib.hid (HR.out.1.after hb)
                  have hz5 := HR5.out.lt
                  have HLI : Hid (Own (w5.alloc (.cells #[natf i] 3)) (Z + 1) 3 natf (.slice (some ⟨w5.heap.size, 0, none⟩) 1 1) [i]) := own_litA w5 3 natf i (Z + 1) (by omega)
                  have HOS : Hid (Sl (w5.alloc (.cells #[natf i] 3)) natf (.slice oo2 ol oc2) s.ord.reverse) := (HR5.out.out.alloc _).sl
                  have hl1 : [i].length + s.ord.reverse.length ≤ 1099511627776 := by have := HI.out.olen; have := HI.out.llen; simp; omega
                  have hbase : Z + 1 ≤ (w5.alloc (.cells #[natf i] 3)).heap.size := by simp; omega
                  clear ho hb HWO hz5
                  go_wp2_with (at_builtin; refine wpList_appSl _ rfl _ _ 24 rfl 3 8 elemInt (Z + 1) natf _ _ [i] s.ord.reverse (fun _ => rfl) HLI.out HOS.out rfl rfl hl1 (by omega) hbase ?_; intro qv w7 hown7 hg7 hat7; have HW7 := Lib.hid hown7; have HG7 := Lib.hid hg7; clear hown7 hg7 hat7)
                  go_roundg (m - 1)
                  case measure => have := HGM.out; omega
                  case rel =>
                    refine ⟨⟨woN s.left i, s.ord ++ [i], s.ax.set i ((wysF L Zs s.left i).headD 0)⟩, A', ?_, ⟨k0 + 1, HFS.out⟩, HR.out.1.pick HB5.out HOV.out ?_ HG7.out, HR.out.2.pick hin HI.out.alen hio.out⟩
                    · show (woN s.left i).length = m - 1
                      have := hwl.out
                      have := HM.out
                      omega
                    · show Own w7 (Z + 1) 3 natf qv (s.ord ++ [i]).reverse
                      rw [List.reverse_append]
                      exact HW7.out
end
end Go.Proofs.YthmlejijfgbfbaaGreat
