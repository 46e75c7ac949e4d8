/-
  Law GraphOpens: the walk.
-/
import Derived.Test.YtcaeemcobgopmaaLwE
import Derived.Test.YtcaeemcobgopmaaLbD
import Derived.Deep.RegionHeld3
namespace Go.Proofs.Ytcaeemcobgopmaa
open Go.RowKit
set_option linter.unusedVariables false

theorem isNaN_any (x : Int) (w : World) : Calls Try.prog 64 #[.int .i64 x] w fun e w' => e = .returned (.bool false) ∧ w = w' := by
  have e1 := bne_no (show x = x from rfl)
  go_enter Try.func64, Try.ntmps64
  go_wp2
  go_ret
  exact ⟨rfl, rfl⟩
theorem less_any (x y : Int) (w : World) : Calls Try.prog 57 #[.int .i64 x, .int .i64 y] w fun e w' => e = .returned (.bool (decide (x < y))) ∧ w = w' := by
  go_enter Try.func57, Try.ntmps57
  go_wp2_with fail
  refine (isNaN_any x _).mono ?_
  rintro e w1 ⟨rfl, rfl⟩
  go_wp2
  go_ret
  exact ⟨rfl, rfl⟩

set_option maxHeartbeats 400000 in
theorem isSorted_yes (v : Value) (l : List Nat) (w : World) (h : Nats w v l) (hl : l.length ≤ 1000000) (hs : l.Pairwise (· < ·)) :
    Calls Try.prog 33 #[v] w fun e w' => e = .returned (.bool true) ∧ Below w.heap.size w w' := by
  have H := Lib.hid h
  have HS : Hid (∀ (i j x y : Nat), i < j → l[i]? = some x → l[j]? = some y → x < y) := by
    intro i j x y hij hx hy
    obtain ⟨h1, rfl⟩ := List.getElem?_eq_some_iff.1 hx
    obtain ⟨h2, rfl⟩ := List.getElem?_eq_some_iff.1 hy
    exact List.pairwise_iff_getElem.1 hs i j h1 h2 hij
  obtain ⟨ao, cap, rfl, _⟩ := h
  clear hs
  rcases Nat.eq_zero_or_pos l.length with h0 | h0
  · rw [h0]
    clear h0
    go_enter Try.func33, Try.ntmps33
    go_wp2_with fail
    refine wp_loop_rounds 1 ?_
    rw [rounds_succ]
    go_wp2
    go_ret
    exact ⟨rfl, Below.refl _ _⟩
  go_enter Try.func33, Try.ntmps33
  go_wp2_with fail
  go_loopw [3] (fun s3 wr => ∃ k : Nat, k < l.length ∧ s3 = .int .i64 (k : Int) ∧ Below w.heap.size w wr) (fun s3 _ => (intOf s3).toNat)
  case atStart => exact ⟨l.length - 1, by omega, val_int (by omega), Below.refl _ _⟩
  case round =>
    obtain ⟨k, hk, rfl, hB⟩ := hrel
    by_cases hk0 : 0 < k
    · obtain ⟨x, hx⟩ : ∃ x, l[k]? = some x := ⟨_, List.getElem?_eq_getElem hk⟩
      obtain ⟨y, hy⟩ : ∃ x, l[k - 1]? = some x := ⟨_, List.getElem?_eq_getElem (by omega)⟩
      have hlt := HS.out (k - 1) k y x (by omega) hy hx
      obtain ⟨b, off, rfl, hbl, c1⟩ := nats_get (H.out.below hB) hx
      obtain ⟨b', off', hx', _, c2⟩ := nats_get (H.out.below hB) hy
      cases hx'
      have hL := Lib.hid (fun W => less_any (x : Int) (y : Int) W)
      have hd : Hid (decide ((x : Int) < (y : Int)) = false) := dec_no (by omega)
      have k0 : (0 : Int) ≤ (k : Int) := Int.natCast_nonneg _
      have k1 : (k : Int) < (l.length : Int) := by omega
      have k2 : (0 : Int) ≤ (k : Int) - 1 := by omega
      have k3 : IntKind.i64.wrap ((k : Int) - 1) = (k : Int) - 1 := IntWalk.i64_in _ (by omega)
      have k4 : ((k : Int) - 1).toNat = k - 1 := by omega
      have hL2 : Hid (∀ W, Calls Try.prog 57 #[.int .i64 (x : Int), .int .i64 (y : Int)] W fun e w' => e = .returned (.bool false) ∧ W = w') := by
        intro W
        have := hL.out W
        rw [hd.out] at this
        exact this
      clear hx hy hL hd
      go_wp2
      go_quiet ((go_at_call 57; exact Calls.quiet_of_same ((hL2.out _).mono fun e w' h => ⟨h.1, h.2.symm⟩)))
      clear k3 k4
      go_wp2
      go_roundw
      case rel => exact ⟨k - 1, by omega, val_int (by omega), below_drewN' hB _⟩
      case measure => simp [intOf]; omega
    · obtain rfl : k = 0 := by omega
      go_wp2
      go_ret
      exact ⟨rfl, hB⟩

theorem gr_mk {w : World} {n : Nat} {v : Value} {es : List (Nat × Nat)} (h : NPairs w v es) (hn : n ≤ 1000) (hm : es.length ≤ 4000) (he : Ends n es) : Gr w n v es := by
  refine ⟨h, hn, hm, he, ?_⟩
  unfold vld
  rw [cst_len, dec_yes ⟨by omega, by omega, by omega⟩, Bool.true_and, Bool.not_eq_true', List.any_eq_false]
  intro x hx
  unfold cst at hx
  obtain ⟨e, hm, rfl⟩ := List.mem_map.1 hx
  obtain ⟨k, hk, rfl⟩ := List.getElem_of_mem hm
  have := he k _ (List.getElem?_eq_getElem hk)
  rw [badE_no (by omega)]; simp

theorem rbridges_sorted (ns : List (Nat × Nat)) : (rbridges ns).Pairwise (· < ·) := by
  unfold rbridges
  exact List.Pairwise.filter _ List.pairwise_lt_range
theorem rbridges_mem {ns : List (Nat × Nat)} {i : Nat} (hi : i < ns.length) : decide (i ∈ rbridges ns) = bridge ns i := by
  unfold rbridges
  rw [Bool.eq_iff_iff]
  simp [hi]

theorem opensClos (i X : Nat) (u : Value) (r : List Nat) (W : World) (hx : W.cell? ⟨X, 0, none⟩ = some (.int .i64 (i : Int))) (hr : Nats W u r) (hl : r.length ≤ 140737488355328) :
    Calls Try.prog 34 #[u, .pointer (some ⟨X, 0, none⟩)] W fun e w1 => e = .returned (.bool (decide (i ∈ r))) ∧ Below W.heap.size W w1 := by
  have H1 := Lib.hid (containsN_any u r i W hr hl)
  obtain ⟨p, hp⟩ : ∃ p, decide (i ∈ r) = p := ⟨_, rfl⟩
  rw [hp] at H1 ⊢
  clear hp
  go_enter Try.func34, Try.ntmps34
  go_wp2_with fail
  refine H1.out.mono ?_
  rintro e w9 ⟨rfl, rfl⟩
  go_wp2
  go_ret
  exact ⟨rfl, Below.refl _ _⟩

set_option maxRecDepth 100000 in
set_option maxHeartbeats 4000000 in
theorem opensYes_walk (w : World) (N : Nat) (v : Value) (ns : List (Nat × Nat)) (hg : Gr w N v ns) (hr : rgt N (cst ns) = true) :
    Calls Try.prog 8 #[.int .i64 (N : Int), v] w fun e w' => e = .returned (.bool true) ∧ Below w.heap.size w w' := by
  have hm := hg.m_le
  have hn := hg.n_le
  have HG := Lib.hid hg
  have HR := Lib.hid hr
  have hbl : (cst ns).length ≤ 140737488355328 := by rw [cst_len]; omega
  have HPR := Lib.hid (partsOf_rows N ns)
  have HCR := Lib.hid (cyclesOf_rows hg.ends)
  have HCL := Lib.hid (cyclesOf_len N ns)
  have HE := Lib.hid (bridgesOf_eq hg.ends hm)
  have HRS := Lib.hid (rbridges_sorted ns)
  obtain ⟨ao, cap, rfl, _⟩ := hg.pairs.open_
  obtain ⟨F, hF⟩ : ∃ F, rbridges ns = F := ⟨_, rfl⟩
  obtain ⟨C, hC⟩ : ∃ C, cyclesOf N ns = C := ⟨_, rfl⟩
  obtain ⟨P, hP⟩ : ∃ C, partsOf N ns = C := ⟨_, rfl⟩
  have HF := Lib.hid hF
  have HC := Lib.hid hC
  have HP := Lib.hid hP
  have hFl : F.length ≤ ns.length := by
    rw [← hF]
    unfold rbridges
    have := List.length_filter_le (bridge ns) (List.range ns.length)
    rw [List.length_range] at this
    omega
  rw [hC] at HCR HCL
  rw [hP] at HPR
  rw [hF] at HE HRS
  have hCl : C.length ≤ 4000 := by have := HCR.out.1; omega
  have hPl : P.length ≤ 1000 := by have := HPR.out.1; omega
  clear hg hr hF hC hP
  go_enter Try.func8, Try.ntmps8
  go_wp2_with fail
  refine (awake_any _).mono ?_
  rintro e w1 ⟨rfl, hB1⟩
  go_wp2_with fail
  refine (right_any N _ (cst ns) _ (HG.out.below hB1).pairs hbl).mono ?_
  rw [HR.out]
  rintro e w2 ⟨rfl, hb2⟩
  have hB2 := bstep hB1 hb2
  go_wp2_with fail
  refine (parts_ok N _ ns _ (HG.out.below hB2)).mono ?_
  rw [HP.out]
  rintro e w3 ⟨⟨V, rfl, hV⟩, hb3⟩
  obtain ⟨Vo, Vc, rfl⟩ := hV.at
  have hB3 := bstep hB2 hb3
  have HV3 := Lib.hid hV.rows
  clear hV
  go_wp2_with fail
  refine (bridges_ok N _ ns _ (HG.out.below hB3)).mono ?_
  rw [HE.out]
  rintro e w4 ⟨⟨u, rfl, hu⟩, hb4⟩
  obtain ⟨uo, uc, rfl⟩ := hu.shape
  have hB4 := bstep hB3 hb4
  have HV4 := Lib.hid (HV3.out.below hb4)
  have HU4 := Lib.hid hu.sl
  clear hu HV3
  go_wp2_with fail
  refine (cycles_ok N _ ns _ (HG.out.below hB4)).mono ?_
  rw [HC.out]
  rintro e w5 ⟨⟨Z, rfl, hZ⟩, hb5⟩
  obtain ⟨Zo, Zc, rfl⟩ := hZ.at
  have hB5 := bstep hB4 hb5
  have HV5 := Lib.hid (HV4.out.below hb5)
  have HU5 := Lib.hid (HU4.out.below hb5)
  have HZ5 := Lib.hid hZ.rows
  clear hZ HV4 HU4
  go_wp2_with fail
  refine (isSorted_yes _ F _ HU5.out (by omega) HRS.out).mono ?_
  rintro e w6 ⟨rfl, hb6⟩
  have hB6 := bstep hB5 hb6
  have HV6 := Lib.hid (HV5.out.below hb6)
  have HU6 := Lib.hid (HU5.out.below hb6)
  have HZ6 := Lib.hid (HZ5.out.below hb6)
  clear HV5 HU5 HZ5 hB1 hB2 hB3 hB4 hB5
  go_wp2_with fail
  go_loopw [11, 12, 13, 14, 15, 16, 17, 59] (fun _ _ _ _ _ _ _ s59 wr => ∃ k : Nat, k ≤ ns.length ∧ s59 = .int .i64 (k : Int) ∧ Below w6.heap.size w6 wr) (fun _ _ _ _ _ _ _ s59 _ => ns.length - (intOf s59).toNat)
  case atStart => exact ⟨0, Nat.zero_le _, rfl, Below.refl _ _⟩
  case round =>
    obtain ⟨i, hi, rfl, hB⟩ := hrel
    by_cases hlt : i < ns.length
    · obtain ⟨wo, rfl⟩ : ∃ wo : World, wo = wr := ⟨_, rfl⟩
      have HBR : Hid (decide (i ∈ F) = bridge ns i) := by
        show _ = _
        rw [← HF.out]; exact rbridges_mem hlt
      have HBI := Lib.hid (bridge_iff HG.out.ends hlt)
      obtain ⟨br, hbr⟩ : ∃ b, bridge ns i = b := ⟨_, rfl⟩
      rw [hbr] at HBR HBI
      have HBRD := Lib.hid hbr
      rw [HC.out] at HBI
      have HAN : Hid ((C.any fun r => decide (i ∈ r)) = !br) := by
        show _ = _
        rw [HBI.out]; simp
      clear hbr
      have hzo := hB.size
      have hcx : (wo.alloc (.cells #[.int .i64 (i : Int)] 3)).cell? ⟨wo.heap.size, 0, none⟩ = some (.int .i64 (i : Int)) := by go_cell
      obtain ⟨W0, hW0⟩ : ∃ W0, W0 = wo.alloc (.cells #[.int .i64 (i : Int)] 3) := ⟨_, rfl⟩
      have hb0 : Below wo.heap.size wo W0 := by rw [hW0]; exact below_new _ _
      have hX : wo.heap.size < W0.heap.size := by rw [hW0]; simp
      rw [← hW0] at hcx
      have HW0 := Lib.hid hW0
      clear hW0
      have hBo := bstep hB hb0
      have hBw0 := bstep hB6 hBo
      go_wp2_with fail
      rw [← HW0.out]
      refine (containsN_any _ F i W0 (HU6.out.below hBo) (by omega)).mono ?_
      rw [HBR.out]
      rintro e w7 ⟨rfl, rfl⟩
      go_wp2_with fail
      refine (anyRows_any 34 #[.pointer (some ⟨wo.heap.size, 0, none⟩)] (fun r => decide (i ∈ r)) _ C W0 (HZ6.out.below hBo) (by omega) (fun xs W => by rfl)
        (fun u r W hW hr hu => ?_)).mono ?_
      · exact opensClos i wo.heap.size u r W ((hW.cell (p := ⟨wo.heap.size, 0, none⟩) hX).trans hcx) hu (by have := HCR.out.2 r hr; omega)
      rw [HAN.out]
      rintro e w8 ⟨rfl, hb8⟩
      have hB8 := bstep hBw0 hb8
      have hc8 := (hb8.cell (p := ⟨wo.heap.size, 0, none⟩) hX).trans hcx
      have hX8 : wo.heap.size < w8.heap.size := by have := hb8.size; omega
      obtain ⟨⟨p, q⟩, hpq⟩ : ∃ e, ns[i]? = some e := ⟨_, List.getElem?_eq_getElem hlt⟩
      obtain ⟨eb, eoff, rfl, hebl, _, _⟩ := (HG.out.pairs.below hB8).edge hpq
      have e1 : (br == !br) = false := by cases br <;> rfl
      have i0 : (0 : Int) ≤ (i : Int) := Int.natCast_nonneg _
      have i1 : (i : Int) < (ns.length : Int) := by omega
      have hwi : IntKind.i64.wrap ((i : Int) + 1) = (i : Int) + 1 := IntWalk.i64_in _ (by omega)
      have hpos : 0 < ns.length := by omega
      have HGP := Lib.hid (HG.out.pairs.below hB8)
      clear hpq hcx hb0 hX
      go_wp2_with fail
      go_region_held3 (fun w' => w'.cell? ⟨wo.heap.size, 0, none⟩ = some (.int .i64 (i : Int)))
        (first
          | go_keep
          | exact (hb9.cell (p := ⟨wo.heap.size, 0, none⟩) (show wo.heap.size < w8.heap.size by omega)).trans hc8
          | exact (hg10.cell_far ⟨wo.heap.size, 0, none⟩ hX9 hXB).trans hc9)
        (first
          | (go_at_call 36; refine (clone_any eb eoff cap ns _ (NPairs.below HGP.out (bdraw _)) (by omega)).mono ?_; rintro e w9 ⟨⟨vc, rfl, hvc⟩, hb9⟩; obtain ⟨B, cc, rfl, hBg, hBl⟩ := World.ownsRow.form hvc hpos; have hc9 : w9.cell? ⟨wo.heap.size, 0, none⟩ = some (.int .i64 (i : Int)) := (hb9.cell (p := ⟨wo.heap.size, 0, none⟩) (show wo.heap.size < w8.heap.size by omega)).trans hc8; have hX9 : wo.heap.size < w9.heap.size := Nat.lt_of_lt_of_le hX8 hb9.size; have hXB : some wo.heap.size ≠ some B := fun e => Nat.lt_irrefl _ (Nat.lt_of_lt_of_le hX8 (Nat.le_trans hBg (Nat.le_of_eq (Option.some.inj e).symm))))
          | (go_at_call 35; refine (delete_any B _ cc i ns _ hvc (by omega) hlt).mono ?_; rintro e w10 ⟨⟨vd, rfl, hvd⟩, hg10⟩))
      have hb89 := bstep (bdraw (w := w8) 1) hb9
      have hb810 : Below w8.heap.size w8 w10 := below_grown hb89 hg10 hb89.size (fun g e => by cases e; exact hBg)
      have hB10 := bstep hB8 hb810
      have hb6x : Below w6.heap.size w6 w10 := bstep (bstep hBo hb8) hb810
      have hwl := without_len hlt
      have HGW := Lib.hid (gr_mk hvd hn (by omega) (without_ends HG.out.ends i))
      have HV10 := Lib.hid (HV6.out.below hb6x)
      clear hc8 hX8 hvd hg10 hb89 hb810 hc9 hX9 hXB hBg hBl hvc hb9 e1 hwi
      go_wp2_with fail
      refine (parts_ok N _ (without ns i) _ HGW.out).mono ?_
      rintro e w11 ⟨⟨Y, rfl, hY⟩, hb11⟩
      obtain ⟨Yo, Yc, hYs⟩ := hY.at
      subst hYs
      have hB11 := bstep hB10 hb11
      have hb6y := bstep hb6x hb11
      have HGW11 := Lib.hid (HGW.out.below hb11)
      have HV11 := Lib.hid (HV10.out.below hb11)
      have HY11 := Lib.hid hY.rows
      clear hY HGW HV10
      go_wp2_with fail
      refine (count_ok N _ (without ns i) _ HGW11.out).mono ?_
      rintro e w12 ⟨rfl, hb12⟩
      have hB12 := bstep hB11 hb12
      have hb6z := bstep hb6y hb12
      have HV12 := Lib.hid (HV11.out.below hb12)
      have HY12 := Lib.hid (HY11.out.below hb12)
      clear HGW11 HV11 HY11
      cases br
      · obtain ⟨h1, h2⟩ := without_not HG.out.ends hlt HBRD.out
        rw [HP.out] at h1
        rw [h1] at HY12 ⊢
        have hcl := HCL.out
        obtain ⟨x, hx⟩ : ∃ x, (otherOf (without ns i)).length = x := ⟨_, rfl⟩
        rw [hx] at h2 ⊢
        have e2 : ((x : Int) != (C.length : Int) - 1) = false := bne_no (by omega)
        clear h1 h2 hcl hx
        go_wp2_with fail
        refine (same_yes _ _ P _ HY12.out HV12.out (by omega) (fun r hr => by have := HPR.out.2 r hr; omega)).mono ?_
        rintro e w13 ⟨rfl, hb13⟩
        have hb6t := bstep hb6z hb13
        go_wp2
        go_roundw
        case rel => exact ⟨i + 1, by omega, by go_num, hb6t⟩
        case measure => simp [intOf]; omega
      · obtain ⟨h1, h2⟩ := without_bridge HG.out.ends hlt HBRD.out
        rw [HP.out] at h1
        have hcl := HCL.out
        obtain ⟨x, hx⟩ : ∃ x, (otherOf (without ns i)).length = x := ⟨_, rfl⟩
        obtain ⟨y, hy⟩ : ∃ y, (partsOf N (without ns i)).length = y := ⟨_, rfl⟩
        rw [hx] at h2 ⊢
        rw [hy] at h1 ⊢
        have e2 : ((x : Int) != (C.length : Int)) = false := bne_no (by omega)
        have e3 : ((y : Int) != (P.length : Int) + 1) = false := bne_no (by omega)
        clear h1 h2 hcl hx hy
        go_wp2
        go_roundw
        case rel => exact ⟨i + 1, by omega, by go_num, hb6z⟩
        case measure => simp [intOf]; omega
    · go_wp2
      go_ret
      exact ⟨rfl, bstep hB6 hB⟩

set_option maxRecDepth 100000 in
theorem graphOpens_walk (w : World) (n : Int) (wn : (Lit.int .i64 n).wf = true) (v : Value) (l : List (Int × Int)) (hp : Pairs w v l) (bl : l.length * 16 ≤ 140737488351232) :
    Calls Try.prog 8 #[.int .i64 n, v] w fun e w' => e = .returned (.bool true) ∧ Below w.heap.size w w' := by
  cases hr : rgt n l
  · have HR := Lib.hid hr
    have HP := Lib.hid hp
    obtain ⟨ao, cap, rfl, _⟩ := hp
    have hbl : l.length ≤ 140737488355328 := by omega
    clear hr bl
    go_enter Try.func8, Try.ntmps8
    go_wp2_with fail
    refine (awake_any _).mono ?_
    rintro e w1 ⟨rfl, hB1⟩
    go_wp2_with fail
    refine (right_any n _ l _ (HP.out.below hB1) hbl).mono ?_
    rw [HR.out]
    rintro e w2 ⟨rfl, hb2⟩
    have hB2 := bstep hB1 hb2
    go_wp2
    go_ret
    exact ⟨rfl, hB2⟩
  · obtain ⟨N, ns, rfl, rfl, hg⟩ := gr_of hp (rgt_gr hp hr)
    exact opensYes_walk w N v ns hg hr
end Go.Proofs.Ytcaeemcobgopmaa
