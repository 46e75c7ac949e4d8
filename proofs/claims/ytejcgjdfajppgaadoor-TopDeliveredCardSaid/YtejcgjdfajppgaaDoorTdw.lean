/-
  The walk of TopDelivered.
-/
import Derived.Test.YtejcgjdfajppgaaDoorTdv
import Derived.Test.YtejcgjdfajppgaaDoorLaw
namespace Go.Proofs.YtejcgjdfajppgaaDoor
section
open Go.RowKit
set_option linter.unusedVariables false
set_option linter.unusedSimpArgs false
attribute [local go_sem ↓] Go.wp_at_zero Go.wp_at_succ

theorem OwnN.form {α : Type} {w : World} {base : Nat} {e : TypeId} {n : Nat} {enc : α → List Value} {v : Value} {l : List α} (h : OwnN w base e n enc v l) (hl : 0 < l.length) : ∃ g cap, v = .slice (some ⟨g, 0, none⟩) l.length cap := by
  rcases h.2 with ⟨_, h0⟩ | ⟨g, cap, cur, rfl, _⟩
  · omega
  · exact ⟨g, cap, rfl⟩
theorem SiteAt.below {w w1 : World} {base S : Nat} {d : SiteD} (h : SiteAt w base S d) (hb : Below w.heap.size w w1) : SiteAt w1 base S d := by
  obtain ⟨tv, wv, ev, mo, h⟩ := h
  exact ⟨tv, wv, ev, mo, h.below hb⟩
theorem ents_kind {l : List BunD} {R : List (List Nat)} (h : YardOk l R) {k : Nat} {x : EntD} (hx : (entsF l R)[k]? = some x) (hk : k < 2 * l.length) : x.kind ≠ 5 := by
  by_cases h1 : k < l.length
  · obtain ⟨i, dy, b, _, _, hx', _⟩ := ents_del h h1
    rw [hx'] at hx
    cases hx
    exact (by decide : (1 : Int) ≠ 5)
  · obtain ⟨q, rfl⟩ : ∃ q, k = l.length + q := ⟨k - l.length, by omega⟩
    rw [ents_pla h (List.getElem?_eq_getElem (by omega))] at hx
    cases hx
    exact (by decide : (2 : Int) ≠ 5)
set_option maxHeartbeats 4000000 in
set_option maxRecDepth 100000 in
theorem topDelivered_walk (w : World) (v : Value) (l : List BunD) (hp : Buns w v l) (hf : FitU l) (hb : l.length * 48 ≤ 140737488351232) (m : Int) (wf : (Lit.int .i64 m).wf = true) (k : Int) (wk : (Lit.int .u8 k).wf = true) :
    Calls Tryd.prog 3 #[v, .int .i64 m, .int .u8 k] w fun e w' => e = .returned (.bool true) ∧ Below w.heap.size w w' := by
  obtain ⟨ao, cap, rfl⟩ := hp.at_
  have hk0 : 0 ≤ k ∧ k ≤ 255 := by simpa using bounds_u8 wk
  have HP := Lib.hid hp
  have HF := Lib.hid hf
  have HA := Lib.hid (yardAwake_any w)
  clear hp hf wf wk
  go_enter Tryd.func3, Tryd.ntmps3
  go_wp2_with fail
  refine HA.out.mono ?_
  rintro e w1 ⟨rfl, hb1⟩
  have HB1 := Lib.hid hb1
  clear hb1 HA
  by_cases hl : 10 < l.length
  · have e1 : decide ((l.length : Int) > 10) = true := by simp; omega
    go_wp2
    go_ret
    exact ⟨rfl, HB1.out⟩
  have e1 : decide ((l.length : Int) > 10) = false := by simp; omega
  have HSH := Lib.hid (rshort_any _ l w1 (HP.out.below HB1.out) (by omega))
  go_wp2_with fail
  refine HSH.out.mono ?_
  rintro e w2 ⟨⟨bs, rfl⟩, hb2⟩
  have HB2 := Lib.hid (bstep HB1.out hb2)
  clear hb2 HSH HB1 e1
  cases bs
  · go_wp2
    go_ret
    exact ⟨rfl, HB2.out⟩
  have HG := Lib.hid (greedy_any _ l m w2 (HP.out.below HB2.out) (by omega) HF.out)
  go_wp2_with fail
  refine HG.out.mono ?_
  rintro e w3 ⟨o3, rfl, hb3, _, hG⟩
  have HB3 := Lib.hid (bstep HB2.out hb3)
  clear hb3 HG HB2
  cases hok : bunsOk l with
  | false =>
    have HN := Lib.hid (snew_bad _ l mB w3 (HP.out.below HB3.out) (by omega) HF.out hok)
    have hg1 : givU l m = 1 := by unfold givU; rw [hok]; rfl
    unfold mB at HN
    rw [hg1]
    clear hG hok hg1
    go_wp2_with fail
    refine HN.out.mono ?_
    rintro e w4 ⟨rfl, hb4⟩
    have HB4 := Lib.hid (bstep HB3.out hb4)
    clear hb4 HN
    go_wp2
    go_ret
    exact ⟨rfl, HB4.out⟩
  | true =>
    have HN := Lib.hid (snew_good _ l mB w3 (HP.out.below HB3.out) (by omega) HF.out hok name_m sz_m)
    have HOK := Lib.hid hok
    unfold mB at HN
    clear hok
    go_wp2_with fail
    refine HN.out.mono ?_
    rintro e w4 ⟨S, sb, rfl, hs1, hs2, hS, hb4⟩
    have HB4 := Lib.hid (bstep HB3.out hb4)
    have HSL := Lib.hid (Nat.le_trans HB3.out.size hs1)
    have HSB := Lib.hid hs2
    have HS := Lib.hid (show SiteV w4 sb S (siteOf l mB) (.slice none 0 0) from hS)
    have HB34 := Lib.hid hb4
    clear hb4 HN hs1 hs2 hS
    by_cases hg0 : givU l m = 0
    · obtain ⟨on, R, M, vals, base, hbase, hpm, hGI, hMV⟩ := hG hg0
      rw [hg0]
      have hY : YardOk l R := ⟨HOK.out, by omega, HF.out, hGI.perm.trans (by rw [List.take_length]; exact hpm), by
        have h1 := hGI.few
        rw [hpm.length_eq] at h1
        simpa using h1⟩
      have HY := Lib.hid hY
      have HE := Lib.hid (yardEntries_any _ o3 l R vals base w4 (HP.out.below HB4.out) (hMV.below HB34.out) hY)
      have hel : (entsF l R).length = 2 * l.length + 1 := ents_len hY
      clear hG hg0 hbase hpm hGI hMV hY HB34
      go_wp2_with fail
      refine HE.out.mono ?_
      rintro e w5 ⟨o, rfl, ho, hb5⟩
      obtain ⟨G, oc, rfl⟩ := ho.form (by omega)
      have HYW := Lib.hid (YW.start (bstep HB4.out hb5) (ho.mono HB4.out.size) (HS.out.below hb5) (by intro e; cases e) (Nat.le_trans HSB.out hb5.size))
      rw [hel] at HYW ⊢
      have HEL := Lib.hid hel
      clear hel ho hb5 HE HB4 HSB HS
      -- LOOP
      obtain ⟨N, hN⟩ : ∃ N, 2 * l.length + 1 = N := ⟨_, rfl⟩
      rw [hN] at HYW HEL ⊢
      have HN := Lib.hid hN
      obtain ⟨kn, rfl⟩ := Int.eq_ofNat_of_zero_le hk0.1
      clear hN
      go_wp2_with fail
      go_loopw [63] (fun i wr => ∃ j : Nat, j ≤ N ∧ i = .int .i64 (j : Int) ∧ Hid (YW w sb S G N oc l R j wr)) (fun i _ => N - (intOf i).toNat)
      case atStart => exact ⟨0, Nat.zero_le _, rfl, HYW⟩
      case round =>
        clear HYW
        obtain ⟨j, hj, rfl, HR⟩ := hrel
        by_cases hj2 : j < N
        · obtain ⟨x, hx⟩ : ∃ x, (entsF l R)[j]? = some x := ⟨_, List.getElem?_eq_getElem (by rw [HEL.out]; exact hj2)⟩
          have HX := Lib.hid hx
          have hokx := ents_ok HY.out hx
          have hFl := OwnN.fl ent_len HR.out.es
          obtain ⟨gb, off, hbo, hbl, hcz⟩ := Fl.get hFl hx
          cases hbo
          have z0 := hcz 0 _ rfl
          have z1 := hcz 1 _ rfl
          have z2 := hcz 2 _ rfl
          have hkind : (j < 2 * l.length ∧ x.kind ≠ 5) ∨ (j = 2 * l.length ∧ x.kind = 5) := by
            have := HN.out
            by_cases h1 : j < 2 * l.length
            · exact .inl ⟨h1, ents_kind HY.out hx h1⟩
            · obtain rfl : j = 2 * l.length := by omega
              rw [ents_pour HY.out] at hx
              cases hx
              exact .inr ⟨rfl, rfl⟩
          obtain ⟨dy, kd, nm⟩ := x
          have HOKX := Lib.hid hokx
          simp only [Nat.zero_add, Nat.add_zero] at z0 z1 z2 hkind
          obtain ⟨w8, hw8⟩ : ∃ w8, wr.alloc (.cells #[.int .i64 dy, .int .i64 kd, .string nm] 35) = w8 := ⟨_, rfl⟩
          obtain ⟨g, hg⟩ : ∃ g, wr.heap.size = g := ⟨_, rfl⟩
          have hb8 : Below wr.heap.size wr w8 := by rw [← hw8]; exact below_new _ _
          have BX : BlkIs w8 g 35 #[.int .i64 dy, .int .i64 kd, .string nm] := by rw [← hw8, ← hg]; exact BlkIs.new _ _ _
          have HYW8 := Lib.hid (HR.out.below hb8)
          have HBX := Lib.hid BX
          have x0 := BX.cell 0
          have x1 := BX.cell 1
          have x2 := BX.cell 2
          have lx := BX.lt
          have hj0 : (0 : Int) ≤ (j : Int) := Int.natCast_nonneg _
          have hj1 : (j : Int) < (N : Int) := by omega
          have hsm : j ≤ 21 := by have := HN.out; omega
          clear hx hokx hFl hcz hb8 BX HR
          rcases hkind with ⟨hlow, hkd⟩ | ⟨rfl, rfl⟩
          · by_cases hjn : j = l.length
            · subst hjn
              have HAC := Lib.hid (saccount_any sb S _ w8 HYW8.out.at_ (by rw [yardN_low (by omega)]; exact yardS_ok HY.out _))
              rw [yardN_low (by omega), (mid_count HY.out).1, (mid_count HY.out).2.1, (mid_count HY.out).2.2] at HAC
              clear hsm
              go_wp2_with fail
              refine HAC.out.mono ?_
              rintro e w8b ⟨rfl, hb8⟩
              have HYW8b := Lib.hid (HYW8.out.below hb8)
              have HBX8 := Lib.hid (HBX.out.below hb8)
              clear x0 x1 x2 lx HBX HYW8 HAC hb8
              obtain ⟨HYW8, HBX⟩ := And.intro HYW8b HBX8
              clear HYW8b HBX8
              have x0 := HBX.out.cell 0
              have x1 := HBX.out.cell 1
              have x2 := HBX.out.cell 2
              have lx := HBX.out.lt
              obtain ⟨b, hb⟩ : ∃ b, l[kn % l.length]? = some b := ⟨_, List.getElem?_eq_getElem (Nat.mod_lt _ (by omega))⟩
              have HPB := Lib.hid (HP.out.below HYW8.out.bl)
              obtain ⟨bb, off, rfl, hbl, d0, d1, d2, d3⟩ := buns_get HPB.out hb
              have HTG := Lib.hid hb
              have hmn : kn % l.length < l.length := Nat.mod_lt _ (by omega)
              have htm : Int.tmod (kn : Int) (l.length : Int) = ((kn % l.length : Nat) : Int) := rfl
              generalize kn % l.length = A at *
              have hA0 : (0 : Int) ≤ (A : Int) := Int.natCast_nonneg _
              have hA1 : (A : Int) < (l.length : Int) := by omega
              have hne : ¬ (l.length : Int) = 0 := by omega
              have hn0 : ¬ l.length = 0 := by omega
              have hwk : IntKind.i64.wrap (kn : Int) = (kn : Int) := IntWalk.i64_in _ (by omega)
              have hd1 : decide ((l.length : Int) > 0) = true := by simp; omega
              have hd2 : decide (0 < l.length) = true := by simp; omega
              have y0 := fun dd os => cell_regrown x0 dd os
              have y1 := fun dd os => cell_regrown d0 dd os
              clear hb
              go_wp2_with fail
              refine wp_region_below_tail 17 (by kernel_rfl) (by kernel_rfl) ?_
              simp only [List.take_succ_cons, List.take_zero, List.drop_succ_cons, List.drop_zero]
              repeat (go_big_quiet_step ((first
                | fail)))
              refine wpQuiet_nil ?_
              intro _ hw'
              obtain ⟨⟨nq, osq⟩, hw''⟩ := hw'
              subst hw''
              have hbr := below_regrown w8b nq osq
              have HYW8c := Lib.hid (HYW8.out.below hbr)
              have HBX8c := Lib.hid (HBX.out.below hbr)
              clear y0 y1 x0 x1 x2 lx hbl d0 d1 d2 d3 HPB hbr HYW8 HBX hd1 hd2 htm hwk hmn hA0 hA1
              generalize Go.Sort.grow (redrawn w8b nq) osq = w8c at *
              have HD0 := Lib.hid (ydo_no HYW8c.out HY.out HX.out (x := ⟨dy, 1, b.tag⟩) (er := 13) ⟨HOKX.out.d0, HOKX.out.d1, (by decide : (1 : Int) ≤ 1), (by decide : (1 : Int) ≤ 6), buns_name HY.out.ok HTG.out, (HY.out.fit b (List.mem_of_getElem? HTG.out)).1⟩ rfl (by omega) (yard_again HY.out HTG.out dy) (by decide) HSL.out)
              unfold entv at HD0
              simp only at HD0
              go_wp2_with fail
              refine HD0.out.mono ?_
              rintro e w8d ⟨rfl, hY8, hK8⟩
              have HYW8 := Lib.hid hY8
              have HBX : Hid (BlkIs w8d g 35 #[.int .i64 dy, .int .i64 kd, .string nm]) := Lib.hid ((hK8 g _ HBX8c.out).trans HBX8c.out)
              clear HYW8c HBX8c HD0 hY8 hK8
              have x0 := HBX.out.cell 0
              have x1 := HBX.out.cell 1
              have x2 := HBX.out.cell 2
              have lx := HBX.out.lt
              clear hne hn0
              have HD1 := Lib.hid (ydo_no HYW8.out HY.out HX.out (x := ⟨dy, 5, mB⟩) (er := 24) ⟨HOKX.out.d0, HOKX.out.d1, (by decide : (1 : Int) ≤ 5), (by decide : (5 : Int) ≤ 6), name_m, sz_m⟩ rfl (by omega) (yard_no HY.out (by omega) dy) (by decide) HSL.out)
              unfold entv mB at HD1
              simp only at HD1
              (try clear hsm)
              go_wp2_with fail
              refine HD1.out.mono ?_
              rintro e w9 ⟨rfl, hY9, hK9⟩
              have HYW9 := Lib.hid hY9
              have BX9 : BlkIs w9 g 35 #[.int .i64 dy, .int .i64 kd, .string nm] := (hK9 g _ HBX.out).trans HBX.out
              clear x0 x1 x2 lx HBX HYW8 HD1 hY9 hK9
              have x0 := BX9.cell 0
              have x1 := BX9.cell 1
              have x2 := BX9.cell 2
              have lx := BX9.lt
              clear BX9
              have HD2 := Lib.hid (ydo_go HYW9.out HY.out HX.out HSL.out)
              unfold entv at HD2
              simp only at HD2
              go_wp2_with fail
              refine HD2.out.mono ?_
              rintro e w10 ⟨rfl, hY10⟩
              have HYW10 := Lib.hid hY10
              clear hY10 HD2 x0 x1 x2 lx
              go_wp2
              go_roundw
              case rel => exact ⟨l.length + 1, by omega, by go_num, HYW10⟩
              case measure => simp [intOf]; omega
            · have hne : ¬ (j : Int) = (l.length : Int) := by omega
              have HD1 := Lib.hid (ydo_no HYW8.out HY.out HX.out (x := ⟨dy, 5, mB⟩) (er := 24) ⟨HOKX.out.d0, HOKX.out.d1, (by decide : (1 : Int) ≤ 5), (by decide : (5 : Int) ≤ 6), name_m, sz_m⟩ rfl (by omega) (yard_no HY.out (by omega) dy) (by decide) HSL.out)
              unfold entv mB at HD1
              simp only at HD1
              (try clear hsm)
              go_wp2_with fail
              refine HD1.out.mono ?_
              rintro e w9 ⟨rfl, hY9, hK9⟩
              have HYW9 := Lib.hid hY9
              have BX9 : BlkIs w9 g 35 #[.int .i64 dy, .int .i64 kd, .string nm] := (hK9 g _ HBX.out).trans HBX.out
              clear x0 x1 x2 lx HBX HYW8 HD1 hY9 hK9
              have x0 := BX9.cell 0
              have x1 := BX9.cell 1
              have x2 := BX9.cell 2
              have lx := BX9.lt
              clear BX9
              have HD2 := Lib.hid (ydo_go HYW9.out HY.out HX.out HSL.out)
              unfold entv at HD2
              simp only at HD2
              go_wp2_with fail
              refine HD2.out.mono ?_
              rintro e w10 ⟨rfl, hY10⟩
              have HYW10 := Lib.hid hY10
              clear hY10 HD2 x0 x1 x2 lx
              go_wp2
              go_roundw
              case rel => exact ⟨j + 1, by omega, by go_num, HYW10⟩
              case measure => simp [intOf]; omega
          · by_cases hjn : l.length = 0
            · have e0 : 2 * l.length = l.length := by omega
              have HJ := Lib.hid hjn
              simp only [e0] at HX HYW8 z0 z1 z2 hj0 hj1 hsm hj hj2 ⊢
              clear hjn e0
              have HAC := Lib.hid (saccount_any sb S _ w8 HYW8.out.at_ (by rw [yardN_low (by omega)]; exact yardS_ok HY.out _))
              rw [yardN_low (by omega), (mid_count HY.out).1, (mid_count HY.out).2.1, (mid_count HY.out).2.2] at HAC
              clear hsm
              go_wp2_with fail
              refine HAC.out.mono ?_
              rintro e w8b ⟨rfl, hb8⟩
              have HYW8b := Lib.hid (HYW8.out.below hb8)
              have HBX8 := Lib.hid (HBX.out.below hb8)
              clear x0 x1 x2 lx HBX HYW8 HAC hb8
              obtain ⟨HYW8, HBX⟩ := And.intro HYW8b HBX8
              clear HYW8b HBX8
              have x0 := HBX.out.cell 0
              have x1 := HBX.out.cell 1
              have x2 := HBX.out.cell 2
              have lx := HBX.out.lt
              have hd1 : decide ((l.length : Int) > 0) = false := decide_eq_false (by have := HJ.out; omega)
              have hd2 : decide (0 < l.length) = false := decide_eq_false (by have := HJ.out; omega)
              go_wp2_with fail
              refine wp_region_quiet_below (by kernel_rfl) (by kernel_rfl) ?_
              repeat (go_big_quiet_step ((first
                | fail)))
              refine wpQuiet_nil ?_
              intro _ hw'
              obtain ⟨⟨nq, osq⟩, hw''⟩ := hw'
              subst hw''
              have hbr := below_regrown w8b nq osq
              have HYW8c := Lib.hid (HYW8.out.below hbr)
              have HBX8c := Lib.hid (HBX.out.below hbr)
              clear x0 x1 x2 lx hbr HYW8 HBX hd1 hd2
              generalize Go.Sort.grow (redrawn w8b nq) osq = w8c at *
              obtain ⟨HYW8, HBX⟩ := And.intro HYW8c HBX8c
              clear HYW8c HBX8c
              have x0 := HBX.out.cell 0
              have x1 := HBX.out.cell 1
              have x2 := HBX.out.cell 2
              have lx := HBX.out.lt
              have HD2 := Lib.hid (ydo_go HYW8.out HY.out HX.out HSL.out)
              unfold entv at HD2
              simp only at HD2
              go_wp2_with fail
              refine HD2.out.mono ?_
              rintro e w10 ⟨rfl, hY10⟩
              have HYW10 := Lib.hid hY10
              clear hY10 HD2 x0 x1 x2 lx
              go_wp2
              go_roundw
              case rel => exact ⟨l.length + 1, by omega, by go_num, HYW10⟩
              case measure => simp [intOf]; omega
            · have hne : ¬ ((2 * l.length : Nat) : Int) = (l.length : Int) := by omega
              (try clear hsm)
              have HD2 := Lib.hid (ydo_go HYW8.out HY.out HX.out HSL.out)
              unfold entv at HD2
              simp only at HD2
              go_wp2_with fail
              refine HD2.out.mono ?_
              rintro e w10 ⟨rfl, hY10⟩
              have HYW10 := Lib.hid hY10
              clear hY10 HD2 x0 x1 x2 lx
              go_wp2
              go_roundw
              case rel => exact ⟨2 * l.length + 1, by omega, by go_num, HYW10⟩
              case measure => simp [intOf]; omega
        · obtain rfl : N = j := by omega
          have hY := HR.out
          rw [← HN.out] at hY
          have hS := hY.at_
          have HBL := Lib.hid hY.bl
          rw [yardN_end] at hS
          have HS := Lib.hid hS
          have HAC := Lib.hid (saccount_any sb S _ wr hS (yardEnd_ok HY.out))
          rw [(end_count HY.out).1, (end_count HY.out).2.1, (end_count HY.out).2.2] at HAC
          clear hY hS HR
          go_wp2_with fail
          refine HAC.out.mono ?_
          rintro e y1 ⟨rfl, hb1⟩
          have HB1 := Lib.hid (bstep HBL.out hb1)
          have HS1 := Lib.hid (HS.out.below hb1)
          have HRD := Lib.hid (sready_site sb S _ y1 HS1.out (yardEnd_ok HY.out))
          rw [yardEnd_ready HY.out] at HRD
          clear hb1 HAC HBL HS
          go_wp2_with fail
          refine HRD.out.mono ?_
          rintro e y2 ⟨rfl, hb2⟩
          have HB2 := Lib.hid (bstep HB1.out hb2)
          have HS2 := Lib.hid (HS1.out.below hb2)
          have HMI := Lib.hid (smissing_any sb S _ y2 HS2.out (yardEnd_ok HY.out))
          rw [yardEnd_miss HY.out] at HMI
          clear hb2 HRD HB1 HS1
          go_wp2_with fail
          refine HMI.out.mono ?_
          rintro e y3 ⟨⟨om, rfl, hom⟩, hb3⟩
          obtain ⟨oma, omc, rfl⟩ := hom.shape
          have HB3 := Lib.hid (bstep HB2.out hb3)
          have HS3 := Lib.hid (HS2.out.below hb3)
          have HEN := Lib.hid (sentries_any sb S _ y3 HS3.out (yardEnd_ok HY.out))
          rw [show (yardEnd l R).es.length = N from HEL.out] at HEN
          clear hb3 HMI HB2 HS2 hom
          go_wp2_with fail
          refine HEN.out.mono ?_
          rintro e y4 ⟨⟨oe, oec, rfl⟩, hb4⟩
          have HB4 := Lib.hid (bstep HB3.out hb4)
          clear hb4 HEN HB3 HS3
          go_wp2
          go_ret
          exact ⟨rfl, HB4.out⟩
    · have e2 : decide (givU l m = 0) = false := by simpa using hg0
      clear hG
      go_wp2
      go_ret
      exact ⟨rfl, HB4.out⟩
end
end Go.Proofs.YtejcgjdfajppgaaDoor
