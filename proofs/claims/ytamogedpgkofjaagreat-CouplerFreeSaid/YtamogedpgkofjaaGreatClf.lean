/-
  The walk of CouplerFree (printed by wip/gen_Cl.py).
-/
import Derived.Test.YtamogedpgkofjaaGreatClb
namespace Go.Proofs.YtamogedpgkofjaaGreat
section
open Go.RowKit
set_option linter.unusedVariables false
set_option linter.unusedSimpArgs false
attribute [local go_sem ↓] Go.wp_at_zero Go.wp_at_succ

set_option maxRecDepth 100000 in
set_option maxHeartbeats 8000000 in
theorem couplerFree_walk (w : World) (v : Value) (l : List BarD) (hp : Bars w v l) (hf : FitB l) (hl : l.length * 64 ≤ 140737488351232) (vr : Value) (rs : List RunD) (hr : Runs w vr rs) (hm : ∀ r ∈ rs, r.mark.size ≤ maxLen) (hlr : rs.length * 88 ≤ 140737488351232)
    (xv : Value) (X : List Int) (hx : Ints w xv X) (hlx : X.length * 8 ≤ 140737488351232) (wx : ∀ x ∈ X, (Lit.int .i64 x).wf = true) :
    Calls Tryz.prog 3 #[v, vr, xv] w fun en w' => en = .returned (.bool true) ∧ Below w.heap.size w w' := by
  have hl2 : l.length ≤ 140737488355328 := by omega
  have hlr2 : rs.length ≤ 140737488355328 := by omega
  have HLG := Lib.hid (fun W (hW : Below w.heap.size w W) => clarge_any v vr xv X l rs W (hp.below hW) (hr.below hW) hl2 hlr2 hf (Sl.below hx hW) (by omega))
  clear hp hr hf hl hlr hm hx wx hl2 hlr2
  go_enter Tryz.func3, Tryz.ntmps3
  go_wp2_with fail
  refine (cqawake_any _).mono ?_
  rintro en w1 ⟨rfl, hb1⟩
  have HW1 := Lib.hid hb1
  clear hb1
  go_wp2_with fail
  refine (HLG.out _ HW1.out).mono ?_
  rintro en w2 ⟨b, rfl, hb2, hq2⟩
  have HW2 := Lib.hid (bstep HW1.out hb2)
  have HQ2 := Lib.hid (fun h => ((hq2 h).1.below hb2 : Cg w2 v vr xv X l rs))
  have HX2 := Lib.hid (fun h => (hq2 h).2)
  clear hb2 hq2 HW1 HLG
  cases b
  · have HC := Lib.hid (fun W (hW : Below w2.heap.size w2 W) => (HQ2.out rfl).below hW)
    have HN := Lib.hid (fun W (hW : Below w2.heap.size w2 W) => cneeded_any v vr xv X l rs W (HC.out W hW))
    have HE := Lib.hid (fun W (hW : Below w2.heap.size w2 W) => bedges_any v vr xv X l rs W (HC.out W hW))
    by_cases hc : sqC l rs X = 0
    · have hends : EndsD (lgsOf l rs).length (sqEs l rs X) := edN_ends _ _ _ _
      have h14 := (HC.out w2 (Below.refl _ _)).hA.h14 (sqC_zero hc).1
      rw [hc] at HN HE
      have HEN := Lib.hid hends
      generalize sqEs l rs X = es at *
      generalize (lgsOf l rs).length = n at *
      clear hends hc HC HQ2 HX2
      go_wp2_with fail
      refine (HE.out w2 (Below.refl _ _)).mono ?_
      rintro e w3 ⟨o, rfl, hd, hno, hb3⟩
      clear hno
      have HB3 := Lib.hid hb3
      have HD3 := Lib.hid (hd trivial)
      obtain ⟨eo, ec, rfl, hop⟩ := (hd trivial).pairs.open_
      clear hb3 hd HE hop
      generalize hem : es.length = em at *
      have HEM := Lib.hid hem
      have hem1 : em ≤ 1000 := by have := HD3.out.m_le; rw [hem] at this; exact this
      clear hem
      go_wp2_with fail
      refine (HN.out w3 HB3.out).mono ?_
      rintro e w4 ⟨o4, rfl, ho4, hb4⟩
      have HB4 := Lib.hid (bstep HB3.out hb4)
      have HD4 := Lib.hid (HD3.out.below hb4)
      by_cases h12 : 12 < n
      · have hR : ndF 0 n es = (6, []) := by unfold ndF; rw [if_pos rfl, if_pos h12]
        rw [hR] at ho4 ⊢
        obtain ⟨oo, oc, rfl⟩ := ho4.shape
        clear hb4 ho4 HN hR
        go_wp2
        go_ret
        exact ⟨rfl, bstep HW2.out HB4.out⟩
      · have hR : ndF 0 n es = (0, needC n es) := by unfold ndF; rw [if_pos rfl, if_neg h12]
        rw [hR] at ho4 ⊢
        have HBK := Lib.hid (need_ok n es).brk
        have HNE := Lib.hid (fun (h : es.length = 0) => need_nil.2 (by rw [List.length_eq_zero_iff.1 h]; exact brk_noE : brkC n es []))
        obtain ⟨L, hL⟩ : ∃ L, needC n es = L := ⟨_, rfl⟩
        have hLn : L.length ≤ 60 := by
          have h1 := sub_len (needC n es) (List.range n) (need_nodup n es) (fun x hx => List.mem_range.2 ((need_ok n es).lt x hx))
          rw [List.length_range, hL] at h1
          omega
        rw [hL] at ho4 HBK HNE ⊢
        have HO4 := Lib.hid ho4.sl
        obtain ⟨oo, oc, rfl⟩ := ho4.shape
        clear hb4 ho4 HN hR hL
        generalize hll : L.length = ll at *
        have HLL := Lib.hid hll
        clear hll
        go_wp2_with fail
        go_loopw [44] (fun i wr => ∃ k : Nat, k ≤ em ∧ i = .int .i64 (k : Int) ∧ Hid (Below w4.heap.size w4 wr)) (fun i _ => em - (intOf i).toNat)
        case atStart => exact ⟨0, Nat.zero_le _, rfl, Below.refl _ _⟩
        case round =>
          obtain ⟨k, hk, rfl, HI⟩ := hrel
          by_cases hkn : k < em
          · obtain ⟨e, hek⟩ : ∃ e, es[k]? = some e := ⟨_, List.getElem?_eq_getElem (by rw [HEM.out]; exact hkn)⟩
            obtain ⟨eb, eoff, heo, hel, g0, g1⟩ := NPairs.edge ((HD4.out.below HI.out).pairs) hek
            cases heo
            obtain ⟨a, b⟩ := e
            simp only at g0 g1
            have HM := Lib.hid (List.mem_of_getElem? hek)
            have HTW := Lib.hid (fun (h2 : (b, a) ∈ es) => brk_two HEN.out HM.out h2 HBK.out)
            have k0 : (0 : Int) ≤ (k : Int) := Int.natCast_nonneg _
            have k1 : (k : Int) < (em : Int) := by omega
            obtain ⟨W5, hW5⟩ : ∃ W5, wr.alloc (.cells #[.int .i64 (a : Int), .int .i64 (b : Int)] 33) = W5 := ⟨_, rfl⟩
            have HB5 : Hid (Below wr.heap.size wr W5) := by rw [← hW5]; exact below_new _ _
            have HBX : Hid (BlkIs W5 wr.heap.size 33 #[.int .i64 (a : Int), .int .i64 (b : Int)]) := by rw [← hW5]; exact BlkIs.new _ _ _
            have HCP := Lib.hid (containsPair_any _ _ (b : Int) (a : Int) W5 ((HD4.out.below (bstep HI.out HB5.out)).pairs) (by rw [cst_len, HEM.out]; have := HD4.out.m_le; rw [HEM.out] at this; omega))
            rw [pairIn_nat] at HCP
            have HCN := Lib.hid (fun x W (hW : Below w4.heap.size w4 W) => containsN_any _ L x W (HO4.out.below hW) (by rw [HLL.out]; omega))
            have y0 := HBX.out.cell 0
            have y1 := HBX.out.cell 1
            have y2 := HBX.out.lt
            clear hek
            go_wp2_with fail
            (try rw [hW5])
            clear hW5 g0 g1 y0 y1 y2
            refine HCP.out.mono ?_
            rintro e w6 ⟨rfl, hb6⟩
            have HB6 := Lib.hid (bstep HI.out (bstep HB5.out hb6))
            have BX6 := Lib.hid (HBX.out.below hb6)
            have c0 := BX6.out.cell 0
            have c1 := BX6.out.cell 1
            have l0 := BX6.out.lt
            clear hb6 HCP HBX HB5
            by_cases hba : (b, a) ∈ es
            · rw [dec_yes hba]
              have HT2 := Lib.hid (HTW.out hba)
              clear hba HTW
              go_wp2_with fail
              refine (HCN.out a w6 HB6.out).mono ?_
              rintro e w7 ⟨rfl, rfl⟩
              by_cases haL : a ∈ L
              · rw [dec_yes haL]
                clear haL HCN
                go_wp2
                go_roundw
                case rel => exact ⟨k + 1, by omega, by go_num, HB6.out⟩
                case measure => simp [intOf]; omega
              · have hbL : b ∈ L := by
                  rcases HT2.out with h | h
                  · exact absurd (ntI_mem.1 h) haL
                  · exact ntI_mem.1 h
                rw [dec_no haL]
                clear haL
                go_wp2_with fail
                refine (HCN.out b w6 HB6.out).mono ?_
                rintro e w7 ⟨rfl, rfl⟩
                rw [dec_yes hbL]
                clear hbL HCN
                go_wp2
                go_roundw
                case rel => exact ⟨k + 1, by omega, by go_num, HB6.out⟩
                case measure => simp [intOf]; omega
            · rw [dec_no hba]
              clear hba HTW HCN
              go_wp2
              go_roundw
              case rel => exact ⟨k + 1, by omega, by go_num, HB6.out⟩
              case measure => simp [intOf]; omega
          · obtain rfl : k = em := by omega
            have HZ := Lib.hid (bstep HW2.out (bstep HB4.out HI.out))
            by_cases h0 : 0 < k
            · have d1 : decide ((0 : Int) < (k : Int)) = true := dec_yes (by omega)
              have d2 : decide (0 < k) = true := dec_yes h0
              go_wp2
              go_ret
              exact ⟨rfl, HZ.out⟩
            · obtain rfl : k = 0 := by omega
              have h1 := HNE.out (by rw [HEM.out])
              obtain rfl : ll = 0 := by rw [← HLL.out, h1]; rfl
              clear h1
              go_wp2
              go_ret
              exact ⟨rfl, HZ.out⟩
    · have h1 : ndF (sqC l rs X) (lgsOf l rs).length (sqEs l rs X) = (sqC l rs X, []) := if_neg hc
      rw [h1] at HN
      clear h1 HC HQ2 HX2
      generalize sqC l rs X = c at *
      have hb : (c != 0) = true := bne_yes hc
      go_wp2_with fail
      refine (HE.out w2 (Below.refl _ _)).mono ?_
      rintro e w3 ⟨o, rfl, _, ho, hb3⟩
      obtain rfl := ho hc
      have HB3 := Lib.hid hb3
      clear hb3 HE ho hc
      go_wp2_with fail
      refine (HN.out w3 HB3.out).mono ?_
      rintro e w4 ⟨o4, rfl, ho4, hb4⟩
      have HB4 := Lib.hid (bstep HW2.out (bstep HB3.out hb4))
      obtain ⟨oo, oc, rfl⟩ := ho4.shape
      clear hb4 ho4 HN
      go_wp2
      go_ret
      exact ⟨rfl, HB4.out⟩
  · go_wp2
    go_ret
    exact ⟨rfl, HW2.out⟩
end
end Go.Proofs.YtamogedpgkofjaaGreat
