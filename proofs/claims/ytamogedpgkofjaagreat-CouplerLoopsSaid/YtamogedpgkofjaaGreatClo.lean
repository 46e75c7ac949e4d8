/-
  The walk of CouplerLoops (printed by wip/gen_Cl.py).
-/
import Derived.Test.YtamogedpgkofjaaGreatClb
namespace Go.Proofs.YtamogedpgkofjaaGreat
section
open Go.RowKit
set_option linter.unusedVariables false
set_option linter.unusedSimpArgs false
attribute [local go_sem ↓] Go.wp_at_zero Go.wp_at_succ

/-- The marks behind some of the loops' bars. -/
def seenL (n : Nat) (G : List Nat) : List Bool := (List.range n).map fun v => decide (v ∈ G)
theorem seenL_len (n : Nat) (G : List Nat) : (seenL n G).length = n := by unfold seenL; simp
theorem seenL_get {n v : Nat} (hv : v < n) (G : List Nat) : (seenL n G)[v]? = some (decide (v ∈ G)) := by unfold seenL; rw [List.getElem?_map, List.getElem?_range hv]; rfl
theorem seenL_nil (n : Nat) : seenL n [] = List.replicate n false := by
  unfold seenL
  rw [List.eq_replicate_iff]
  refine ⟨by simp, fun b hb => ?_⟩
  obtain ⟨v, _, rfl⟩ := List.mem_map.1 hb
  simp
theorem seenL_snoc {n v : Nat} (hv : v < n) (G : List Nat) : seenL n (G ++ [v]) = (seenL n G).set v true := by
  refine List.ext_getElem? fun i => ?_
  by_cases hi : i < n
  · rw [seenL_get hi]
    by_cases e : v = i
    · subst e
      rw [List.getElem?_set_self (by rw [seenL_len]; exact hi)]
      simp
    · rw [List.getElem?_set_ne e, seenL_get hi]
      congr 1
      rw [decide_eq_decide, List.mem_append, List.mem_singleton]
      exact ⟨fun h => h.resolve_right (fun h2 => e h2.symm), .inl⟩
  · rw [List.getElem?_eq_none (by rw [seenL_len]; omega), List.getElem?_eq_none (by rw [List.length_set, seenL_len]; omega)]
theorem flat_take {P : List (List Nat)} {j : Nat} {L : List Nat} (h : P[j]? = some L) : (P.take (j + 1)).flatten = (P.take j).flatten ++ L := by
  have hj := (List.getElem?_eq_some_iff.1 h).1
  rw [List.take_succ_eq_append_getElem hj, (List.getElem?_eq_some_iff.1 h).2, List.flatten_append]; simp
structure SeW (w6 : World) (n : Nat) (G : List Nat) (W : World) : Prop where
  below : Below w6.heap.size w6 W
  own : Own W w6.heap.size 4 boolf (.slice (some ⟨w6.heap.size, 0, none⟩) n n) (seenL n G)
theorem SeW.set {w6 W : World} {n x : Nat} {G : List Nat} (h : SeW w6 n G W) (hx : x < n) : SeW w6 n (G ++ [x]) (W.setCell ⟨w6.heap.size, x, none⟩ (.bool true)) :=
  ⟨h.below.setCell (p := ⟨w6.heap.size, x, none⟩) (Nat.le_refl _) _, by rw [seenL_snoc hx]; exact h.own.set x true⟩
theorem SeW.after {w6 W W' : World} {n : Nat} {G : List Nat} (h : SeW w6 n G W) (hb : Below W.heap.size W W') : SeW w6 n G W' := ⟨bstep h.below hb, h.own.below hb⟩
/-- A bar of a loop: below n, not among those before, with an edge to the next. -/
theorem lps_step {n : Nat} {es : List (Nat × Nat)} {j i x : Nat} {L : List Nat} (hL : (lpsC n es)[j]? = some L) (hx : L[i]? = some x) :
    x < n ∧ x ∉ ((lpsC n es).take j).flatten ++ L.take i ∧ ∃ (a : Nat) (y : Nat), ((i : Int) + 1).tmod (L.length : Int) = (a : Int) ∧ a < L.length ∧ L[a]? = some y ∧ (x, y) ∈ es := by
  have h := lps_ok n es n
  obtain ⟨l, hC⟩ := h.each L (List.mem_of_getElem? hL)
  have hi := (List.getElem?_eq_some_iff.1 hx).1
  refine ⟨(othN_mem.1 (hC.oth x (List.mem_of_getElem? hx))).1, ?_, ?_⟩
  · have hnd : ((lpsC n es).flatten).Nodup := by have := h.nodup; rw [h.flat] at this; exact this
    have h1 : (((lpsC n es).take (j + 1)).flatten).Nodup := by
      have h2 := List.take_append_drop (j + 1) (lpsC n es)
      rw [← h2, List.flatten_append] at hnd
      exact (List.nodup_append.1 hnd).1
    rw [flat_take hL] at h1
    have h3 : (((lpsC n es).take j).flatten ++ L.take (i + 1)).Nodup := h1.sublist (List.Sublist.append_left (List.take_sublist _ _) _)
    rw [List.take_succ_eq_append_getElem hi, (List.getElem?_eq_some_iff.1 hx).2, ← List.append_assoc] at h3
    intro hm
    exact (List.nodup_append.1 h3).2.2 _ hm _ (List.mem_singleton.2 rfl) rfl
  · rcases Nat.lt_or_ge (i + 1) L.length with h1 | h1
    · refine ⟨i + 1, L[i + 1], ?_, h1, List.getElem?_eq_getElem h1, hC.edge i x _ hx (List.getElem?_eq_getElem h1)⟩
      rw [Int.tmod_eq_emod_of_nonneg (by omega), Int.emod_eq_of_lt (by omega) (by omega)]; omega
    · have hp := hC.pos
      obtain rfl : i = L.length - 1 := by omega
      refine ⟨0, L[0], ?_, hp, List.getElem?_eq_getElem hp, hC.back _ x (List.getElem?_eq_getElem hp) hx⟩
      rw [show ((L.length - 1 : Nat) : Int) + 1 = (L.length : Int) by omega, Int.tmod_self]; rfl
set_option maxRecDepth 100000 in
set_option maxHeartbeats 8000000 in
theorem couplerLoops_walk (w : World) (v : Value) (l : List BarD) (hp : Bars w v l) (hf : FitB l) (hl : l.length * 64 ≤ 140737488351232) (vr : Value) (rs : List RunD) (hr : Runs w vr rs) (hm : ∀ r ∈ rs, r.mark.size ≤ maxLen) (hlr : rs.length * 88 ≤ 140737488351232)
    (xv : Value) (X : List Int) (hx : Ints w xv X) (hlx : X.length * 8 ≤ 140737488351232) (wx : ∀ x ∈ X, (Lit.int .i64 x).wf = true) :
    Calls Tryz.prog 4 #[v, vr, xv] w fun en w' => en = .returned (.bool true) ∧ Below w.heap.size w w' := by
  have hl2 : l.length ≤ 140737488355328 := by omega
  have hlr2 : rs.length ≤ 140737488355328 := by omega
  have HLG := Lib.hid (fun W (hW : Below w.heap.size w W) => clarge_any v vr xv X l rs W (hp.below hW) (hr.below hW) hl2 hlr2 hf (Sl.below hx hW) (by omega))
  clear hp hr hf hl hlr hm hx wx hl2 hlr2
  go_enter Tryz.func4, Tryz.ntmps4
  go_wp2_with fail
  refine (cqawake_any _).mono ?_
  rintro en w1 ⟨rfl, hb1⟩
  have HW1 := Lib.hid hb1
  clear hb1
  go_wp2_with fail
  refine (HLG.out _ HW1.out).mono ?_
  rintro en w2 ⟨b, rfl, hb2, hq2⟩
  have HW2 := Lib.hid (bstep HW1.out hb2)
  have HQ2 := Lib.hid (fun h => ((hq2 h).1.below hb2 : Cg w2 v vr xv X l rs))
  have HX2 := Lib.hid (fun h => (hq2 h).2)
  clear hb2 hq2 HW1 HLG
  cases b
  · have HC := Lib.hid (fun W (hW : Below w2.heap.size w2 W) => (HQ2.out rfl).below hW)
    have HN := Lib.hid (fun W (hW : Below w2.heap.size w2 W) => cneeded_any v vr xv X l rs W (HC.out W hW))
    have HL := Lib.hid (fun W (hW : Below w2.heap.size w2 W) => cloops_any v vr xv X l rs W (HC.out W hW))
    have HBO := Lib.hid (fun W (hW : Below w2.heap.size w2 W) => cbound_any v vr xv X l rs W (HC.out W hW) _ rfl)
    have HE := Lib.hid (fun W (hW : Below w2.heap.size w2 W) => bedges_any v vr xv X l rs W (HC.out W hW))
    by_cases hc : sqC l rs X = 0
    · have hends : EndsD (lgsOf l rs).length (sqEs l rs X) := edN_ends _ _ _ _
      have hok := (sqC_zero hc).1
      have h14 := (HC.out w2 (Below.refl _ _)).hA.h14 hok
      have HCN := Lib.hid (fun W (hW : Below w2.heap.size w2 W) => bcount_any v vr xv X l rs W (HC.out W hW) hok)
      rw [hc] at HN HE HL HBO
      have HEN := Lib.hid hends
      generalize sqEs l rs X = es at *
      generalize (lgsOf l rs).length = n at *
      have hlf : lpsF 0 n es = (0, lpsC n es) := if_pos rfl
      rw [hlf] at HL HBO
      obtain ⟨R, hR⟩ : ∃ R, ndF 0 n es = R := ⟨_, rfl⟩
      have HR := Lib.hid hR
      rw [hR] at HN
      have HST := Lib.hid (fun (j i x : Nat) (L : List Nat) (hL : (lpsC n es)[j]? = some L) (hx : L[i]? = some x) => lps_step hL hx)
      have HPOS := Lib.hid (fun (j : Nat) (L : List Nat) (hL : (lpsC n es)[j]? = some L) => (show 0 < L.length ∧ L.length ≤ 60 from by
        obtain ⟨l', hl'⟩ := (lps_ok n es n).each L (List.mem_of_getElem? hL)
        refine ⟨hl'.pos, ?_⟩
        have h1 := sub_len L (List.range n) hl'.nodup (fun x hx => List.mem_range.2 (othN_mem.1 (hl'.oth x hx)).1)
        rw [List.length_range] at h1
        omega))
      have hlen : (lpsC n es).length ≤ (needC n es).length ∧ ((lpsC n es).length = 0 ↔ brkC n es []) ∧ ((needC n es).length = 0 ↔ brkC n es []) := ⟨lps_few (need_ok n es).brk, by rw [List.length_eq_zero_iff]; exact lps_nil, by rw [List.length_eq_zero_iff]; exact need_nil⟩
      have HLN := Lib.hid hlen
      have hll : (lpsC n es).length ≤ 60 := by
        have h1 := (lps_ok n es n).len
        have h2 := lps_size n es n
        show (lpsK n es n).1.length ≤ 60
        omega
      have hBN := brk_none hends
      have HOB := Lib.hid hBN
      clear hlf hR hc HC HQ2 HX2 hends hlen hBN hok
      go_wp2_with fail
      refine (HL.out w2 (Below.refl _ _)).mono ?_
      rintro e w3 ⟨o2, rfl, ⟨vals, hm3⟩, hb3⟩
      have HB3 := Lib.hid hb3
      have HM3 := Lib.hid (Mat.rows ⟨vals, hm3⟩)
      have hv3 := hm3.1
      obtain ⟨po, pc, rfl⟩ := hm3.2.1.shape
      rw [hv3] at HM3 ⊢
      clear hb3 hm3 HL hv3
      generalize hP : lpsC n es = P at *
      clear hP
      generalize hpl : P.length = pl at *
      have HPL := Lib.hid hpl
      clear hpl
      go_wp2_with fail
      refine (HBO.out w3 HB3.out).mono ?_
      rintro e w4 ⟨rfl, hb4⟩
      have HB4 := Lib.hid (bstep HB3.out hb4)
      have HM4 := Lib.hid (HM3.out.below hb4)
      clear hb4 HBO HM3
      go_wp2_with fail
      refine (HE.out w4 HB4.out).mono ?_
      rintro e w5 ⟨o, rfl, hd, hno, hb5⟩
      have HB5 := Lib.hid (bstep HB4.out hb5)
      have HM5 := Lib.hid (HM4.out.below hb5)
      have HD5 := Lib.hid (hd trivial)
      obtain ⟨eo, ec, rfl, hop⟩ := (hd trivial).pairs.open_
      clear hb5 hd HE hop hno HM4
      generalize hem : es.length = em at *
      have HEM := Lib.hid hem
      have hem1 : em ≤ 1000 := by have := HD5.out.m_le; rw [hem] at this; exact this
      clear hem
      go_wp2_with fail
      refine (HCN.out w5 HB5.out).mono ?_
      rintro e w6 ⟨rfl, hb6⟩
      have HB6 := Lib.hid (bstep HB5.out hb6)
      have HM6 := Lib.hid (HM5.out.below hb6)
      have HD6 := Lib.hid (HD5.out.below hb6)
      clear hb6 HCN HM5 HD5
      have hmk := run_make_one (P := Tryz.prog) 42 4 1 (.bool false) Tryz.underlying42 (by kernel_rfl) (by omega) n (by omega) w6
      obtain ⟨W7, hW7⟩ : ∃ W7, w6.alloc (.cells (madeCells (Value.bool false).cells n) 4) = W7 := ⟨_, rfl⟩
      have HS7 : Hid (SeW w6 n [] W7) := by
        rw [← hW7]
        refine ⟨below_new _ _, ?_⟩
        rw [seenL_nil]
        exact own_made w6 4 boolf false (.bool false) rfl n (by omega) _ (Nat.le_refl _)
      rw [hW7] at hmk
      go_wp2_with fail
      clear hmk
      (try rw [hW7])
      clear hW7
      go_loopw [96] (fun i wr => ∃ j : Nat, j ≤ pl ∧ i = .int .i64 (j : Int) ∧ Hid (SeW w6 n ((P.take j).flatten) wr)) (fun i _ => pl - (intOf i).toNat)
      case atStart => exact ⟨0, Nat.zero_le _, rfl, HS7.out⟩
      case round =>
        clear HS7
        obtain ⟨j, hj, rfl, HI⟩ := hrel
        by_cases hjp : j < pl
        · obtain ⟨L, hL⟩ : ∃ L, P[j]? = some L := ⟨_, List.getElem?_eq_getElem (by rw [HPL.out]; exact hjp)⟩
          obtain ⟨rb, roff, rfl, hrlt, ro, rc, c6, hnr⟩ := rows_get HM6.out hL
          have c0 := (HI.out.below.cell (p := ⟨rb, roff + j, none⟩) hrlt).trans c6
          have HNR := Lib.hid hnr
          have hps := HPOS.out j L hL
          have HSTL := Lib.hid (fun (i x : Nat) (hx : L[i]? = some x) => HST.out j i x L hL hx)
          have HFL := Lib.hid (flat_take hL)
          have j0 : (0 : Int) ≤ (j : Int) := Int.natCast_nonneg _
          have j1 : (j : Int) < (pl : Int) := by omega
          clear hL hnr c6
          generalize (P.take j).flatten = G at *
          generalize hll2 : L.length = ll at *
          have HLL := Lib.hid hll2
          clear hll2
          have b1 : ((ll : Int) == 0) = false := beq_no (by omega)
          have b2 : (ll == 0) = false := by simp; omega
          have b3 : ¬ (ll : Int) = 0 := by omega
          have b4 : ¬ ll = 0 := by omega
          obtain ⟨wo, rfl⟩ : ∃ wo : World, wo = wr := ⟨_, rfl⟩
          go_wp2_with fail
          go_loopw [105] (fun i wr => ∃ i1 : Nat, i1 ≤ ll ∧ i = .int .i64 (i1 : Int) ∧ Hid (SeW w6 n (G ++ L.take i1) wr)) (fun i _ => ll - (intOf i).toNat)
          case atStart => exact ⟨0, Nat.zero_le _, rfl, by rw [List.take_zero, List.append_nil]; exact HI.out⟩
          case round =>
            clear HI c0
            obtain ⟨i, hi, rfl, HI⟩ := hrel
            by_cases hil : i < ll
            · obtain ⟨x, hx⟩ : ∃ x, L[i]? = some x := ⟨_, List.getElem?_eq_getElem (by rw [HLL.out]; exact hil)⟩
              obtain ⟨hxn, hxG, a, y, ha, hal, hy, hxy⟩ := HSTL.out i x hx
              have hNr := HNR.out.below HI.out.below
              obtain ⟨qb, qoff, rfl, hqb, g0⟩ := nats_get hNr hx
              obtain ⟨qb2, qoff2, he2, _, g1⟩ := nats_get hNr hy
              cases he2
              have g2 := HI.out.own.cell (seenL_get hxn (G ++ L.take i))
              have g3 := HI.out.own.free x
              have g4 := (HI.out.own.lt _ rfl).2
              rw [dec_no hxG] at g2
              unfold boolf at g2
              have HTK : Hid (L.take (i + 1) = L.take i ++ [x]) := by
                have h1 := (List.getElem?_eq_some_iff.1 hx)
                show L.take (i + 1) = _
                rw [List.take_succ_eq_append_getElem h1.1, h1.2]
              have HSE := Lib.hid (HI.out.set hxn)
              have HCP := Lib.hid (containsPair_any (.slice eo em ec) (cst es) (x : Int) (y : Int) wr (HD6.out.below HI.out.below).pairs (by rw [cst_len, HEM.out]; omega))
              rw [pairIn_nat, dec_yes hxy] at HCP
              have x0 : decide ((x : Int) < 0) = false := dec_no (by omega)
              have x1 : decide ((n : Int) ≤ (x : Int)) = false := dec_no (by omega)
              have x2 : (0 : Int) ≤ (x : Int) := by omega
              have x3 : (x : Int) < (n : Int) := by omega
              have i0 : (0 : Int) ≤ (i : Int) := by omega
              have i1 : (i : Int) < (ll : Int) := by omega
              have a0 : (0 : Int) ≤ (a : Int) := by omega
              have a1 : (a : Int) < (ll : Int) := by omega
              have q1 : IntKind.i64.wrap ((i : Int) + 1) = (i : Int) + 1 := IntWalk.i64_in _ (by omega)
              have q2 : IntKind.i64.wrap (a : Int) = (a : Int) := IntWalk.i64_in _ (by omega)
              clear hx hxG hy hxy hNr
              go_wp2_with fail
              refine HCP.out.mono ?_
              rintro e w8 ⟨rfl, hb8⟩
              have HI8 := Lib.hid (HI.out.after hb8)
              have HS8 := Lib.hid ((HI.out.after hb8).set hxn)
              rw [List.append_assoc, ← HTK.out] at HS8
              have k2 := HI8.out.own.cell (seenL_get hxn (G ++ L.take i))
              have k3 := HI8.out.own.free x
              have k4 := (HI8.out.own.lt _ rfl).2
              clear hb8 HCP g0 g1 g2 g3 g4
              go_wp2
              go_roundw
              case rel => exact ⟨i + 1, by omega, by go_num, HS8.out⟩
              case measure => simp [intOf]; omega
            · obtain rfl : i = ll := by omega
              have HIF := HI.out
              rw [List.take_of_length_le (by rw [HLL.out]; exact Nat.le_refl _), ← HFL.out] at HIF
              go_wp2
              go_roundw
              case rel => exact ⟨j + 1, by omega, by go_num, HIF⟩
              case measure => simp [intOf]; omega
        · obtain rfl : j = pl := by omega
          have HDW := Lib.hid (HD6.out.below HI.out.below)
          have HTO := Lib.hid (ordTop_ok n (.slice eo em ec) es wr HDW.out)
          have HBW := Lib.hid (bstep HB6.out HI.out.below)
          unfold TopPost at HTO
          have HND := Lib.hid (fun W (hW : Below w2.heap.size w2 W) => HN.out W hW)
          cases ho : orderOf n es with
          | some D =>
            have hj0 : j = 0 := HLN.out.2.1.2 (HOB.out.2 (order_some HEN.out ho))
            rw [ho] at HTO
            have hr0 : (needC n es).length = 0 := HLN.out.2.2.2 (HOB.out.2 (order_some HEN.out ho))
            subst hj0
            have HR0 := Lib.hid hr0
            clear ho hr0 HLN hj hjp hll
            go_wp2_with fail
            refine HTO.out.mono ?_
            rintro e w9 ⟨⟨ov, rfl, hov⟩, hb9⟩
            have HB9 := Lib.hid (bstep HBW.out hb9)
            obtain ⟨oo, oc, rfl⟩ := hov.shape
            clear hb9 hov HTO
            generalize D.length = dl at *
            go_wp2_with fail
            refine (HND.out w9 HB9.out).mono ?_
            rintro e w10 ⟨o10, rfl, ho10, hb10⟩
            have HB10 := Lib.hid (bstep HW2.out (bstep HB9.out hb10))
            by_cases h12 : 12 < n
            · have hRR : R = (6, []) := by rw [← HR.out]; unfold ndF; rw [if_pos rfl, if_pos h12]
              have d1 : decide ((12 : Int) < (n : Int)) = true := dec_yes (by omega)
              rw [hRR] at ho10 ⊢
              obtain ⟨ro, rc, rfl⟩ := ho10.shape
              clear hb10 ho10 hRR HND HN HR
              go_wp2
              go_ret
              exact ⟨rfl, HB10.out⟩
            · have hRR : R = (0, needC n es) := by rw [← HR.out]; unfold ndF; rw [if_pos rfl, if_neg h12]
              rw [hRR] at ho10 ⊢
              obtain ⟨ro, rc, rfl⟩ := ho10.shape
              rw [show ((0, needC n es) : Int × List Nat).2.length = 0 from HR0.out]
              clear hb10 ho10 hRR HND HN HR
              go_wp2
              go_ret
              exact ⟨rfl, HB10.out⟩
          | none =>
            have hcy := order_none HEN.out ho
            have hj0 : j ≠ 0 := fun h => HOB.out.1 (HLN.out.2.1.1 h) hcy
            have hr0 : (needC n es).length ≠ 0 := fun h => HOB.out.1 (HLN.out.2.2.1 h) hcy
            rw [ho] at HTO
            obtain ⟨r2, hr2⟩ : ∃ r2, (needC n es).length = r2 := ⟨_, rfl⟩
            have HR2 := Lib.hid hr2
            have hle := HLN.out.1
            rw [hr2] at hr0 hle
            have b1 : ((j : Int) == 0) = false := beq_no (by omega)
            have b2 : (j == 0) = false := by simpa using hj0
            have b3 : ((r2 : Int) == 0) = false := beq_no (by omega)
            have b4 : (r2 == 0) = false := by simpa using hr0
            have b5 : decide ((j : Int) ≤ (r2 : Int)) = true := dec_yes (by omega)
            have b6 : decide (j ≤ r2) = true := dec_yes hle
            clear ho HLN hcy hr2 hjp
            go_wp2_with fail
            refine HTO.out.mono ?_
            rintro e w9 ⟨rfl, hb9⟩
            have HB9 := Lib.hid (bstep HBW.out hb9)
            clear hb9 HTO
            go_wp2_with fail
            refine (HND.out w9 HB9.out).mono ?_
            rintro e w10 ⟨o10, rfl, ho10, hb10⟩
            have HB10 := Lib.hid (bstep HW2.out (bstep HB9.out hb10))
            by_cases h12 : 12 < n
            · have hRR : R = (6, []) := by rw [← HR.out]; unfold ndF; rw [if_pos rfl, if_pos h12]
              have d1 : decide ((12 : Int) < (n : Int)) = true := dec_yes (by omega)
              rw [hRR] at ho10 ⊢
              obtain ⟨ro, rc, rfl⟩ := ho10.shape
              clear hb10 ho10 hRR HND HN HR
              go_wp2
              go_ret
              exact ⟨rfl, HB10.out⟩
            · have hRR : R = (0, needC n es) := by rw [← HR.out]; unfold ndF; rw [if_pos rfl, if_neg h12]
              rw [hRR] at ho10 ⊢
              obtain ⟨ro, rc, rfl⟩ := ho10.shape
              rw [show ((0, needC n es) : Int × List Nat).2.length = r2 from HR2.out]
              clear hb10 ho10 hRR HND HN HR
              go_wp2
              go_ret
              exact ⟨rfl, HB10.out⟩
    · have h1 : ndF (sqC l rs X) (lgsOf l rs).length (sqEs l rs X) = (sqC l rs X, []) := if_neg hc
      have h2 : lpsF (sqC l rs X) (lgsOf l rs).length (sqEs l rs X) = (sqC l rs X, []) := if_neg hc
      rw [h2] at HL HBO
      clear h1 h2 HC HQ2 HX2 HN
      generalize sqC l rs X = c at *
      have hb : (c != 0) = true := bne_yes hc
      go_wp2_with fail
      refine (HL.out w2 (Below.refl _ _)).mono ?_
      rintro e w3 ⟨o2, rfl, ⟨vals, hm3⟩, hb3⟩
      have HB3 := Lib.hid hb3
      have hvl := hm3.1
      obtain ⟨po, pc, rfl⟩ := hm3.2.1.shape
      rw [hvl]
      clear hb3 hm3 HL hvl
      go_wp2_with fail
      refine (HBO.out w3 HB3.out).mono ?_
      rintro e w4 ⟨rfl, hb4⟩
      have HB4 := Lib.hid (bstep HB3.out hb4)
      clear hb4 HBO
      go_wp2_with fail
      refine (HE.out w4 HB4.out).mono ?_
      rintro e w5 ⟨o, rfl, _, ho, hb5⟩
      obtain rfl := ho hc
      have HB5 := Lib.hid (bstep HW2.out (bstep HB4.out hb5))
      clear hb5 HE ho hc
      go_wp2
      go_ret
      exact ⟨rfl, HB5.out⟩
  · go_wp2
    go_ret
    exact ⟨rfl, HW2.out⟩
end
end Go.Proofs.YtamogedpgkofjaaGreat
