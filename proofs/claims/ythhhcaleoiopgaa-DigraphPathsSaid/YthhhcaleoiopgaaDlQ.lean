/-
  Law DigraphPaths: the walk where there is a longest path.
-/
import Derived.Test.YthhhcaleoiopgaaDlP
namespace Go.Proofs.Ythhhcaleoiopgaa
open Go.RowKit
set_option linter.unusedVariables false
attribute [local go_sem ↓] Go.wp_at_zero Go.wp_at_succ

/-- What the calls of the law answer, on any world that keeps what was there. -/
structure PathsSet (w : World) (n : Nat) (v vw vp : Value) (es : List (Nat × Nat)) (ws p : List Int) (D : List Nat) : Prop where
  g : Dg w n v es
  w_ : Ints w vw ws
  wl : ws.length = n
  wb : ∀ x ∈ ws, 0 ≤ x ∧ x ≤ 1073741824
  p_ : Ints w vp p
  pl : p.length ≤ 20
  d : orderOf n es = some D
  m60 : es.length ≤ 60

theorem grown_far {w5 w9 w' : World} {u : Value} {es : List (Nat × Nat)} (h : OwnP w9 w5.heap.size u es) (hg : w9.grownBy w' u.ownBlock) (hs : w5.heap.size ≤ w9.heap.size) : Hid (∀ b, b < w5.heap.size → w'.cell? ⟨b, 0, none⟩ = w9.cell? ⟨b, 0, none⟩) :=
  fun b hb => hg.cell_far ⟨b, 0, none⟩ (Nat.lt_of_lt_of_le hb hs) (fun e => absurd (h.lt b e.symm).1 (Nat.not_le_of_lt hb))
theorem src_pair {w5 w9 : World} {A B : Nat} (hb : Below (w5.alloc (.cells #[.int .i64 (A : Int), .int .i64 (B : Int)] 38)).drew.heap.size (w5.alloc (.cells #[.int .i64 (A : Int), .int .i64 (B : Int)] 38)).drew w9) :
    ∀ j u, (pairCells [(A, B)])[j]? = some u → w9.cell? ((⟨w5.heap.size, 0, none⟩ : Addr).add j) = some u := by
  have hlt : w5.heap.size < (w5.alloc (.cells #[.int .i64 (A : Int), .int .i64 (B : Int)] 38)).drew.heap.size := by show _ < (w5.alloc _).heap.size; simp
  intro j u hj
  match j, hj with
  | 0, hj =>
    cases hj
    rw [Addr.add_lit]
    exact (hb.cell (p := ⟨w5.heap.size, 0, none⟩) hlt).trans (show (w5.alloc (.cells #[.int .i64 (A : Int), .int .i64 (B : Int)] 38)).cell? ⟨w5.heap.size, 0, none⟩ = some (.int .i64 (A : Int)) by rw [World.cell?_alloc_at _ _ _ _ rfl]; rfl)
  | 1, hj =>
    cases hj
    rw [Addr.add_lit]
    exact (hb.cell (p := ⟨w5.heap.size, 1, none⟩) hlt).trans (show (w5.alloc (.cells #[.int .i64 (A : Int), .int .i64 (B : Int)] 38)).cell? ⟨w5.heap.size, 1, none⟩ = some (.int .i64 (B : Int)) by rw [World.cell?_alloc_at _ _ _ _ rfl]; rfl)

set_option maxRecDepth 100000 in
set_option maxHeartbeats 4000000 in
theorem pathsMain_walk (w : World) (n : Nat) (v vw vp : Value) (es : List (Nat × Nat)) (ws p : List Int) (D : List Nat) (a b m : Nat) (hS : PathsSet w n v vw vp es ws p D) (hn : 0 < n) (ha : a ≤ 255) (hb : b ≤ 255) (hm : m ≤ 65535) (hlg : larg n es.length = false) :
    Calls Try.prog 4 #[.int .i64 (n : Int), v, vw, vp, .int .u8 (a : Int), .int .u8 (b : Int), .int .u16 (m : Int)] w fun e w' => e = .returned (.bool true) ∧ Below w.heap.size w w' := by
  have HS := Lib.hid hS
  have hn60 := hS.g.n_le
  have hm60 := hS.m60
  obtain ⟨ao, cap, rfl, _⟩ := hS.g.pairs.open_
  obtain ⟨wo, wcap, rfl, _⟩ := hS.w_
  obtain ⟨po, pc, rfl, _⟩ := hS.p_
  have hwl := hS.wl
  have hpl := hS.pl
  rw [hwl] at HS ⊢
  have HB := Lib.hid (W3b_below w n (.slice ao es.length cap) (.slice wo n wcap))
  have HC := Lib.hid (fun (W : World) (hW : Below (w.heap.size + 3) (W3b w n (.slice ao es.length cap) (.slice wo n wcap)) W) => W3b_cells hW)
  have HA := Lib.hid (awake_any (W3b w n (.slice ao es.length cap) (.slice wo n wcap)))
  obtain ⟨W0, hW0⟩ : ∃ W0, W3b w n (.slice ao es.length cap) (.slice wo n wcap) = W0 := ⟨_, rfl⟩
  have hs0 := W3b_size w n (.slice ao es.length cap) (.slice wo n wcap)
  rw [hW0] at HB HC HA hs0
  unfold W3b at hW0
  have HS0 := Lib.hid hs0
  have HL := Lib.hid hlg
  have n1 : (n : Int) ≤ 100 := by omega
  have n2 : (p.length : Int) ≤ 20 := by omega
  have hlr : longRes n es ws = ((longOf n es ws D).1, (longOf n es ws D).2, 0) := by
    unfold longRes
    rw [if_neg (by omega), if_neg (fun h => ?_), HS.out.d]
    · simp [show n ≠ 0 by omega]
    · obtain ⟨x, hx, hbx⟩ := List.any_eq_true.1 h
      have := HS.out.wb x hx
      have := of_decide_eq_true hbx
      omega
  obtain ⟨hpb, hps, hpl0, hpl1⟩ := long_is (ws := ws) HS.out.d hn
  obtain ⟨M, hM⟩ : ∃ M, (longOf n es ws D).1 = M := ⟨_, rfl⟩
  obtain ⟨P, hP⟩ : ∃ P, (longOf n es ws D).2 = P := ⟨_, rfl⟩
  rw [hM, hP] at hlr
  rw [hP] at hpb hps hpl0 hpl1
  rw [hM] at hps
  have HPP := Lib.hid (And.intro hpb (And.intro hps (And.intro hpl0 hpl1)))
  have HM := Lib.hid (And.intro hM hP)
  have HLG : Hid (∀ W, Below w.heap.size w W → Calls Try.prog 12 #[.int .i64 (n : Int), .slice ao es.length cap, .slice wo n wcap] W fun e w' => ∃ qo qc, e = .returned (.tuple #[.int .i64 M, .slice qo P.length qc, .int .i64 0]) ∧ Nats w' (.slice qo P.length qc) P ∧ Below W.heap.size W w') := by
    intro W hW
    refine (longest_any n _ _ es ws W (HS.out.g.below hW) (HS.out.w_.below hW) (by omega)).mono ?_
    intro e w' h
    unfold LongTop at h
    rw [hlr] at h
    obtain ⟨q, rfl, hq, hb⟩ := h
    obtain ⟨qo, qc, rfl⟩ := hq.shape
    exact ⟨qo, qc, rfl, hq.sl, hb⟩
  have HWG : Hid (∀ (u : Value) (l : List Int) (W : World), Below (w.heap.size + 3) W0 W → Ints W u l → l.length ≤ 1000 → Calls Try.prog 18 #[u, .pointer (some ⟨w.heap.size, 0, none⟩), .pointer (some ⟨w.heap.size + 1 + 1, 0, none⟩), .pointer (some ⟨w.heap.size + 1, 0, none⟩)] W (WeighPost W n es ws l)) := by
    intro u l W hW hu hl
    obtain ⟨c7, c8, c9⟩ := HC.out W hW
    have hB := HB.out.trans (hW.mono (by omega))
    have hsz := hW.size
    rw [HS0.out] at hsz
    exact weigh_any _ _ _ n _ _ u es ws l W c7 c9 c8 (by omega) (by omega) (by omega) (HS.out.g.below hB).pairs (by omega) (HS.out.w_.below hB) (by omega) (by omega) HS.out.wb hu hl
  have hnz : ((n : Int) == 0) = false := beq_no (by omega)
  have hMM : (M != M) = false := by simp
  have hn0 : (0 : Int) < (n : Int) := by omega
  clear hS hwl hs0 hlg hlr hpb hps hpl0 hpl1 hM hP
  go_enter Try.func4, Try.ntmps4
  go_wp2_with fail
  refine HA.out.mono ?_
  rintro e w1 ⟨rfl, hb1⟩
  rw [HS0.out] at hb1
  obtain ⟨c7, c8, c9⟩ := HC.out w1 hb1
  have hB1 := Lib.hid (HB.out.trans (hb1.mono (by omega)))
  have H1 := Lib.hid hb1
  go_wp2_with fail
  refine (large_any n _ es.length _ (by omega) ⟨_, _, rfl⟩).mono ?_
  rw [HL.out]
  rintro e w2 ⟨rfl, rfl⟩
  clear hb1
  go_wp2_with fail
  refine (HLG.out _ hB1.out).mono ?_
  rintro e w3 ⟨qo, qc, rfl, hq3, hb3⟩
  have hB3 := Lib.hid (bstep hB1.out hb3)
  have H3 := Lib.hid (H1.out.trans (hb3.mono (by have := H1.out.size; rw [HS0.out] at this; omega)))
  have N3 := Lib.hid hq3.ints
  clear hb3 hq3 c7 c8 c9
  go_wp2_with fail
  refine (HWG.out _ _ _ H3.out (by have := N3.out; rwa [show P.length = (P.map (fun x : Nat => (x : Int))).length by simp] at this ⊢) (by have := HPP.out.2.2.2; simp; omega)).mono ?_
  have HMS := Lib.hid (show wsum ws (P.map fun x : Nat => (x : Int)) = M by rw [wsum_nat]; exact HPP.out.2.1)
  intro e w4 hwp
  unfold WeighPost at hwp
  rw [HMS.out] at hwp
  obtain ⟨⟨_, rfl⟩ | ⟨hno, _⟩, hb4⟩ := hwp
  rotate_left
  · exact absurd (wpath_of HS.out.wl P HPP.out.1) hno
  have hB4 := Lib.hid (bstep hB3.out hb4)
  have H4 := Lib.hid (H3.out.trans (hb4.mono (by have := H3.out.size; rw [HS0.out] at this; omega)))
  have hP0 : ((P.length : Int) == 0) = false := beq_no (by have := HPP.out.2.2.1; omega)
  clear hb4
  have HWP := Lib.hid (HWG.out (.slice po p.length pc) p w4 H4.out (HS.out.p_.below hB4.out) (by omega))
  go_wp2_with fail
  refine HWP.out.mono ?_
  rintro e w5 ⟨hcase, hb5⟩
  have hB5 := Lib.hid (bstep hB4.out hb5)
  have H5 := Lib.hid (H4.out.trans (hb5.mono (by have := H4.out.size; rw [HS0.out] at this; omega)))
  obtain ⟨c7, c8, c9⟩ := HC.out w5 H5.out
  clear hb5 HWP
  obtain ⟨A, hA⟩ : ∃ A, a % n = A := ⟨_, rfl⟩
  obtain ⟨B, hB⟩ : ∃ B, b % n = B := ⟨_, rfl⟩
  have hAn : A < n := by rw [← hA]; exact Nat.mod_lt _ hn
  have hBn : B < n := by rw [← hB]; exact Nat.mod_lt _ hn
  have hx1 : Int.tmod (a : Int) (n : Int) = (A : Int) := by rw [← hA]; rfl
  have hx2 : Int.tmod (b : Int) (n : Int) = (B : Int) := by rw [← hB]; rfl
  have hne : ¬ n = 0 := by omega
  have hy1 : IntKind.i64.wrap (a : Int) = (a : Int) := by rw [IntWalk.i64_in _ (by omega)]
  have hy2 : IntKind.i64.wrap (b : Int) = (b : Int) := by rw [IntWalk.i64_in _ (by omega)]
  clear hA hB
  have ha0 : (0 : Int) ≤ (a : Int) := Int.natCast_nonneg _
  have ha1 : (a : Int) ≤ 255 := by omega
  have hb0 : (0 : Int) ≤ (b : Int) := Int.natCast_nonneg _
  have hb1 : (b : Int) ≤ 255 := by omega
  have hcase2 : Hid (∃ t ok, e = .returned (.tuple #[.int .i64 t, .bool ok]) ∧ (ok = true → t ≤ M)) := by
    rcases hcase with ⟨hw, he⟩ | ⟨_, he⟩
    · refine ⟨_, _, he, fun _ => ?_⟩
      obtain ⟨q, hq, hqb⟩ := path_of p hw
      have := long_most (ws := ws) HS.out.d hn (fun x hx => (HS.out.wb x hx).1) q hqb
      rw [HM.out.1] at this
      rw [hq, wsum_nat]
      exact this
    · exact ⟨_, _, he, fun h => by cases h⟩
  clear hcase
  obtain ⟨t, ok, rfl, htM⟩ := hcase2.out
  have HSP : Hid (ok = false ∨ (ok = true ∧ ¬ M < t)) := by
    cases ok
    · exact .inl rfl
    · exact .inr ⟨rfl, by have := htM rfl; omega⟩
  clear htM hcase2
  have HX : Hid (w.heap.size < w5.heap.size ∧ w.heap.size + 1 < w5.heap.size) := by have := H5.out.size; rw [HS0.out] at this; exact ⟨by omega, by omega⟩
  have HXA : Hid (∀ o, w5.heap.size ≤ (w5.alloc o).heap.size) := fun o => by simp
  rcases HSP.out with rfl | ⟨rfl, hMt⟩
  all_goals
    go_wp2_with fail
    go_region_held3 (fun w' => w'.cell? ⟨w.heap.size, 0, none⟩ = some (.int .i64 (n : Int)) ∧ w'.cell? ⟨w.heap.size + 1, 0, none⟩ = some (.slice ao es.length cap))
      (first
        | go_keep
        | (go_split_ands
           first
             | exact ⟨(World.cell?_alloc_lt _ _ _ HX.out.1).trans c7, (World.cell?_alloc_lt _ _ _ HX.out.2).trans c8⟩
             | exact ⟨(HB9.out.cell (p := ⟨w.heap.size, 0, none⟩) (HX.out.1)).trans c7, (HB9.out.cell (p := ⟨w.heap.size + 1, 0, none⟩) (HX.out.2)).trans c8⟩
             | exact ⟨(HG9.out w.heap.size HX.out.1).trans ((HB9.out.cell (p := ⟨w.heap.size, 0, none⟩) (HX.out.1)).trans c7), (HG9.out (w.heap.size + 1) HX.out.2).trans ((HB9.out.cell (p := ⟨w.heap.size + 1, 0, none⟩) (HX.out.2)).trans c8)⟩
             | fail))
      ((first
        | (go_at_call 20; (with_reducible refine (cloneP_any _ es w5.drew (HS.out.g.below (hB5.out.drew)).pairs (by omega)).mono ?_); rintro e w9 ⟨⟨u, rfl, hu⟩, hb9⟩; have HU : Hid (OwnP w9 w5.heap.size u es) := hu; have HB9 : Hid (Below w5.heap.size w5 w9) := ((Below.refl _ _).drew).trans hb9)
        | (go_at_call 20; (with_reducible refine (cloneP_any _ es (w5.alloc (.cells #[.int .i64 (A : Int), .int .i64 (B : Int)] 38)).drew (HS.out.g.below ((bstep hB5.out (below_new _ _)).drew)).pairs (by omega)).mono ?_); rintro e w9 ⟨⟨u, rfl, hu⟩, hb9⟩; have HU : Hid (OwnP w9 w5.heap.size u es) := hu.mono (HXA.out _); have HB9 : Hid (Below w5.heap.size w5 w9) := (below_new w5 (.cells #[.int .i64 (A : Int), .int .i64 (B : Int)] 38)).trans (((Below.refl _ _).drew.trans hb9).mono (HXA.out _)); have HSRC : Hid (∀ j u, (pairCells [(A, B)])[j]? = some u → w9.cell? ((⟨w5.heap.size, 0, none⟩ : Addr).add j) = some u) := src_pair hb9)
        | (refine step_pushP w9 rfl _ _ rfl w5.heap.size u es A B HU.out rfl rfl (by omega) HB9.out.size ?_; intro v' w' hown' hg'; have HG9 := grown_far HU.out hg' HB9.out.size)
        | (refine step_appendP w9 rfl _ _ rfl w5.heap.size u es [(A, B)] ⟨w5.heap.size, 0, none⟩ 1 1 HU.out rfl rfl HSRC.out rfl (by omega) HB9.out.size ?_; intro v' w' hown' hg'; have HG9 := grown_far HU.out hg' HB9.out.size)
        | fail))
    all_goals
      have HOW := Lib.hid hown'
      have HBW9 : Hid (Below w.heap.size w w9) := bstep hB5.out HB9.out
      have HBP : Hid (Below w.heap.size w w') := below_grown HBW9.out hg' HBW9.out.size (fun g e => by have := (HU.out.lt g e).1; have := HX.out.1; omega)
      have HKP : Hid (Below (w.heap.size + 3) W0 w') := by
        have h9 : Below (w.heap.size + 3) W0 w9 := H5.out.trans (HB9.out.mono (by have := H5.out.size; rw [HS0.out] at this; exact this))
        exact below_grown h9 hg' (by have := h9.size; rw [HS0.out] at this; exact this) (fun g e => by have := (HU.out.lt g e).1; have := H5.out.size; rw [HS0.out] at this; omega)
      obtain ⟨vo, vc, rfl⟩ := hown'.shape
      clear hown' hg' HG9 hb9 hu HU HB9 c7 c8 c9
      obtain ⟨c7, c8, c9⟩ := HC.out w' HKP.out
      have HDW : Hid (Dg w' n (.slice vo (es ++ [(A, B)]).length vc) (es ++ [(A, B)])) := by
        refine ⟨HOW.out.pairs, HS.out.g.n_le, by simp; omega, fun k e he => ?_⟩
        by_cases hk : k < es.length
        · rw [List.getElem?_append_left hk] at he
          exact HS.out.g.ends k e he
        · rw [List.getElem?_append_right (by omega)] at he
          have hk2 : k - es.length = 0 := by
            have := (List.getElem?_eq_some_iff.1 he).1
            simp at this; omega
          rw [hk2] at he
          cases he
          exact ⟨hAn, hBn⟩
      have HL2 : Hid (Calls Try.prog 12 #[.int .i64 (n : Int), .slice vo (es ++ [(A, B)]).length vc, .slice wo n wcap] w' fun e w2 => ∃ x f qo ql qc, e = .returned (.tuple #[.int .i64 x, .slice qo ql qc, .int .i64 f]) ∧ ((f = 0 ∧ M ≤ x) ∨ f = 23) ∧ Below w'.heap.size w' w2) := by
        refine (longest_any n _ _ _ ws w' HDW.out (HS.out.w_.below HBP.out) (by have := HS.out.wl; omega)).mono ?_
        intro e w2 h
        unfold LongTop at h
        obtain ⟨q, rfl, hq, hb⟩ := h
        obtain ⟨qo, qc, rfl⟩ := hq.shape
        refine ⟨_, _, qo, _, qc, rfl, ?_, hb⟩
        rcases long_cases n (es ++ [(A, B)]) ws with ⟨h0, _⟩ | ⟨_, _, _, ⟨_, h⟩ | ⟨D', hD', h⟩⟩
        · refine absurd ?_ h0
          unfold weightsRes
          rw [if_neg (by have := HS.out.wl; omega), if_neg (fun h => ?_)]
          obtain ⟨x, hx, hbx⟩ := List.any_eq_true.1 h
          have := HS.out.wb x hx
          have := of_decide_eq_true hbx
          omega
        · rw [h]; exact .inr rfl
        · rw [h]
          refine .inl ⟨rfl, ?_⟩
          have := long_wider (ws := ws) HS.out.d hD' hn (fun x hx => (HS.out.wb x hx).1)
          rw [HM.out.1] at this
          simp only [if_neg hne]
          exact this
      obtain ⟨ne1, hne1⟩ : ∃ k, (es ++ [(A, B)]).length = k := ⟨_, rfl⟩
      rw [hne1] at HL2 ⊢
      clear hne1 HDW HOW
      go_wp2_with fail
      refine HL2.out.mono ?_
      rintro e w6 ⟨x6, f6, qo6, ql6, qc6, rfl, hf6, hb6⟩
      have HB6 := Lib.hid (bstep HBP.out hb6)
      have HK6 := Lib.hid (HKP.out.trans (hb6.mono (by have := HKP.out.size; rw [HS0.out] at this; exact this)))
      clear hb6 HL2 c7 c8 c9
      obtain ⟨c7, c8, c9⟩ := HC.out w6 HK6.out
      have HCL := Lib.hid (cloneI_any (.slice wo n wcap) ws w6 (HS.out.w_.below HB6.out) (by have := HS.out.wl; omega))
      rcases hf6 with ⟨rfl, hf6⟩ | rfl
      all_goals
        go_wp2_with fail
        refine HCL.out.mono ?_
        rintro e w7 ⟨⟨hv, rfl, hhv⟩, hb7⟩
        obtain ⟨g, hc, rfl, g1, g2, g3⟩ := hhv.form (by have := HS.out.wl; omega)
        have HHV := Lib.hid hhv
        have HB7 := Lib.hid (bstep HB6.out hb7)
        have HK7 := Lib.hid (HK6.out.trans (hb7.mono (by have := HK6.out.size; rw [HS0.out] at this; exact this)))
        clear hb7 hhv c7 c8 c9
        obtain ⟨c7, c8, c9⟩ := HC.out w7 HK7.out
        obtain ⟨y, hy⟩ : ∃ y, ws[A]? = some y := ⟨_, List.getElem?_eq_getElem (by have := HS.out.wl; omega)⟩
        have hyb := HS.out.wb y (List.mem_of_getElem? hy)
        have e1 := HHV.out.cell hy
        have e2 := HHV.out.free A
        unfold intf at e1
        rw [HS.out.wl] at HHV
        have hwl2 := HS.out.wl
        rw [hwl2]
        have HY := Lib.hid (show ws.getD A 0 = y by rw [List.getD_eq_getElem?_getD, hy]; rfl)
        have hx3 : (a : Int) % (n : Int) = (A : Int) := by rw [← hx1]; rfl
        have m0 : (0 : Int) ≤ (m : Int) := Int.natCast_nonneg _
        have m1 : (m : Int) ≤ 65535 := by omega
        have A0 : (0 : Int) ≤ (A : Int) := Int.natCast_nonneg _
        have A1 : (A : Int) < (n : Int) := by omega
        have HGB : Hid (w.heap.size ≤ g ∧ w.heap.size + 3 ≤ g) := by
          have h1 := HK6.out.size
          rw [HS0.out] at h1
          exact ⟨by omega, by omega⟩
        have HN8 : Hid (Below w.heap.size w (w7.setCell ⟨g, A, none⟩ (.int .i64 (y + m))) ∧ Below (w.heap.size + 3) W0 (w7.setCell ⟨g, A, none⟩ (.int .i64 (y + m))) ∧ Ints (w7.setCell ⟨g, A, none⟩ (.int .i64 (y + m))) (.slice (some ⟨g, 0, none⟩) n hc) (ws.set A (ws.getD A 0 + m))) := by
          refine ⟨HB7.out.setCell (p := ⟨g, A, none⟩) HGB.out.1 _, HK7.out.setCell (p := ⟨g, A, none⟩) HGB.out.2 _, ?_⟩
          rw [HY.out]
          exact (HHV.out.set A (y + m)).sl
        obtain ⟨w8, hw8⟩ : ∃ w8, w7.setCell ⟨g, A, none⟩ (.int .i64 (y + m)) = w8 := ⟨_, rfl⟩
        rw [hw8] at HN8
        obtain ⟨k7, k8, k9⟩ := HC.out w8 HN8.out.2.1
        have HL3 : Hid (Calls Try.prog 12 #[.int .i64 (n : Int), .slice ao es.length cap, .slice (some ⟨g, 0, none⟩) n hc] w8 fun e w2 => ∃ x f qo ql qc, e = .returned (.tuple #[.int .i64 x, .slice qo ql qc, .int .i64 f]) ∧ (f = 2 ∨ (f = 0 ∧ M ≤ x ∧ x ≤ M + m)) ∧ Below w8.heap.size w8 w2) := by
          have hln : (ws.set A (ws.getD A 0 + m)).length = n := by rw [List.length_set]; exact HS.out.wl
          refine (longest_any n _ _ es (ws.set A (ws.getD A 0 + m)) w8 (HS.out.g.below HN8.out.1) HN8.out.2.2 (by omega)).mono ?_
          intro e w2 h
          unfold LongTop at h
          obtain ⟨q, rfl, hq, hb⟩ := h
          obtain ⟨qo, qc, rfl⟩ := hq.shape
          refine ⟨_, _, qo, _, qc, rfl, ?_, hb⟩
          rcases long_cases n es (ws.set A (ws.getD A 0 + m)) with ⟨h0, h⟩ | ⟨_, _, _, ⟨ho, h⟩ | ⟨D', hD', h⟩⟩
          · rw [h]
            left
            unfold weightsRes at h0 ⊢
            rw [if_neg (by omega)] at h0 ⊢
            split at h0
            · next hh => rw [if_pos hh]
            · exact absurd rfl h0
          · rw [HS.out.d] at ho; cases ho
          · rw [HS.out.d] at hD'
            cases hD'
            rw [h]
            right
            have := long_heavy (ws := ws) (u := A) (m := (m : Int)) HS.out.d hn (by have := HS.out.wl; omega) m0 (fun x hx => (HS.out.wb x hx).1)
            rw [HM.out.1] at this
            simp only [if_neg hne]
            exact ⟨trivial, this.1, this.2⟩
        have hMb : 0 ≤ M ∧ M ≤ 65498251264 := by
          have := HPP.out.2.1
          have h2 := wsum_bd HS.out.wb (P.map fun x : Nat => (x : Int))
          rw [wsum_nat, this] at h2
          have := HPP.out.2.2.2
          simp only [List.length_map] at h2
          omega
        clear hy hwl2
        go_wp2_with fail
        refine HL3.out.mono ?_
        rintro e w10 ⟨x10, f10, qo10, ql10, qc10, rfl, hf10, hb10⟩
        have HB10 := Lib.hid (bstep HN8.out.1 hb10)
        clear hb10 HL3
        rcases hf10 with rfl | ⟨rfl, hf11, hf12⟩
        all_goals
          go_wp2
          go_ret
          exact ⟨by first | rfl | (simp; done) | (simp <;> omega), HB10.out⟩
end Go.Proofs.Ythhhcaleoiopgaa
