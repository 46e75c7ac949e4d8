/-
  Law DigraphTurned: the walk.
-/
import Derived.Test.YthhhcaleoiopgaaCyM
import Derived.Test.YthhhcaleoiopgaaQun
import Derived.Test.YthhhcaleoiopgaaRcD
namespace Go.Proofs.Ythhhcaleoiopgaa
open Go.RowKit
set_option linter.unusedVariables false
attribute [local go_sem ↓] Go.wp_at_zero Go.wp_at_succ

def turnI (l : List (Int × Int)) : List (Int × Int) := l.map fun e => (e.2, e.1)
theorem turnI_cst (es : List (Nat × Nat)) : turnI (cst es) = cst (turn es) := by
  unfold turnI cst turn
  rw [List.map_map, List.map_map]
  exact List.map_congr_left fun e _ => rfl
theorem turnI_bad (n : Int) (l : List (Int × Int)) : vldD n (turnI l) = vldD n l := by
  unfold vldD turnI
  rw [List.length_map, List.any_map]
  congr 2
  have : (badD n ∘ fun e : Int × Int => (e.2, e.1)) = badD n := by
    funext e
    simp only [Function.comp, badD]
    exact decide_eq_decide.2 (by omega)
  rw [this]
theorem turnI_len (l : List (Int × Int)) : (turnI l).length = l.length := by simp [turnI]

/-- What Parts, Order, and Longest answer of a graph, wherever nothing has turned. -/
structure TSet (w : World) (n : Int) (v vw : Value) (pl : List (List Nat)) (ke ko x kl : Int) : Prop where
  parts : ∀ W, Below w.heap.size w W → Calls Try.prog 27 #[.int .i64 n, v] W fun e w' => ∃ ao cp, e = .returned (.tuple #[.slice ao pl.length cp, .int .i64 ke]) ∧ Rows w' (.slice ao pl.length cp) pl ∧ Below W.heap.size W w'
  order : ∀ W, Below w.heap.size w W → Calls Try.prog 22 #[.int .i64 n, v] W fun e w' => ∃ ao ln cp, e = .returned (.tuple #[.slice ao ln cp, .int .i64 ko]) ∧ Below W.heap.size W w'
  long : ∀ W, Below w.heap.size w W → Calls Try.prog 12 #[.int .i64 n, v, vw] W fun e w' => ∃ ao ln cp, e = .returned (.tuple #[.int .i64 x, .slice ao ln cp, .int .i64 kl]) ∧ Below W.heap.size W w'
theorem nil_rows (w : World) : Rows w (.slice none 0 0) [] := ⟨none, 0, rfl, fun h => by simp at h⟩
theorem tset_bad {w : World} {n : Int} {v vw : Value} {l : List (Int × Int)} {ws : List Int} (hp : Pairs w v l) (hl : l.length ≤ 140737488355328) (hw : Ints w vw ws) (h : vldD n l = false) : TSet w n v vw [] 1 1 0 1 := by
  obtain ⟨wo, wc, rfl, _⟩ := hw
  refine ⟨fun W hW => ?_, fun W hW => ?_, fun W hW => ?_⟩
  · refine (parts_bad n v l W (hp.below hW) hl h).mono ?_
    rintro e w' ⟨rfl, hb⟩
    exact ⟨none, 0, rfl, nil_rows _, hb⟩
  · refine (ordTop_bad n v l W (hp.below hW) hl h).mono ?_
    rintro e w' ⟨rfl, hb⟩
    exact ⟨none, 0, 0, rfl, hb⟩
  · refine (longest_bad n v _ _ _ l W (hp.below hW) hl h).mono ?_
    rintro e w' ⟨rfl, hb⟩
    exact ⟨none, 0, 0, rfl, hb⟩
theorem tset_ok {w : World} {n : Nat} {v vw : Value} {es : List (Nat × Nat)} {ws : List Int} (hg : Dg w n v es) (hw : Ints w vw ws) (hwl : ws.length ≤ 100000) : TSet w n v vw (partsOf n es) 0 (match orderOf n es with | some _ => 0 | none => 23) (longRes n es ws).1 (longRes n es ws).2.2 := by
  refine ⟨fun W hW => ?_, fun W hW => ?_, fun W hW => ?_⟩
  · refine (parts_any n v es W (hg.below hW)).mono ?_
    rintro e w' ⟨u, rfl, hu, hb⟩
    have hr := hu.rows
    obtain ⟨ao, cp, rfl⟩ := hr.at
    exact ⟨ao, cp, rfl, hr, hb⟩
  · refine (ordTop_ok n v es W (hg.below hW)).mono ?_
    intro e w' h
    unfold TopPost at h
    cases ho : orderOf n es with
    | none =>
      rw [ho] at h
      obtain ⟨rfl, hb⟩ := h
      exact ⟨none, 0, 0, rfl, hb⟩
    | some D =>
      rw [ho] at h
      obtain ⟨⟨u, rfl, hu⟩, hb⟩ := h
      obtain ⟨ao, cp, rfl⟩ := hu.shape
      exact ⟨ao, _, cp, rfl, hb⟩
  · refine (longest_any n v vw es ws W (hg.below hW) (Sl.below hw hW) (by omega)).mono ?_
    intro e w' h
    unfold LongTop at h
    obtain ⟨u, rfl, hu, hb⟩ := h
    obtain ⟨ao, cp, rfl⟩ := hu.shape
    exact ⟨ao, _, cp, rfl, hb⟩

set_option maxRecDepth 100000 in
set_option maxHeartbeats 4000000 in
theorem turned_walk (w : World) (n : Int) (v vw : Value) (l : List (Int × Int)) (wo : Option Addr) (wl wc : Nat) (hvw : vw = .slice wo wl wc) (hp : Pairs w v l) (hl : l.length ≤ 100000) (hlg : larg n l.length = false) (hwl : wl ≤ 100) (pl : List (List Nat)) (ke ko x kl : Int) (hpl : pl.length ≤ 1000 ∧ ∀ r ∈ pl, r.length ≤ 1000)
    (h1 : TSet w n v vw pl ke ko x kl) (h2 : ∀ W u, Below w.heap.size w W → Pairs W u (turnI l) → TSet W n u vw pl ke ko x kl) :
    Calls Try.prog 6 #[.int .i64 n, v, vw] w fun e w' => e = .returned (.bool true) ∧ Below w.heap.size w w' := by
  subst hvw
  have HL := Lib.hid hlg
  have HP := Lib.hid hp
  have H1 := Lib.hid h1
  have H2 := Lib.hid h2
  have HPL := Lib.hid hpl
  obtain ⟨ao, cap, rfl, _⟩ := hp
  have n1 : (wl : Int) ≤ 100 := by omega
  have q1 : (ke == ke) = true := by simp
  have q2 : (ko == ko) = true := by simp
  have q3 : (kl == kl) = true := by simp
  have q4 : (x == x) = true := by simp
  clear hlg h1 h2 hpl
  go_enter Try.func6, Try.ntmps6
  go_wp2_with fail
  refine (awake_any _).mono ?_
  rintro e w1 ⟨rfl, hB1⟩
  have HB1 := Lib.hid hB1
  go_wp2_with fail
  refine (large_any n _ l.length _ (by omega) ⟨_, _, rfl⟩).mono ?_
  rw [HL.out]
  rintro e w2 ⟨rfl, rfl⟩
  clear hB1
  go_wp2_with fail
  obtain ⟨wz, rfl⟩ : ∃ wz : World, wz = w1 := ⟨_, rfl⟩
  go_loopw [7, 9, 36] (fun s7 _ s36 wr => ∃ k : Nat, k ≤ l.length ∧ s36 = .int .i64 (k : Int) ∧ Hid (OwnQ wr wz.heap.size s7 (turnI (l.take k)) ∧ Below wz.heap.size wz wr)) (fun _ _ s36 _ => l.length - (intOf s36).toNat)
  case atStart => exact ⟨0, Nat.zero_le _, rfl, OwnQ.nil _ _, Below.refl _ _⟩
  case round =>
    obtain ⟨k, hk, rfl, H⟩ := hrel
    by_cases hlt : k < l.length
    · obtain ⟨b, off, rfl, hbl, hc⟩ : ∃ b off, ao = some ⟨b, off, none⟩ ∧ b < w.heap.size ∧ ∀ k y, l[k]? = some y → w.cell? ⟨b, off + k * 2, none⟩ = some (.int .i64 y.1) ∧ w.cell? ⟨b, off + k * 2 + 1, none⟩ = some (.int .i64 y.2) := by
        obtain ⟨ao', cap', hv, hh⟩ := HP.out
        cases hv
        exact hh (by omega)
      obtain ⟨⟨p, q⟩, hy⟩ : ∃ y, l[k]? = some y := ⟨_, List.getElem?_eq_getElem hlt⟩
      obtain ⟨hc1, hc2⟩ := hc k _ hy
      have hBw := bstep HB1.out H.out.2
      have d1 := (hBw.cell (p := ⟨b, off + k * 2, none⟩) hbl).trans hc1
      have d2 := (hBw.cell (p := ⟨b, off + k * 2 + 1, none⟩) hbl).trans hc2
      have HST := Lib.hid (show turnI (l.take (k + 1)) = turnI (l.take k) ++ [(q, p)] by
        unfold turnI
        rw [List.take_succ_eq_append_getElem hlt, (List.getElem?_eq_some_iff.1 hy).2, List.map_append]; rfl)
      obtain ⟨W1, hW1⟩ : ∃ W1, wr.alloc (.cells #[.int .i64 p, .int .i64 q] 38) = W1 := ⟨_, rfl⟩
      have HO1 : Hid (OwnQ W1 wz.heap.size u7 (turnI (l.take k))) := by rw [← hW1]; exact H.out.1.below (below_new _ _)
      have HL1 : Hid (Below wz.heap.size wz W1) := by rw [← hW1]; exact H.out.2.alloc H.out.2.size _
      have hlen1 : (turnI (l.take k)).length + 1 ≤ 1099511627776 := by rw [turnI_len, List.length_take]; omega
      have hbase := HL1.out.size
      have g1 : W1.cell? ⟨wr.heap.size, 0, none⟩ = some (.int .i64 p) := by rw [← hW1, World.cell?_alloc_at _ _ _ _ rfl]; rfl
      have g2 : W1.cell? ⟨wr.heap.size, 1, none⟩ = some (.int .i64 q) := by rw [← hW1, World.cell?_alloc_at _ _ _ _ rfl]; rfl
      have k0 : (0 : Int) ≤ (k : Int) := Int.natCast_nonneg _
      have k1 : (k : Int) < (l.length : Int) := by omega
      obtain ⟨uo, uc, hu7⟩ := HO1.out.shape
      subst hu7
      clear hy hc hc1 hc2
      go_wp2_with (at_builtin; refine wpList_pushQQ W1 rfl _ _ rfl wz.heap.size _ (turnI (l.take k)) q p HO1.out rfl rfl hlen1 hbase ?_; intro v' w' hown' hg'; have HPN : Hid (OwnQ w' wz.heap.size v' (turnI (l.take k) ++ [(q, p)]) ∧ Below wz.heap.size wz w') := ⟨hown', below_grown HL1.out hg' hbase (fun g e => (HO1.out.lt g e).1)⟩)
      go_roundw
      case rel => exact ⟨k + 1, by omega, by go_num, by rw [HST.out]; exact HPN.out⟩
      case measure => simp [intOf]; omega
    · obtain rfl : k = l.length := by omega
      rw [List.take_length] at H
      have HW := Lib.hid (bstep HB1.out H.out.2)
      have HT := Lib.hid (H2.out wr u7 HW.out H.out.1.pairs)
      obtain ⟨uo, uc, hu7⟩ := H.out.1.shape
      subst hu7
      rw [turnI_len] at HT ⊢
      obtain ⟨w3, rfl⟩ : ∃ w3 : World, w3 = wr := ⟨_, rfl⟩
      clear H
      go_wp2_with fail
      refine (H1.out.parts _ HW.out).mono ?_
      rintro e w4 ⟨ao4, cp4, rfl, hr4, hb4⟩
      have R4 := Lib.hid hr4
      have B4 := Lib.hid hb4
      clear hr4 hb4
      go_wp2_with fail
      refine (HT.out.parts _ B4.out).mono ?_
      rintro e w5 ⟨ao5, cp5, rfl, hr5, hb5⟩
      have R5 := Lib.hid (And.intro (R4.out.below hb5) hr5)
      have B5 := Lib.hid (bstep B4.out hb5)
      clear hr5 hb5 R4
      go_wp2_with fail
      refine (H1.out.order _ (bstep HW.out B5.out)).mono ?_
      rintro e w6 ⟨ao6, ln6, cp6, rfl, hb6⟩
      have R6 := Lib.hid (And.intro (R5.out.1.below hb6) (R5.out.2.below hb6))
      have B6 := Lib.hid (bstep B5.out hb6)
      clear hb6 R5
      go_wp2_with fail
      refine (HT.out.order _ B6.out).mono ?_
      rintro e w7 ⟨ao7, ln7, cp7, rfl, hb7⟩
      have R7 := Lib.hid (And.intro (R6.out.1.below hb7) (R6.out.2.below hb7))
      have B7 := Lib.hid (bstep B6.out hb7)
      clear hb7 R6
      go_wp2_with fail
      refine (H1.out.long _ (bstep HW.out B7.out)).mono ?_
      rintro e w8 ⟨ao8, ln8, cp8, rfl, hb8⟩
      have R8 := Lib.hid (And.intro (R7.out.1.below hb8) (R7.out.2.below hb8))
      have B8 := Lib.hid (bstep B7.out hb8)
      clear hb8 R7
      go_wp2_with fail
      refine (HT.out.long _ B8.out).mono ?_
      rintro e w9 ⟨ao9, ln9, cp9, rfl, hb9⟩
      have R9 := Lib.hid (And.intro (R8.out.1.below hb9) (R8.out.2.below hb9))
      have B9 := Lib.hid (bstep B8.out hb9)
      clear hb9 R8
      go_wp2_with fail
      refine (eqFunc_yes _ _ pl w9 R9.out.1 R9.out.2 (by have := HPL.out.1; omega) (fun r hr => by have := HPL.out.2 r hr; omega)).mono ?_
      rintro e w10 ⟨rfl, hb10⟩
      have B10 := Lib.hid (bstep HW.out (bstep B9.out hb10))
      clear hb10
      go_wp2
      go_ret
      exact ⟨by first | rfl | (simp; done), B10.out⟩

theorem parts_bd (n : Nat) (es : List (Nat × Nat)) (hn : n ≤ 60) : (partsOf n es).length ≤ 1000 ∧ ∀ r ∈ partsOf n es, r.length ≤ 1000 := by
  refine ⟨by have := partsTo_len n es n; unfold partsOf; omega, fun r hr => ?_⟩
  unfold partsOf partsTo at hr
  obtain ⟨i, _, rfl⟩ := List.mem_map.1 hr
  have := cls_len n es i
  omega

set_option maxRecDepth 100000 in
set_option maxHeartbeats 4000000 in
theorem digraphTurned_walk (w : World) (n : Int) (wn : (Lit.int .i64 n).wf = true) (v : Value) (l : List (Int × Int)) (hp : Pairs w v l) (bl : l.length * 16 ≤ 140737488351232) (u : Value) (q : List Int) (hq : Sl w (fun x : Int => .int .i64 x) u q) (bq : q.length * 8 ≤ 140737488351232) (wq : ∀ x ∈ q, (Lit.int .i64 x).wf = true) :
    Calls Try.prog 6 #[.int .i64 n, v, u] w fun e w' => e = .returned (.bool true) ∧ Below w.heap.size w w' := by
  cases hlg : larg n l.length
  · by_cases hq1 : q.length ≤ 100
    · have hq' := hq
      obtain ⟨uo, uc, rfl, _⟩ := hq
      have hl1 : l.length ≤ 100000 := by
        unfold larg at hlg
        simp at hlg
        omega
      cases hv : vldD n l
      · exact turned_walk w n v _ l uo _ uc rfl hp hl1 hlg hq1 [] 1 1 0 1 (by simp) (tset_bad hp (by omega) hq' hv) (fun W x hW hx => tset_bad hx (by rw [turnI_len]; omega) (Sl.below hq' hW) (by rw [turnI_bad]; exact hv))
      · obtain ⟨N, ns, rfl, rfl, hg⟩ := dg_of hp hv
        have hgl := hg.n_le
        have hml := hg.m_le
        have hge := hg.ends
        refine turned_walk w N v _ (cst ns) uo _ uc rfl hp hl1 hlg hq1 (partsOf N ns) 0 _ _ _ (parts_bd N ns hgl) (tset_ok hg hq' (by omega)) (fun W x hW hx => ?_)
        rw [turnI_cst] at hx
        have h3 := tset_ok (ws := q) (vw := .slice uo q.length uc) ⟨hx, hgl, by rw [turn_len]; exact hml, turn_ends hge⟩ (Sl.below hq' hW) (by omega)
        rw [turn_parts, ← (turn_res hge q).1, ← (turn_res hge q).2] at h3
        rcases turn_order hge with ⟨h4, h5⟩ | ⟨D, D', h4, h5⟩
        · rw [h5] at h3
          rw [h4]; exact h3
        · rw [h5] at h3
          rw [h4]; exact h3
    · have HL := Lib.hid hlg
      obtain ⟨ao, cap, rfl, _⟩ := hp
      obtain ⟨uo, uc, rfl, _⟩ := hq
      have hbl : l.length ≤ 140737488355328 := by omega
      have hq2 : 100 < (q.length : Int) := by omega
      clear hlg bl wq
      go_enter Try.func6, Try.ntmps6
      go_wp2_with fail
      refine (awake_any _).mono ?_
      rintro e w1 ⟨rfl, hB1⟩
      go_wp2_with fail
      refine (large_any n _ l.length _ hbl ⟨_, _, rfl⟩).mono ?_
      rw [HL.out]
      rintro e w2 ⟨rfl, rfl⟩
      go_wp2
      go_ret
      exact ⟨rfl, hB1⟩
  · have HL := Lib.hid hlg
    obtain ⟨ao, cap, rfl, _⟩ := hp
    obtain ⟨uo, uc, rfl, _⟩ := hq
    have hbl : l.length ≤ 140737488355328 := by omega
    clear hlg bl wq
    go_enter Try.func6, Try.ntmps6
    go_wp2_with fail
    refine (awake_any _).mono ?_
    rintro e w1 ⟨rfl, hB1⟩
    go_wp2_with fail
    refine (large_any n _ l.length _ hbl ⟨_, _, rfl⟩).mono ?_
    rw [HL.out]
    rintro e w2 ⟨rfl, rfl⟩
    go_wp2
    go_ret
    exact ⟨rfl, hB1⟩
end Go.Proofs.Ythhhcaleoiopgaa
