/-
  Law DigraphEither: the walk.
-/
import Derived.Test.YthhhcaleoiopgaaLbR
import Derived.Test.YthhhcaleoiopgaaDlT
namespace Go.Proofs.Ythhhcaleoiopgaa
open Go.RowKit
set_option linter.unusedVariables false
attribute [local go_sem ↓] Go.wp_at_zero Go.wp_at_succ

theorem chk_order {n : Nat} {es : List (Nat × Nat)} {D : List Nat} (he : EndsD n es) (h : orderOf n es = some D) : chkRes n es (D.map fun k : Nat => (k : Int)) = (true, 0) := by
  obtain ⟨hl, ho⟩ := ordTo_ok n D h
  unfold chkRes
  rw [if_neg (by simp [hl]), if_neg (fun h => ?_)]
  · have e : (D.map fun k : Nat => (k : Int)).map Int.toNat = D := by
      rw [List.map_map]
      have : (Int.toNat ∘ fun k : Nat => (k : Int)) = id := by funext k; simp
      rw [this]; simp
    rw [e]
    unfold chkN
    rw [if_pos ho.nodup]
    congr 1
    refine List.all_eq_true.2 fun x hx => ?_
    have := (ho.pre x hx (ord_all h (he.mem hx).2)).2
    simpa using this
  · obtain ⟨x, hx, hb⟩ := List.any_eq_true.1 h
    obtain ⟨k, hk, rfl⟩ := List.mem_map.1 hx
    have h1 := ho.lt k hk
    have := of_decide_eq_true hb
    omega

set_option maxRecDepth 100000 in
set_option maxHeartbeats 4000000 in
theorem eitherNo_walk (w : World) (n : Int) (v : Value) (l : List (Int × Int)) (hp : Pairs w v l) (hl : l.length ≤ 140737488355328) (hlg : larg n l.length = false) (hv : vldD n l = false) :
    Calls Try.prog 8 #[.int .i64 n, v] w fun e w' => e = .returned (.bool true) ∧ Below w.heap.size w w' := by
  have HL := Lib.hid hlg
  have HV := Lib.hid hv
  have HP := Lib.hid hp
  obtain ⟨ao, cap, rfl, _⟩ := hp
  clear hlg hv
  go_enter Try.func8, Try.ntmps8
  go_wp2_with fail
  refine (awake_any _).mono ?_
  rintro e w1 ⟨rfl, hB1⟩
  go_wp2_with fail
  refine (large_any n _ l.length _ hl ⟨_, _, rfl⟩).mono ?_
  rw [HL.out]
  rintro e w2 ⟨rfl, rfl⟩
  go_wp2_with fail
  refine (ordTop_bad n _ l _ (HP.out.below hB1) hl HV.out).mono ?_
  rintro e w3 ⟨rfl, hb3⟩
  have hB3 := bstep hB1 hb3
  go_wp2_with fail
  refine (loopTop_bad n _ l _ (HP.out.below hB3) hl HV.out).mono ?_
  rintro e w4 ⟨rfl, hb4⟩
  have hB4 := bstep (bstep hB3 hb4) (below_new w4 (.cells #[.slice none 0 0] 23))
  go_wp2_with fail
  refine (dvalid_any n _ l _ (HP.out.below hB4) hl).mono ?_
  rw [HV.out]
  rintro e w5 ⟨rfl, hb5⟩
  have hB5 := bstep hB4 hb5
  go_wp2
  go_ret
  exact ⟨rfl, hB5⟩

set_option maxRecDepth 100000 in
set_option maxHeartbeats 4000000 in
theorem eitherOrd_walk (w : World) (n : Nat) (v : Value) (es : List (Nat × Nat)) (D : List Nat) (hg : Dg w n v es) (hlg : larg n es.length = false) (hD : orderOf n es = some D) :
    Calls Try.prog 8 #[.int .i64 (n : Int), v] w fun e w' => e = .returned (.bool true) ∧ Below w.heap.size w w' := by
  have HL := Lib.hid hlg
  have HG := Lib.hid hg
  have hn60 := hg.n_le
  have hm := hg.m_le
  have hDl := (ordTo_ok n D hD).1
  have HO : Hid (∀ W, Below w.heap.size w W → Calls Try.prog 22 #[.int .i64 (n : Int), v] W fun e w' => ∃ ao cp, e = .returned (.tuple #[.slice ao n cp, .int .i64 0]) ∧ Nats w' (.slice ao n cp) D ∧ Below W.heap.size W w') := fun W hW => by
    refine (ordTop_ok n v es W (hg.below hW)).mono ?_
    intro e w' h
    unfold TopPost at h
    rw [hD] at h
    obtain ⟨⟨u, rfl, hu⟩, hb⟩ := h
    obtain ⟨ao, cp, rfl⟩ := hu.shape
    rw [hDl] at hu ⊢
    exact ⟨ao, cp, rfl, hu.sl, hb⟩
  have hno : loopOf n es = none := by
    cases h : loopOf n es with
    | none => rfl
    | some L => exact absurd (loop_cyc (loop_some hg.ends (all_far n es) n (Nat.le_refl _) L h)) (order_some hg.ends hD)
  have HLP : Hid (∀ W, Below w.heap.size w W → Calls Try.prog 29 #[.int .i64 (n : Int), v] W fun e w' => e = .returned (.tuple #[.slice none 0 0, .int .i64 12]) ∧ Below W.heap.size W w') := fun W hW => by
    have := loop_any n v es W (hg.below hW)
    unfold LoopPost at this
    rw [hno] at this
    exact this
  have HCK : Hid (∀ W u, Below w.heap.size w W → Nats W u D → Calls Try.prog 23 #[.int .i64 (n : Int), v, u] W fun e w' => e = .returned (.tuple #[.bool true, .int .i64 0]) ∧ Below W.heap.size W w') := fun W u hW hu => by
    have := check_any n v u es (D.map fun k : Nat => (k : Int)) W (hg.below hW) hu.ints (by simp; omega)
    unfold CheckPost at this
    rw [chk_order hg.ends hD] at this
    exact this
  obtain ⟨ao, cap, rfl, _⟩ := hg.pairs.open_
  clear hlg hg hD hDl hno
  go_enter Try.func8, Try.ntmps8
  go_wp2_with fail
  refine (awake_any _).mono ?_
  rintro e w1 ⟨rfl, hB1⟩
  go_wp2_with fail
  refine (large_any n _ es.length _ (by omega) ⟨_, _, rfl⟩).mono ?_
  rw [HL.out]
  rintro e w2 ⟨rfl, rfl⟩
  go_wp2_with fail
  refine (HO.out _ hB1).mono ?_
  rintro e w3 ⟨uo, uc, rfl, hu, hb3⟩
  have hB3 := bstep hB1 hb3
  have N3 := Lib.hid hu
  clear hu
  go_wp2_with fail
  refine (HLP.out _ hB3).mono ?_
  rintro e w4 ⟨rfl, hb4⟩
  have hB4 := bstep (bstep hB3 hb4) (below_new w4 (.cells #[.slice none 0 0] 23))
  have N4 := Lib.hid ((N3.out.below hb4).below (below_new w4 (.cells #[.slice none 0 0] 23)))
  clear N3
  have c7 : (w4.alloc (.cells #[.slice none 0 0] 23)).cell? ⟨w4.heap.size, 0, none⟩ = some (.slice none 0 0) := by rw [World.cell?_alloc_at _ _ _ _ rfl]; rfl
  go_wp2_with fail
  refine (HCK.out _ _ hB4 N4.out).mono ?_
  rintro e w5 ⟨rfl, hb5⟩
  have hB5 := bstep hB4 hb5
  have c8 := (hb5.cell (p := ⟨w4.heap.size, 0, none⟩) (by simp)).trans c7
  have q1 : ((n : Int) == (n : Int)) = true := by simp
  clear c7
  go_wp2
  go_ret
  exact ⟨by first | rfl | (simp; done), hB5⟩

set_option maxRecDepth 100000 in
set_option maxHeartbeats 4000000 in
theorem eitherLoop_walk (w : World) (n : Nat) (v : Value) (es : List (Nat × Nat)) (hg : Dg w n v es) (hlg : larg n es.length = false) (hD : orderOf n es = none) :
    Calls Try.prog 8 #[.int .i64 (n : Int), v] w fun e w' => e = .returned (.bool true) ∧ Below w.heap.size w w' := by
  have HL := Lib.hid hlg
  have HG := Lib.hid hg
  have hn60 := hg.n_le
  have hm := hg.m_le
  have HO : Hid (∀ W, Below w.heap.size w W → Calls Try.prog 22 #[.int .i64 (n : Int), v] W fun e w' => e = .returned (.tuple #[.slice none 0 0, .int .i64 23]) ∧ Below W.heap.size W w') := fun W hW => by
    have := ordTop_ok n v es W (hg.below hW)
    unfold TopPost at this
    rw [hD] at this
    exact this
  obtain ⟨L, hL⟩ : ∃ L, loopOf n es = some L := by
    cases h : loopOf n es with
    | none => exact absurd (order_none hg.ends hD) (loop_none hg.ends (all_far n es) h)
    | some L => exact ⟨L, rfl⟩
  have hil := loop_some hg.ends (all_far n es) n (Nat.le_refl _) L hL
  have HIL := Lib.hid hil
  have hLn := nodup_len_le n L hil.nodup hil.lt
  have hLp := hil.pos
  have HLP : Hid (∀ W, Below w.heap.size w W → Calls Try.prog 29 #[.int .i64 (n : Int), v] W fun e w' => ∃ ao cp, e = .returned (.tuple #[.slice ao L.length cp, .int .i64 0]) ∧ Nats w' (.slice ao L.length cp) L ∧ Below W.heap.size W w') := fun W hW => by
    refine (loop_any n v es W (hg.below hW)).mono ?_
    intro e w' h
    unfold LoopPost at h
    rw [hL] at h
    obtain ⟨⟨u, rfl, hu⟩, hb⟩ := h
    obtain ⟨ao, cp, rfl⟩ := hu.shape
    exact ⟨ao, cp, rfl, hu.sl, hb⟩
  have HPT : Hid (∀ W, Below w.heap.size w W → Calls Try.prog 27 #[.int .i64 (n : Int), v] W fun e w' => ∃ ao cp, e = .returned (.tuple #[.slice ao (partsOf n es).length cp, .int .i64 0]) ∧ Rows w' (.slice ao (partsOf n es).length cp) (partsOf n es) ∧ Below W.heap.size W w') := fun W hW => by
    refine (parts_any n v es W (hg.below hW)).mono ?_
    rintro e w' ⟨u, rfl, hu, hb⟩
    have hr := hu.rows
    obtain ⟨ao, cp, rfl⟩ := hr.at
    exact ⟨ao, cp, rfl, hr, hb⟩
  have HPB := Lib.hid (parts_bd n es hn60)
  obtain ⟨ao, cap, rfl, _⟩ := hg.pairs.open_
  have l0 : ((L.length : Int) == 0) = false := beq_no (by omega)
  have l1 : ¬ (n : Int) < (L.length : Int) := by omega
  clear hlg hg hD hL hil
  go_enter Try.func8, Try.ntmps8
  go_wp2_with fail
  refine (awake_any _).mono ?_
  rintro e w1 ⟨rfl, hB1⟩
  go_wp2_with fail
  refine (large_any n _ es.length _ (by omega) ⟨_, _, rfl⟩).mono ?_
  rw [HL.out]
  rintro e w2 ⟨rfl, rfl⟩
  go_wp2_with fail
  refine (HO.out _ hB1).mono ?_
  rintro e w3 ⟨rfl, hb3⟩
  have hB3 := bstep hB1 hb3
  go_wp2_with fail
  refine (HLP.out _ hB3).mono ?_
  rintro e w4 ⟨xo, xc, rfl, hx4, hb4⟩
  have hB4 := bstep (bstep hB3 hb4) (below_new w4 (.cells #[.slice xo L.length xc] 23))
  have N4 := Lib.hid (hx4.below (below_new w4 (.cells #[.slice xo L.length xc] 23)))
  obtain ⟨W4, hW4⟩ : ∃ W4, w4.alloc (.cells #[.slice xo L.length xc] 23) = W4 := ⟨_, rfl⟩
  have c7 : W4.cell? ⟨w4.heap.size, 0, none⟩ = some (.slice xo L.length xc) := by rw [← hW4, World.cell?_alloc_at _ _ _ _ rfl]; rfl
  have hs4 : w4.heap.size < W4.heap.size := by rw [← hW4]; simp
  rw [hW4] at hB4 N4
  have HB4 := Lib.hid hB4
  clear hx4 hb4 hB4
  go_wp2_with fail
  refine (HPT.out _ HB4.out).mono ?_
  rintro e w5 ⟨po, pc, rfl, hr5, hb5⟩
  have c8 := (hb5.cell (p := ⟨w4.heap.size, 0, none⟩) hs4).trans c7
  have HB5 := Lib.hid (bstep HB4.out hb5)
  have HR5 := Lib.hid hr5
  have N5 := Lib.hid (N4.out.below hb5)
  have hs5 : w4.heap.size < w5.heap.size := by have := hb5.size; omega
  clear hr5 hb5 N4 c7
  go_wp2_with fail
  obtain ⟨wz, rfl⟩ : ∃ wz : World, wz = w5 := ⟨_, rfl⟩
  have HC8 := Lib.hid c8
  clear c8
  go_loopw [13, 14, 106] (fun _ _ s106 wr => ∃ i : Nat, i ≤ L.length ∧ s106 = .int .i64 (i : Int) ∧ Below wz.heap.size wz wr) (fun _ _ s106 _ => L.length - (intOf s106).toNat)
  case atStart => exact ⟨0, Nat.zero_le _, rfl, Below.refl _ _⟩
  case round =>
    obtain ⟨i, hi, rfl, hB⟩ := hrel
    have c8 := (hB.cell (p := ⟨w4.heap.size, 0, none⟩) hs5).trans HC8.out
    by_cases hlt : i < L.length
    · obtain ⟨x, hx⟩ : ∃ x, L[i]? = some x := ⟨_, List.getElem?_eq_getElem hlt⟩
      obtain ⟨b, off, rfl, hbl, hc⟩ := nats_get N5.out hx
      have d1 := (hB.cell (p := ⟨b, off + i, none⟩) hbl).trans hc
      obtain ⟨A, hA⟩ : ∃ A, (i + 1) % L.length = A := ⟨_, rfl⟩
      have hAl : A < L.length := by rw [← hA]; exact Nat.mod_lt _ hLp
      obtain ⟨y, hy⟩ : ∃ y, L[A]? = some y := ⟨_, List.getElem?_eq_getElem hAl⟩
      have d2 : wr.cell? ⟨b, off + A, none⟩ = some (.int .i64 (y : Int)) := by
        obtain ⟨b2, off2, e, _, hc2⟩ := nats_get N5.out hy
        cases e
        exact (hB.cell (p := ⟨b, off + A, none⟩) hbl).trans hc2
      have hedge : (x, y) ∈ es := by
        by_cases h1 : i + 1 < L.length
        · rw [Nat.mod_eq_of_lt h1] at hA
          subst hA
          exact HIL.out.edge i x y hx hy
        · have h2 : i + 1 = L.length := by omega
          rw [h2, Nat.mod_self] at hA
          subst hA
          have h3 : i = L.length - 1 := by omega
          rw [h3] at hx
          exact HIL.out.back y x hy hx
      have HIX : Hid (∀ W, Below wz.heap.size wz W → Calls Try.prog 34 #[.slice (some ⟨b, off, none⟩) L.length xc, .int .i64 (x : Int)] W fun e w' => e = .returned (.int .i64 (i : Int)) ∧ W = w') := fun W hW => by
        have h1 := index_any _ (L.map fun k : Nat => (k : Int)) (x : Int) W (Nats.ints (N5.out.below hW)) (by simp; omega)
        rw [idxOf_hit (L.map fun k : Nat => (k : Int)) (x : Int) i (fun j z hj hz => by
          rw [List.getElem?_map] at hz
          obtain ⟨q, hq, rfl⟩ := Option.map_eq_some_iff.1 hz
          intro e
          have e2 : q = x := by omega
          subst e2
          have := (List.getElem?_inj (List.getElem?_eq_some_iff.1 hq).1 HIL.out.nodup).1 (hq.trans hx.symm)
          omega) (by rw [List.getElem?_map, hx]; rfl)] at h1
        exact h1
      have HCT : Hid (∀ W, Below wz.heap.size wz W → Calls Try.prog 19 #[.slice ao es.length cap, .agg #[.int .i64 (x : Int), .int .i64 (y : Int)]] W fun e w' => e = .returned (.bool true) ∧ Below W.heap.size W w') := fun W hW => by
        have h1 := containsPair_any (.slice ao es.length cap) (cst es) (x : Int) (y : Int) W ((HG.out.below (bstep HB5.out hW)).pairs) (by rw [cst_len]; omega)
        rw [show pairIn (cst es) (x : Int) (y : Int) = true from dec_yes (cst_mem.2 hedge)] at h1
        exact h1
      have i0 : (0 : Int) ≤ (i : Int) := Int.natCast_nonneg _
      have i1 : (i : Int) < (L.length : Int) := by omega
      have A0 : (0 : Int) ≤ (A : Int) := Int.natCast_nonneg _
      have A1 : (A : Int) < (L.length : Int) := by omega
      have e1 : IntKind.i64.wrap ((i : Int) + 1) = (i : Int) + 1 := IntWalk.i64_in _ (by omega)
      have e2 : Int.tmod ((i : Int) + 1) (L.length : Int) = (A : Int) := by
        rw [← hA, show (i : Int) + 1 = ((i + 1 : Nat) : Int) by omega]; rfl
      have e3 : ¬ L.length = 0 := by omega
      have e4 : ((i : Int) != (i : Int)) = false := by simp
      have HBD : Hid (Below wz.heap.size wz wr.drew) := hB.drew
      clear hx hy hc hA hedge
      obtain ⟨wq, rfl⟩ : ∃ wq : World, wq = wr := ⟨_, rfl⟩
      have hqs : w4.heap.size < wq.heap.size ∧ b < wq.heap.size := by have := hB.size; exact ⟨by omega, by omega⟩
      have HQS := Lib.hid hqs
      clear hqs
      go_upto_region 18 with fail
      go_region_held3 (fun w' => w'.cell? ⟨w4.heap.size, 0, none⟩ = some (.slice (some ⟨b, off, none⟩) L.length xc) ∧ w'.cell? ⟨b, off + A, none⟩ = some (.int .i64 (y : Int)))
        (first
          | go_keep
          | (go_split_ands
             first
               | exact ⟨c8, d2⟩
               | exact ⟨(hb9.cell (p := ⟨w4.heap.size, 0, none⟩) HQS.out.1).trans c8, (hb9.cell (p := ⟨b, off + A, none⟩) HQS.out.2).trans d2⟩
               | fail))
        ((first
          | (go_at_call 34; (with_reducible refine (HIX.out _ HBD.out).mono ?_); rintro e w8 ⟨rfl, rfl⟩)
          | (go_at_call 19; (with_reducible refine (HCT.out _ HBD.out).mono ?_); rintro e w9 ⟨rfl, hb9⟩)
          | fail))
      have HB9 := Lib.hid (bstep HBD.out hb9)
      clear e1 e2 hb9
      go_wp2
      go_roundw
      case rel => exact ⟨i + 1, by omega, by go_num, HB9.out⟩
      case measure => simp [intOf]; omega
    · obtain rfl : i = L.length := by omega
      have HA : Hid (∀ W, Below wz.heap.size wz W → Calls Try.prog 35 #[.slice po (partsOf n es).length pc, .func (.func 36) #[] #[.pointer (some ⟨w4.heap.size, 0, none⟩)]] W fun e w' => e = .returned (.bool true) ∧ Below W.heap.size W w') := fun W hW => by
        have h := anyRows_any 36 #[.pointer (some ⟨w4.heap.size, 0, none⟩)] (fun r => L.all fun x => decide (x ∈ r)) (.slice po (partsOf n es).length pc) (partsOf n es) W (HR5.out.below hW) (by have := HPB.out.1; omega) ⟨fun xs W => by rfl, fun r u W1 hr hW1 hu => eith1_any w4.heap.size xo xc L u r W1 ((((bstep hW hW1)).cell (p := ⟨w4.heap.size, 0, none⟩) hs5).trans HC8.out) (by have := (bstep hW hW1).size; omega) (N5.out.below (bstep hW hW1)) (by omega) hu (HPB.out.2 r hr)⟩
        rw [List.any_eq_true.2 (by
          obtain ⟨r, hr, hr2⟩ := loop_part HIL.out
          exact ⟨r, hr, List.all_eq_true.2 fun x hx => dec_yes (hr2 x hx)⟩)] at h
        exact h
      have HBW := Lib.hid (bstep HB5.out hB)
      have HB0 := Lib.hid hB
      go_wp2_with fail
      refine (HA.out _ HB0.out).mono ?_
      rintro e w9 ⟨rfl, hb9⟩
      have HB9 := Lib.hid (bstep HBW.out hb9)
      clear hb9
      go_wp2
      go_ret
      exact ⟨by first | rfl | (simp; done), HB9.out⟩

set_option maxRecDepth 100000 in
set_option maxHeartbeats 4000000 in
theorem digraphEither_walk (w : World) (n : Int) (wn : (Lit.int .i64 n).wf = true) (v : Value) (l : List (Int × Int)) (hp : Pairs w v l) (bl : l.length * 16 ≤ 140737488351232) :
    Calls Try.prog 8 #[.int .i64 n, v] w fun e w' => e = .returned (.bool true) ∧ Below w.heap.size w w' := by
  cases hlg : larg n l.length
  · cases hv : vldD n l
    · exact eitherNo_walk w n v l hp (by omega) hlg hv
    · obtain ⟨N, ns, rfl, rfl, hg⟩ := dg_of hp hv
      rw [cst_len] at hlg
      cases ho : orderOf N ns with
      | none => exact eitherLoop_walk w N v ns hg hlg ho
      | some D => exact eitherOrd_walk w N v ns D hg hlg ho
  · have HL := Lib.hid hlg
    obtain ⟨ao, cap, rfl, _⟩ := hp
    have hbl : l.length ≤ 140737488355328 := by omega
    clear hlg bl
    go_enter Try.func8, Try.ntmps8
    go_wp2_with fail
    refine (awake_any _).mono ?_
    rintro e w1 ⟨rfl, hB1⟩
    go_wp2_with fail
    refine (large_any n _ l.length _ hbl ⟨_, _, rfl⟩).mono ?_
    rw [HL.out]
    rintro e w2 ⟨rfl, rfl⟩
    go_wp2
    go_ret
    exact ⟨rfl, hB1⟩
end Go.Proofs.Ythhhcaleoiopgaa
