/-
  Law DigraphReaches: the walk.
-/
import Derived.Test.YthhhcaleoiopgaaReM
import Derived.Test.YthhhcaleoiopgaaRcD
import Derived.Test.YthhhcaleoiopgaaDl0
namespace Go.Proofs.Ythhhcaleoiopgaa
open Go.RowKit
set_option linter.unusedVariables false
attribute [local go_sem ↓] Go.wp_at_zero Go.wp_at_succ

theorem parts_bd2 (n : Nat) (es : List (Nat × Nat)) : (partsOf n es).length ≤ n ∧ ∀ r ∈ partsOf n es, r.length ≤ n := by
  refine ⟨partsTo_len n es n, fun r hr => ?_⟩
  obtain ⟨i, _, _, rfl⟩ := parts_mem hr
  exact cls_len n es i

theorem selfFn_any (a b : Int) (w : World) : Calls Try.prog 31 #[.agg #[.int .i64 a, .int .i64 b]] w fun e w' => e = .returned (.bool (a == b)) ∧ Below w.heap.size w w' := by
  have hb0 := below_new w (.cells #[.int .i64 a, .int .i64 b] 38)
  by_cases h : a = b
  · have e := beq_yes h
    have H := Lib.hid h
    clear h
    go_enter Try.func31, Try.ntmps31
    go_wp2
    go_ret
    exact ⟨ret_bool (by first | exact e.symm | (rw [H.out]; simp)), hb0⟩
  · have e := beq_no h
    have H := Lib.hid h
    clear h
    go_enter Try.func31, Try.ntmps31
    go_wp2
    go_ret
    exact ⟨ret_bool (by first | exact e.symm | rfl), hb0⟩
def selfE (es : List (Nat × Nat)) : Bool := es.any fun e => e.1 == e.2
theorem selfE_any (v : Value) (es : List (Nat × Nat)) (n : Nat) (w : World) (hg : Dg w n v es) :
    Calls Try.prog 30 #[v, .func (.func 31) #[] #[]] w fun e w' => e = .returned (.bool (selfE es)) ∧ Below w.heap.size w w' := by
  have h := anyPairs_any 31 #[] (fun x => x.1 == x.2) v (cst es) w hg.pairs (by rw [cst_len]; have := hg.m_le; omega) ⟨fun xs W => by rfl, fun x W _ _ => selfFn_any x.1 x.2 W⟩
  have e : (cst es).any (fun x => x.1 == x.2) = selfE es := by
    unfold cst selfE
    rw [List.any_map]
    congr 1
    funext e
    exact bool_ext (by simp; omega)
  rw [e] at h
  exact h

structure RS (WD : World) (n : Nat) (Q : List Nat) (wr : World) : Prop where
  low : Below WD.heap.size WD wr
  seen : Own wr WD.heap.size 4 boolf (.slice (some ⟨WD.heap.size, 0, none⟩) n n) (fl n (fun v => decide (v ∈ Q)))
theorem RS.below {WD wr w1 : World} {n : Nat} {Q : List Nat} (h : RS WD n Q wr) (hb : Below wr.heap.size wr w1) : RS WD n Q w1 := ⟨h.low.trans (hb.mono h.low.size), h.seen.below hb⟩
theorem RS.set {WD wr : World} {n : Nat} {Q : List Nat} (h : RS WD n Q wr) (v : Nat) : RS WD n (Q ++ [v]) (wr.setCell ⟨WD.heap.size, v, none⟩ (.bool true)) := by
  refine ⟨h.low.setCell (p := ⟨WD.heap.size, v, none⟩) (Nat.le_refl _) _, ?_⟩
  have := h.seen.set v true
  rw [fl_set, fl_ext (g := fun q => decide (q ∈ Q ++ [v])) (fun q hq => by
    by_cases e : q = v
    · rw [if_pos e, dec_yes (by simp [e])]
    · rw [if_neg e]
      exact decide_eq_decide.2 (by simp [e]))] at this
  exact this

theorem flat_get {P : List (List Nat)} {t s : Nat} {r : List Nat} {x : Nat} (hr : P[t]? = some r) (hx : r[s]? = some x) (hnd : P.flatten.Nodup) : x ∉ (P.take t).flatten ++ r.take s := by
  have ht := (List.getElem?_eq_some_iff.1 hr).1
  have hs := (List.getElem?_eq_some_iff.1 hx).1
  have e1 : P = P.take t ++ r :: P.drop (t + 1) := by
    have h1 := List.take_append_drop t P
    rw [List.drop_eq_getElem_cons ht, (List.getElem?_eq_some_iff.1 hr).2] at h1
    exact h1.symm
  have e2 : r = r.take s ++ x :: r.drop (s + 1) := by
    have h1 := List.take_append_drop s r
    rw [List.drop_eq_getElem_cons hs, (List.getElem?_eq_some_iff.1 hx).2] at h1
    exact h1.symm
  intro hm
  have h3 : P.flatten = ((P.take t).flatten ++ r.take s) ++ x :: (r.drop (s + 1) ++ (P.drop (t + 1)).flatten) := by
    conv => lhs; rw [e1]
    rw [List.flatten_append, List.flatten_cons]
    conv => lhs; rw [e2]
    simp
  rw [h3] at hnd
  exact (List.nodup_append.1 hnd).2.2 x hm x (by simp) rfl

set_option maxRecDepth 100000 in
set_option maxHeartbeats 4000000 in
theorem reachesYes_walk (w : World) (n : Nat) (v : Value) (es : List (Nat × Nat)) (hg : Dg w n v es) (hlg : larg n es.length = false) :
    Calls Try.prog 7 #[.int .i64 (n : Int), v] w fun e w' => e = .returned (.bool true) ∧ Below w.heap.size w w' := by
  have HL := Lib.hid hlg
  have HG := Lib.hid hg
  have HV := Lib.hid hg.ok
  have hn60 := hg.n_le
  have hm := hg.m_le
  obtain ⟨P, hP⟩ : ∃ P, partsOf n es = P := ⟨_, rfl⟩
  have HPE := Lib.hid hP
  obtain ⟨hP1, hP2⟩ := parts_bd2 n es
  rw [hP] at hP1 hP2
  have HP2 := Lib.hid hP2
  have HPT : Hid (∀ W, Below w.heap.size w W → Calls Try.prog 27 #[.int .i64 (n : Int), v] W fun e w' => ∃ ao cp, e = .returned (.tuple #[.slice ao P.length cp, .int .i64 0]) ∧ Rows w' (.slice ao P.length cp) P ∧ Below W.heap.size W w') := fun W hW => by
    refine (parts_any n v es W (hg.below hW)).mono ?_
    rintro e w' ⟨u, rfl, hu, hb⟩
    rw [hP] at hu
    have hr := hu.rows
    obtain ⟨ao, cp, rfl⟩ := hr.at
    exact ⟨ao, cp, rfl, hr, hb⟩
  have hcyc := cyc_iff hg.ends
  rw [hP] at hcyc
  have HLP : Hid (∀ W, Below w.heap.size w W → Calls Try.prog 29 #[.int .i64 (n : Int), v] W fun e w' => ∃ ao ln cp f, e = .returned (.tuple #[.slice ao ln cp, .int .i64 f]) ∧ ((f : Int) == 0) = (selfE es || P.any (fun r => decide (1 < r.length))) ∧ Below W.heap.size W w') := fun W hW => by
    refine (loop_any n v es W (hg.below hW)).mono ?_
    intro e w' h
    unfold LoopPost at h
    cases hl : loopOf n es with
    | none =>
      rw [hl] at h
      obtain ⟨rfl, hb⟩ := h
      refine ⟨none, 0, 0, 12, rfl, ?_, hb⟩
      have hno := loop_none hg.ends (all_far n es) hl
      rw [hcyc] at hno
      have : (selfE es || P.any (fun r => decide (1 < r.length))) = false := Bool.eq_false_iff.2 hno
      rw [this]; rfl
    | some L =>
      rw [hl] at h
      obtain ⟨⟨u, rfl, hu⟩, hb⟩ := h
      obtain ⟨ao, cp, rfl⟩ := hu.shape
      refine ⟨ao, _, cp, 0, rfl, ?_, hb⟩
      have := hcyc.1 (loop_cyc (loop_some hg.ends (all_far n es) n (Nat.le_refl _) L hl))
      unfold selfE
      rw [this]; rfl
  have HSE := Lib.hid (fun W (hW : Below w.heap.size w W) => selfE_any v es n W (hg.below hW))
  have HRC : Hid (∀ (x : Nat) W, x < n → Below w.heap.size w W → Calls Try.prog 32 #[.int .i64 (n : Int), v, .int .i64 (x : Int)] W fun e w' => ∃ ao cp, e = .returned (.tuple #[.slice ao (rlist n es x).length cp, .int .i64 0]) ∧ Own w' W.heap.size 3 natf (.slice ao (rlist n es x).length cp) (rlist n es x) ∧ Below W.heap.size W w') := fun x W hx hW => by
    refine (reachTop_ok n x v es W (hg.below hW) hx).mono ?_
    rintro e w' ⟨u, rfl, hu, hb⟩
    obtain ⟨ao, cp, rfl⟩ := hu.shape
    exact ⟨ao, cp, rfl, hu, hb⟩
  have hmk := fun W => run_make_one (P := Try.prog) 54 4 1 (.bool false) Try.underlying54 (by kernel_rfl) (by omega) n (by omega) W
  have HVD := Lib.hid (fun W (hW : Below w.heap.size w W) => dvalid_any (n : Int) v (cst es) W ((hg.below hW).pairs) (by rw [cst_len]; omega))
  rw [hg.ok] at HVD
  have HND : Hid (P.flatten.Nodup ∧ (∀ x ∈ P.flatten, x < n) ∧ P.flatten.length = n) := by
    rw [← hP]; exact ⟨parts_nodup n es, parts_lt, parts_count n es⟩
  have HMU : Hid (∀ r ∈ P, 0 < r.length ∧ ∀ x ∈ r, ∀ y ∈ r, rlist n es x = rlist n es y) := by
    rw [← hP]; exact fun r hr => ⟨part_pos hr, fun x hx y hy => rlist_mut (part_mut hr hx hy)⟩
  obtain ⟨ao, cap, rfl, _⟩ := hg.pairs.open_
  obtain ⟨sv0, hsv⟩ : ∃ b, selfE es = b := ⟨_, rfl⟩
  rw [hsv] at HSE HLP
  clear hlg hg hP hP2 hcyc hsv
  go_enter Try.func7, Try.ntmps7
  go_wp2_with fail
  refine (awake_any _).mono ?_
  rintro e w1 ⟨rfl, hB1⟩
  go_wp2_with fail
  refine (large_any n _ es.length _ (by omega) ⟨_, _, rfl⟩).mono ?_
  rw [HL.out]
  rintro e w2 ⟨rfl, rfl⟩
  go_wp2_with fail
  refine (HVD.out _ hB1).mono ?_
  rintro e w2 ⟨rfl, hb2⟩
  have hB2 := bstep hB1 hb2
  go_wp2_with fail
  refine (HPT.out _ hB2).mono ?_
  rintro e w3 ⟨po, pc, rfl, hr3, hb3⟩
  have hB3 := bstep hB2 hb3
  have R3 := Lib.hid hr3
  clear hr3
  go_wp2_with fail
  refine (HLP.out _ hB3).mono ?_
  rintro e w4 ⟨lo, ll, lc, f, rfl, hf, hb4⟩
  have hB4 := bstep hB3 hb4
  have R4 := Lib.hid (R3.out.below hb4)
  have HF := Lib.hid hf
  clear R3 hf
  go_wp2_with fail
  refine (HSE.out _ hB4).mono ?_
  rintro e w5 ⟨rfl, hb5⟩
  have HB5 := Lib.hid (bstep hB4 hb5)
  have R5 := Lib.hid (R4.out.below hb5)
  clear R4 hB1 hB2 hB3 hB4 hb2 hb3 hb4 hb5
  obtain ⟨WD, rfl⟩ : ∃ WD : World, WD = w5 := ⟨_, rfl⟩
  have HRS0 : Hid (RS WD n [] (WD.alloc (.cells (madeCells (Value.bool false).cells n) 4))) := by
    refine ⟨below_new _ _, ?_⟩
    have := own_made WD 4 boolf false (.bool false) rfl n (by omega) WD.heap.size (Nat.le_refl _)
    rw [fl_const, fl_ext (g := fun q => decide (q ∈ ([] : List Nat))) (fun k hk => by simp)] at this
    exact this
  go_wp2_with fail
  go_loopw [9, 10, 13, 14, 15, 16, 17, 18, 20, 52] (fun s9 s10 _ _ _ _ _ _ _ s52 wr => ∃ t : Nat, t ≤ P.length ∧ s52 = .int .i64 (t : Int) ∧ s9 = .int .i64 (((P.take t).flatten.length : Nat) : Int) ∧ s10 = .bool (sv0 || (P.take t).any (fun r => decide (1 < r.length))) ∧ Hid (RS WD n (P.take t).flatten wr)) (fun _ _ _ _ _ _ _ _ _ s52 _ => P.length - (intOf s52).toNat)
  case atStart => exact ⟨0, Nat.zero_le _, rfl, rfl, by simp, HRS0.out⟩
  case round =>
    clear HRS0
    obtain ⟨t, ht, rfl, rfl, rfl, H⟩ := hrel
    by_cases htl : t < P.length
    · obtain ⟨r, hr⟩ : ∃ r, P[t]? = some r := ⟨_, List.getElem?_eq_getElem htl⟩
      have hrm := List.mem_of_getElem? hr
      have hrl := HP2.out r hrm
      obtain ⟨hrp, hrmu⟩ := HMU.out r hrm
      have HRM := Lib.hid hrmu
      obtain ⟨b, off, rfl, hbl, uo, uc, c1, N⟩ := rows_get R5.out hr
      have d1 := (H.out.low.cell (p := ⟨b, off + t, none⟩) hbl).trans c1
      have HN := Lib.hid N
      have e1 : P.take (t + 1) = P.take t ++ [r] := by rw [List.take_succ_eq_append_getElem htl, (List.getElem?_eq_some_iff.1 hr).2]
      have HQ1 := Lib.hid (show (P.take (t + 1)).flatten = (P.take t).flatten ++ r by rw [e1, List.flatten_append]; simp)
      have HA1 := Lib.hid (show (sv0 || (P.take (t + 1)).any (fun r => decide (1 < r.length))) = ((sv0 || (P.take t).any (fun r => decide (1 < r.length))) || decide (1 < r.length)) by rw [e1, List.any_append]; simp [Bool.or_assoc])
      obtain ⟨q, hq⟩ : ∃ q, (sv0 || (P.take t).any (fun r => decide (1 < r.length))) = q := ⟨_, rfl⟩
      rw [hq] at HA1 ⊢
      have hqb : (P.take t).flatten.length ≤ n := by
        have h1 := HND.out.2.2
        have h2 : P.flatten = (P.take t).flatten ++ (P.drop t).flatten := by rw [← List.flatten_append, List.take_append_drop]
        rw [h2, List.length_append] at h1
        omega
      obtain ⟨Q, hQ⟩ : ∃ Q, (P.take t).flatten = Q := ⟨_, rfl⟩
      rw [hQ] at H HQ1 hqb ⊢
      have HQE := Lib.hid hQ
      have HR := Lib.hid hr
      have hr0 : ((r.length : Int) == 0) = false := beq_no (by omega)
      clear hr hrm hrmu c1 N e1 hq hQ
      have hsD : WD.heap.size < wr.heap.size := (H.out.seen.lt WD.heap.size rfl).2
      obtain ⟨wo, rfl⟩ : ∃ wo : World, wo = wr := ⟨_, rfl⟩
      have hcase : (q = true) ∨ (q = false ∧ 1 < r.length) ∨ (q = false ∧ ¬ 1 < r.length) := by
        cases q
        · by_cases h : 1 < r.length
          · exact .inr (.inl ⟨rfl, h⟩)
          · exact .inr (.inr ⟨rfl, h⟩)
        · exact .inl rfl
      rcases hcase with rfl | ⟨rfl, h1r⟩ | ⟨rfl, h1r⟩
      rotate_left
      · have b1 := dec_yes (show (1 : Int) < (r.length : Int) by omega)
        have b2 := dec_yes h1r
        rw [b2] at HA1
        clear b2
        have b3 : (1 : Int) < (r.length : Int) := by omega
        clear h1r
        go_wp2_with fail
        clear b1 b3 d1
        go_loopw [9, 14, 15, 16, 17, 18, 20, 64] (fun s9 s14 _ _ _ _ _ s64 wr => ∃ s : Nat, s ≤ r.length ∧ s64 = .int .i64 (s : Int) ∧ s9 = .int .i64 ((Q.length + s : Nat) : Int) ∧ Hid (RS WD n (Q ++ r.take s) wr ∧ (0 < s → ∃ v0, r[0]? = some v0 ∧ Own wr (WD.heap.size + 1) 3 natf s14 (rlist n es v0)))) (fun _ _ _ _ _ _ _ s64 _ => r.length - (intOf s64).toNat)
        case atStart => exact ⟨0, Nat.zero_le _, rfl, by simp, by simpa using H.out, fun h => by omega⟩
        case round =>
          obtain ⟨s, hs, rfl, rfl, HI⟩ := hrel
          by_cases hsl : s < r.length
          · obtain ⟨x, hx⟩ : ∃ x, r[s]? = some x := ⟨_, List.getElem?_eq_getElem hsl⟩
            have hxf : x ∈ P.flatten := List.mem_flatten.2 ⟨r, List.mem_of_getElem? HR.out, List.mem_of_getElem? hx⟩
            have hxn := HND.out.2.1 x hxf
            obtain ⟨xb, xoff, rfl, hxb, hxc⟩ := nats_get HN.out hx
            have d2 := (HI.out.1.low.cell (p := ⟨xb, xoff + s, none⟩) hxb).trans hxc
            have c1 := HI.out.1.seen.cell (fl_get (fun v => decide (v ∈ Q ++ r.take s)) hxn)
            have c2 := HI.out.1.seen.free x
            have hno := flat_get HR.out hx HND.out.1
            rw [HQE.out] at hno
            unfold boolf at c1
            rw [dec_no hno] at c1
            obtain ⟨W1, hW1⟩ : ∃ W1, wr.setCell ⟨WD.heap.size, x, none⟩ (.bool true) = W1 := ⟨_, rfl⟩
            have HS1 := Lib.hid (HI.out.1.set x)
            rw [hW1] at HS1
            have HQ2 := Lib.hid (show Q ++ r.take s ++ [x] = Q ++ r.take (s + 1) by rw [List.take_succ_eq_append_getElem hsl, (List.getElem?_eq_some_iff.1 hx).2, List.append_assoc])
            rw [HQ2.out] at HS1
            have HFI : Hid (0 < s → ∃ v0, r[0]? = some v0 ∧ Own W1 (WD.heap.size + 1) 3 natf u14 (rlist n es v0)) := fun h => by
              obtain ⟨v0, h1, h2⟩ := HI.out.2 h
              refine ⟨v0, h1, ?_⟩
              rw [← hW1]
              exact h2.only (only_set wr WD.heap.size x (.bool true)) (fun g e e2 => by
                have h3 := (h2.lt g e).1
                have h4 : g = WD.heap.size := Option.some.inj e2
                omega)
            have hW1s : WD.heap.size + 1 ≤ W1.heap.size := (HS1.out.seen.lt WD.heap.size rfl).2
            have hgl : WD.heap.size < wr.heap.size := (HI.out.1.seen.lt WD.heap.size rfl).2
            have HRX := Lib.hid (HRC.out x W1 hxn (bstep HB5.out HS1.out.low))
            have HXI : Hid (x ∈ rlist n es x ∧ ∀ a b, (a, b) ∈ es → a ∈ rlist n es x → b ∈ rlist n es x) := by
              refine ⟨rlist_mem.2 ⟨hxn, .refl x⟩, fun a b hab ha => ?_⟩
              exact rlist_mem.2 ⟨(HG.out.ends.mem hab).2, .step (rlist_mem.1 ha).2 hab⟩
            have hrll := rlist_len n es x
            have HX := Lib.hid hx
            have x0 : (0 : Int) ≤ (x : Int) := Int.natCast_nonneg _
            have x1 : (x : Int) < (n : Int) := by omega
            have s0 : (0 : Int) ≤ (s : Int) := Int.natCast_nonneg _
            have s1 : (s : Int) < (r.length : Int) := by omega
            have g0 : (0 : Int) ≤ ((Q.length + s : Nat) : Int) := Int.natCast_nonneg _
            have g1 : ((Q.length + s : Nat) : Int) ≤ 1000 := by omega
            obtain ⟨cn, hcn⟩ : ∃ cn : Int, ((Q.length + s : Nat) : Int) = cn := ⟨_, rfl⟩
            rw [hcn] at g0 g1 ⊢
            have HCN := Lib.hid (show cn + 1 = ((Q.length + (s + 1) : Nat) : Int) by omega)
            have hnx : ¬ (n : Int) ≤ (x : Int) := by omega
            have hnx2 : ¬ n ≤ x := by omega
            obtain ⟨wi, rfl⟩ : ∃ wi : World, wi = wr := ⟨_, rfl⟩
            clear hx hxf hxc hno hcn
            by_cases hs0 : s = 0
            · subst hs0
              have d2' : wi.cell? ⟨xb, xoff, none⟩ = some (.int .i64 (x : Int)) := d2
              go_wp2_with fail
              refine HRX.out.mono ?_
              rintro e w9 ⟨ro, rc, rfl, ho9, hb9⟩
              have HO9 := Lib.hid ho9
              have HS9 := Lib.hid (HS1.out.below hb9)
              have HW9 := Lib.hid (bstep (bstep HB5.out HS1.out.low) hb9)
              have HC9 := Lib.hid (containsN_any (.slice ro (rlist n es x).length rc) (rlist n es x) x w9 ho9.sl (by omega))
              rw [dec_yes HXI.out.1] at HC9
              clear ho9 hb9
              go_wp2_with fail
              refine HC9.out.mono ?_
              rintro e w10 ⟨rfl, rfl⟩
              go_wp2_with fail
              obtain ⟨wk, rfl⟩ : ∃ wk : World, wk = w9 := ⟨_, rfl⟩
              go_loopw [20, 117] (fun _ s117 wr => ∃ j : Nat, j ≤ es.length ∧ s117 = .int .i64 (j : Int) ∧ Below wk.heap.size wk wr) (fun _ s117 _ => es.length - (intOf s117).toNat)
              case atStart => exact ⟨0, Nat.zero_le _, rfl, Below.refl _ _⟩
              case round =>
                obtain ⟨j, hj, rfl, hB⟩ := hrel
                by_cases hjm : j < es.length
                · obtain ⟨⟨a, b'⟩, he⟩ : ∃ e, es[j]? = some e := ⟨_, List.getElem?_eq_getElem hjm⟩
                  obtain ⟨eb, eoff, rfl, hebl, hc1, hc2⟩ := HG.out.pairs.edge he
                  have hBw := bstep HW9.out hB
                  have d3 := (hBw.cell (p := ⟨eb, eoff + j * 2, none⟩) hebl).trans hc1
                  have d4 := (hBw.cell (p := ⟨eb, eoff + j * 2 + 1, none⟩) hebl).trans hc2
                  have hbx := below_new wr (.cells #[.int .i64 (a : Int), .int .i64 (b' : Int)] 38)
                  have HCA := Lib.hid (containsN_any (.slice ro (rlist n es x).length rc) (rlist n es x) a (wr.alloc (.cells #[.int .i64 (a : Int), .int .i64 (b' : Int)] 38)) ((HO9.out.below hB).below hbx).sl (by omega))
                  have HCB := Lib.hid (containsN_any (.slice ro (rlist n es x).length rc) (rlist n es x) b' (wr.alloc (.cells #[.int .i64 (a : Int), .int .i64 (b' : Int)] 38)) ((HO9.out.below hB).below hbx).sl (by omega))
                  have HBN := Lib.hid (bstep hB hbx)
                  have HCL := Lib.hid (HXI.out.2 a b' (List.mem_of_getElem? he))
                  have j0 : (0 : Int) ≤ (j : Int) := Int.natCast_nonneg _
                  have j1 : (j : Int) < (es.length : Int) := by omega
                  clear he hc1 hc2 hbx
                  by_cases ha : a ∈ rlist n es x
                  · rw [dec_yes ha] at HCA
                    rw [dec_yes (HCL.out ha)] at HCB
                    clear ha
                    go_wp2_with fail
                    refine HCA.out.mono ?_
                    rintro e w11 ⟨rfl, rfl⟩
                    go_wp2_with fail
                    refine HCB.out.mono ?_
                    rintro e w11 ⟨rfl, rfl⟩
                    go_wp2
                    go_roundw
                    case rel => exact ⟨j + 1, by omega, by go_num, HBN.out⟩
                    case measure => simp [intOf]; omega
                  · rw [dec_no ha] at HCA
                    clear ha
                    go_wp2_with fail
                    refine HCA.out.mono ?_
                    rintro e w11 ⟨rfl, rfl⟩
                    go_wp2
                    go_roundw
                    case rel => exact ⟨j + 1, by omega, by go_num, HBN.out⟩
                    case measure => simp [intOf]; omega
                · have HSN := Lib.hid (HS9.out.below hB)
                  have HBB := Lib.hid hB
                  clear hB
                  go_wp2
                  go_roundw
                  case rel => exact ⟨0 + 1, by omega, by go_num, by rw [HCN.out], HSN.out, fun _ => ⟨x, HX.out, (HO9.out.mono hW1s).below HBB.out⟩⟩
                  case measure => simp [intOf]; omega
            · have hs3 : (0 : Int) < (s : Int) := by omega
              have hs4 : ((s : Int) == 0) = false := beq_no (by omega)
              obtain ⟨v0, hv0, hown0⟩ := HFI.out (by omega)
              have hv0r := List.mem_of_getElem? hv0
              have HV0 := Lib.hid (And.intro hv0 (HRM.out x (List.mem_of_getElem? HX.out) v0 hv0r))
              have HO0 := Lib.hid hown0
              clear hv0 hv0r hown0
              go_wp2_with fail
              refine HRX.out.mono ?_
              rintro e w9 ⟨ro, rc, rfl, ho9, hb9⟩
              have HO9 := Lib.hid ho9
              have HS9 := Lib.hid (HS1.out.below hb9)
              have HW9 := Lib.hid (bstep (bstep HB5.out HS1.out.low) hb9)
              have HC9 := Lib.hid (containsN_any (.slice ro (rlist n es x).length rc) (rlist n es x) x w9 ho9.sl (by omega))
              rw [dec_yes HXI.out.1] at HC9
              have HF9 := Lib.hid (HO0.out.below hb9)
              clear ho9 hb9
              go_wp2_with fail
              refine HC9.out.mono ?_
              rintro e w10 ⟨rfl, rfl⟩
              go_wp2_with fail
              refine (equalN_yes _ _ (rlist n es x) (rlist n es v0) _ HO9.out.sl HF9.out.sl (by omega) HV0.out.2).mono ?_
              rintro e w11 ⟨rfl, hb11⟩
              have HO9 := Lib.hid (HO9.out.below hb11)
              have HS9 := Lib.hid (HS9.out.below hb11)
              have HW9 := Lib.hid (bstep HW9.out hb11)
              have HF9 := Lib.hid (HF9.out.below hb11)
              clear hb11
              go_wp2_with fail
              obtain ⟨wk, rfl⟩ : ∃ wk : World, wk = w11 := ⟨_, rfl⟩
              go_loopw [20, 117] (fun _ s117 wr => ∃ j : Nat, j ≤ es.length ∧ s117 = .int .i64 (j : Int) ∧ Below wk.heap.size wk wr) (fun _ s117 _ => es.length - (intOf s117).toNat)
              case atStart => exact ⟨0, Nat.zero_le _, rfl, Below.refl _ _⟩
              case round =>
                obtain ⟨j, hj, rfl, hB⟩ := hrel
                by_cases hjm : j < es.length
                · obtain ⟨⟨a, b'⟩, he⟩ : ∃ e, es[j]? = some e := ⟨_, List.getElem?_eq_getElem hjm⟩
                  obtain ⟨eb, eoff, rfl, hebl, hc1, hc2⟩ := HG.out.pairs.edge he
                  have hBw := bstep HW9.out hB
                  have d3 := (hBw.cell (p := ⟨eb, eoff + j * 2, none⟩) hebl).trans hc1
                  have d4 := (hBw.cell (p := ⟨eb, eoff + j * 2 + 1, none⟩) hebl).trans hc2
                  have hbx := below_new wr (.cells #[.int .i64 (a : Int), .int .i64 (b' : Int)] 38)
                  have HCA := Lib.hid (containsN_any (.slice ro (rlist n es x).length rc) (rlist n es x) a (wr.alloc (.cells #[.int .i64 (a : Int), .int .i64 (b' : Int)] 38)) ((HO9.out.below hB).below hbx).sl (by omega))
                  have HCB := Lib.hid (containsN_any (.slice ro (rlist n es x).length rc) (rlist n es x) b' (wr.alloc (.cells #[.int .i64 (a : Int), .int .i64 (b' : Int)] 38)) ((HO9.out.below hB).below hbx).sl (by omega))
                  have HBN := Lib.hid (bstep hB hbx)
                  have HCL := Lib.hid (HXI.out.2 a b' (List.mem_of_getElem? he))
                  have j0 : (0 : Int) ≤ (j : Int) := Int.natCast_nonneg _
                  have j1 : (j : Int) < (es.length : Int) := by omega
                  clear he hc1 hc2 hbx
                  by_cases ha : a ∈ rlist n es x
                  · rw [dec_yes ha] at HCA
                    rw [dec_yes (HCL.out ha)] at HCB
                    clear ha
                    go_wp2_with fail
                    refine HCA.out.mono ?_
                    rintro e w11 ⟨rfl, rfl⟩
                    go_wp2_with fail
                    refine HCB.out.mono ?_
                    rintro e w11 ⟨rfl, rfl⟩
                    go_wp2
                    go_roundw
                    case rel => exact ⟨j + 1, by omega, by go_num, HBN.out⟩
                    case measure => simp [intOf]; omega
                  · rw [dec_no ha] at HCA
                    clear ha
                    go_wp2_with fail
                    refine HCA.out.mono ?_
                    rintro e w11 ⟨rfl, rfl⟩
                    go_wp2
                    go_roundw
                    case rel => exact ⟨j + 1, by omega, by go_num, HBN.out⟩
                    case measure => simp [intOf]; omega
                · have HSN := Lib.hid (HS9.out.below hB)
                  have HBB := Lib.hid hB
                  clear hB
                  go_wp2
                  go_roundw
                  case rel => exact ⟨s + 1, by omega, by go_num, by rw [HCN.out], HSN.out, fun _ => ⟨v0, HV0.out.1, HF9.out.below HBB.out⟩⟩
                  case measure => simp [intOf]; omega
          · obtain rfl : s = r.length := by omega
            have HS2 : Hid (RS WD n (Q ++ r) wr) := by
              have := HI.out.1
              rwa [List.take_length] at this
            have HC3 := Lib.hid (show ((Q.length + r.length : Nat) : Int) = (((P.take (t + 1)).flatten.length : Nat) : Int) by rw [HQ1.out, List.length_append])
            rw [HC3.out]
            go_wp2
            go_roundw
            case rel => exact ⟨t + 1, by omega, by go_num, rfl, by rw [HA1.out]; simp, by rw [HQ1.out]; exact HS2.out⟩
            case measure => simp [intOf]; omega
      · have b1 := dec_no (show ¬ (1 : Int) < (r.length : Int) by omega)
        have b2 := dec_no h1r
        rw [b2] at HA1
        clear b2
        have b3 : ¬ (1 : Int) < (r.length : Int) := by omega
        clear h1r
        go_wp2_with fail
        clear b1 b3 d1
        go_loopw [9, 14, 15, 16, 17, 18, 20, 64] (fun s9 s14 _ _ _ _ _ s64 wr => ∃ s : Nat, s ≤ r.length ∧ s64 = .int .i64 (s : Int) ∧ s9 = .int .i64 ((Q.length + s : Nat) : Int) ∧ Hid (RS WD n (Q ++ r.take s) wr ∧ (0 < s → ∃ v0, r[0]? = some v0 ∧ Own wr (WD.heap.size + 1) 3 natf s14 (rlist n es v0)))) (fun _ _ _ _ _ _ _ s64 _ => r.length - (intOf s64).toNat)
        case atStart => exact ⟨0, Nat.zero_le _, rfl, by simp, by simpa using H.out, fun h => by omega⟩
        case round =>
          obtain ⟨s, hs, rfl, rfl, HI⟩ := hrel
          by_cases hsl : s < r.length
          · obtain ⟨x, hx⟩ : ∃ x, r[s]? = some x := ⟨_, List.getElem?_eq_getElem hsl⟩
            have hxf : x ∈ P.flatten := List.mem_flatten.2 ⟨r, List.mem_of_getElem? HR.out, List.mem_of_getElem? hx⟩
            have hxn := HND.out.2.1 x hxf
            obtain ⟨xb, xoff, rfl, hxb, hxc⟩ := nats_get HN.out hx
            have d2 := (HI.out.1.low.cell (p := ⟨xb, xoff + s, none⟩) hxb).trans hxc
            have c1 := HI.out.1.seen.cell (fl_get (fun v => decide (v ∈ Q ++ r.take s)) hxn)
            have c2 := HI.out.1.seen.free x
            have hno := flat_get HR.out hx HND.out.1
            rw [HQE.out] at hno
            unfold boolf at c1
            rw [dec_no hno] at c1
            obtain ⟨W1, hW1⟩ : ∃ W1, wr.setCell ⟨WD.heap.size, x, none⟩ (.bool true) = W1 := ⟨_, rfl⟩
            have HS1 := Lib.hid (HI.out.1.set x)
            rw [hW1] at HS1
            have HQ2 := Lib.hid (show Q ++ r.take s ++ [x] = Q ++ r.take (s + 1) by rw [List.take_succ_eq_append_getElem hsl, (List.getElem?_eq_some_iff.1 hx).2, List.append_assoc])
            rw [HQ2.out] at HS1
            have HFI : Hid (0 < s → ∃ v0, r[0]? = some v0 ∧ Own W1 (WD.heap.size + 1) 3 natf u14 (rlist n es v0)) := fun h => by
              obtain ⟨v0, h1, h2⟩ := HI.out.2 h
              refine ⟨v0, h1, ?_⟩
              rw [← hW1]
              exact h2.only (only_set wr WD.heap.size x (.bool true)) (fun g e e2 => by
                have h3 := (h2.lt g e).1
                have h4 : g = WD.heap.size := Option.some.inj e2
                omega)
            have hW1s : WD.heap.size + 1 ≤ W1.heap.size := (HS1.out.seen.lt WD.heap.size rfl).2
            have hgl : WD.heap.size < wr.heap.size := (HI.out.1.seen.lt WD.heap.size rfl).2
            have HRX := Lib.hid (HRC.out x W1 hxn (bstep HB5.out HS1.out.low))
            have HXI : Hid (x ∈ rlist n es x ∧ ∀ a b, (a, b) ∈ es → a ∈ rlist n es x → b ∈ rlist n es x) := by
              refine ⟨rlist_mem.2 ⟨hxn, .refl x⟩, fun a b hab ha => ?_⟩
              exact rlist_mem.2 ⟨(HG.out.ends.mem hab).2, .step (rlist_mem.1 ha).2 hab⟩
            have hrll := rlist_len n es x
            have HX := Lib.hid hx
            have x0 : (0 : Int) ≤ (x : Int) := Int.natCast_nonneg _
            have x1 : (x : Int) < (n : Int) := by omega
            have s0 : (0 : Int) ≤ (s : Int) := Int.natCast_nonneg _
            have s1 : (s : Int) < (r.length : Int) := by omega
            have g0 : (0 : Int) ≤ ((Q.length + s : Nat) : Int) := Int.natCast_nonneg _
            have g1 : ((Q.length + s : Nat) : Int) ≤ 1000 := by omega
            obtain ⟨cn, hcn⟩ : ∃ cn : Int, ((Q.length + s : Nat) : Int) = cn := ⟨_, rfl⟩
            rw [hcn] at g0 g1 ⊢
            have HCN := Lib.hid (show cn + 1 = ((Q.length + (s + 1) : Nat) : Int) by omega)
            have hnx : ¬ (n : Int) ≤ (x : Int) := by omega
            have hnx2 : ¬ n ≤ x := by omega
            obtain ⟨wi, rfl⟩ : ∃ wi : World, wi = wr := ⟨_, rfl⟩
            clear hx hxf hxc hno hcn
            by_cases hs0 : s = 0
            · subst hs0
              have d2' : wi.cell? ⟨xb, xoff, none⟩ = some (.int .i64 (x : Int)) := d2
              go_wp2_with fail
              refine HRX.out.mono ?_
              rintro e w9 ⟨ro, rc, rfl, ho9, hb9⟩
              have HO9 := Lib.hid ho9
              have HS9 := Lib.hid (HS1.out.below hb9)
              have HW9 := Lib.hid (bstep (bstep HB5.out HS1.out.low) hb9)
              have HC9 := Lib.hid (containsN_any (.slice ro (rlist n es x).length rc) (rlist n es x) x w9 ho9.sl (by omega))
              rw [dec_yes HXI.out.1] at HC9
              clear ho9 hb9
              go_wp2_with fail
              refine HC9.out.mono ?_
              rintro e w10 ⟨rfl, rfl⟩
              go_wp2_with fail
              obtain ⟨wk, rfl⟩ : ∃ wk : World, wk = w9 := ⟨_, rfl⟩
              go_loopw [20, 117] (fun _ s117 wr => ∃ j : Nat, j ≤ es.length ∧ s117 = .int .i64 (j : Int) ∧ Below wk.heap.size wk wr) (fun _ s117 _ => es.length - (intOf s117).toNat)
              case atStart => exact ⟨0, Nat.zero_le _, rfl, Below.refl _ _⟩
              case round =>
                obtain ⟨j, hj, rfl, hB⟩ := hrel
                by_cases hjm : j < es.length
                · obtain ⟨⟨a, b'⟩, he⟩ : ∃ e, es[j]? = some e := ⟨_, List.getElem?_eq_getElem hjm⟩
                  obtain ⟨eb, eoff, rfl, hebl, hc1, hc2⟩ := HG.out.pairs.edge he
                  have hBw := bstep HW9.out hB
                  have d3 := (hBw.cell (p := ⟨eb, eoff + j * 2, none⟩) hebl).trans hc1
                  have d4 := (hBw.cell (p := ⟨eb, eoff + j * 2 + 1, none⟩) hebl).trans hc2
                  have hbx := below_new wr (.cells #[.int .i64 (a : Int), .int .i64 (b' : Int)] 38)
                  have HCA := Lib.hid (containsN_any (.slice ro (rlist n es x).length rc) (rlist n es x) a (wr.alloc (.cells #[.int .i64 (a : Int), .int .i64 (b' : Int)] 38)) ((HO9.out.below hB).below hbx).sl (by omega))
                  have HCB := Lib.hid (containsN_any (.slice ro (rlist n es x).length rc) (rlist n es x) b' (wr.alloc (.cells #[.int .i64 (a : Int), .int .i64 (b' : Int)] 38)) ((HO9.out.below hB).below hbx).sl (by omega))
                  have HBN := Lib.hid (bstep hB hbx)
                  have HCL := Lib.hid (HXI.out.2 a b' (List.mem_of_getElem? he))
                  have j0 : (0 : Int) ≤ (j : Int) := Int.natCast_nonneg _
                  have j1 : (j : Int) < (es.length : Int) := by omega
                  clear he hc1 hc2 hbx
                  by_cases ha : a ∈ rlist n es x
                  · rw [dec_yes ha] at HCA
                    rw [dec_yes (HCL.out ha)] at HCB
                    clear ha
                    go_wp2_with fail
                    refine HCA.out.mono ?_
                    rintro e w11 ⟨rfl, rfl⟩
                    go_wp2_with fail
                    refine HCB.out.mono ?_
                    rintro e w11 ⟨rfl, rfl⟩
                    go_wp2
                    go_roundw
                    case rel => exact ⟨j + 1, by omega, by go_num, HBN.out⟩
                    case measure => simp [intOf]; omega
                  · rw [dec_no ha] at HCA
                    clear ha
                    go_wp2_with fail
                    refine HCA.out.mono ?_
                    rintro e w11 ⟨rfl, rfl⟩
                    go_wp2
                    go_roundw
                    case rel => exact ⟨j + 1, by omega, by go_num, HBN.out⟩
                    case measure => simp [intOf]; omega
                · have HSN := Lib.hid (HS9.out.below hB)
                  have HBB := Lib.hid hB
                  clear hB
                  go_wp2
                  go_roundw
                  case rel => exact ⟨0 + 1, by omega, by go_num, by rw [HCN.out], HSN.out, fun _ => ⟨x, HX.out, (HO9.out.mono hW1s).below HBB.out⟩⟩
                  case measure => simp [intOf]; omega
            · have hs3 : (0 : Int) < (s : Int) := by omega
              have hs4 : ((s : Int) == 0) = false := beq_no (by omega)
              obtain ⟨v0, hv0, hown0⟩ := HFI.out (by omega)
              have hv0r := List.mem_of_getElem? hv0
              have HV0 := Lib.hid (And.intro hv0 (HRM.out x (List.mem_of_getElem? HX.out) v0 hv0r))
              have HO0 := Lib.hid hown0
              clear hv0 hv0r hown0
              go_wp2_with fail
              refine HRX.out.mono ?_
              rintro e w9 ⟨ro, rc, rfl, ho9, hb9⟩
              have HO9 := Lib.hid ho9
              have HS9 := Lib.hid (HS1.out.below hb9)
              have HW9 := Lib.hid (bstep (bstep HB5.out HS1.out.low) hb9)
              have HC9 := Lib.hid (containsN_any (.slice ro (rlist n es x).length rc) (rlist n es x) x w9 ho9.sl (by omega))
              rw [dec_yes HXI.out.1] at HC9
              have HF9 := Lib.hid (HO0.out.below hb9)
              clear ho9 hb9
              go_wp2_with fail
              refine HC9.out.mono ?_
              rintro e w10 ⟨rfl, rfl⟩
              go_wp2_with fail
              refine (equalN_yes _ _ (rlist n es x) (rlist n es v0) _ HO9.out.sl HF9.out.sl (by omega) HV0.out.2).mono ?_
              rintro e w11 ⟨rfl, hb11⟩
              have HO9 := Lib.hid (HO9.out.below hb11)
              have HS9 := Lib.hid (HS9.out.below hb11)
              have HW9 := Lib.hid (bstep HW9.out hb11)
              have HF9 := Lib.hid (HF9.out.below hb11)
              clear hb11
              go_wp2_with fail
              obtain ⟨wk, rfl⟩ : ∃ wk : World, wk = w11 := ⟨_, rfl⟩
              go_loopw [20, 117] (fun _ s117 wr => ∃ j : Nat, j ≤ es.length ∧ s117 = .int .i64 (j : Int) ∧ Below wk.heap.size wk wr) (fun _ s117 _ => es.length - (intOf s117).toNat)
              case atStart => exact ⟨0, Nat.zero_le _, rfl, Below.refl _ _⟩
              case round =>
                obtain ⟨j, hj, rfl, hB⟩ := hrel
                by_cases hjm : j < es.length
                · obtain ⟨⟨a, b'⟩, he⟩ : ∃ e, es[j]? = some e := ⟨_, List.getElem?_eq_getElem hjm⟩
                  obtain ⟨eb, eoff, rfl, hebl, hc1, hc2⟩ := HG.out.pairs.edge he
                  have hBw := bstep HW9.out hB
                  have d3 := (hBw.cell (p := ⟨eb, eoff + j * 2, none⟩) hebl).trans hc1
                  have d4 := (hBw.cell (p := ⟨eb, eoff + j * 2 + 1, none⟩) hebl).trans hc2
                  have hbx := below_new wr (.cells #[.int .i64 (a : Int), .int .i64 (b' : Int)] 38)
                  have HCA := Lib.hid (containsN_any (.slice ro (rlist n es x).length rc) (rlist n es x) a (wr.alloc (.cells #[.int .i64 (a : Int), .int .i64 (b' : Int)] 38)) ((HO9.out.below hB).below hbx).sl (by omega))
                  have HCB := Lib.hid (containsN_any (.slice ro (rlist n es x).length rc) (rlist n es x) b' (wr.alloc (.cells #[.int .i64 (a : Int), .int .i64 (b' : Int)] 38)) ((HO9.out.below hB).below hbx).sl (by omega))
                  have HBN := Lib.hid (bstep hB hbx)
                  have HCL := Lib.hid (HXI.out.2 a b' (List.mem_of_getElem? he))
                  have j0 : (0 : Int) ≤ (j : Int) := Int.natCast_nonneg _
                  have j1 : (j : Int) < (es.length : Int) := by omega
                  clear he hc1 hc2 hbx
                  by_cases ha : a ∈ rlist n es x
                  · rw [dec_yes ha] at HCA
                    rw [dec_yes (HCL.out ha)] at HCB
                    clear ha
                    go_wp2_with fail
                    refine HCA.out.mono ?_
                    rintro e w11 ⟨rfl, rfl⟩
                    go_wp2_with fail
                    refine HCB.out.mono ?_
                    rintro e w11 ⟨rfl, rfl⟩
                    go_wp2
                    go_roundw
                    case rel => exact ⟨j + 1, by omega, by go_num, HBN.out⟩
                    case measure => simp [intOf]; omega
                  · rw [dec_no ha] at HCA
                    clear ha
                    go_wp2_with fail
                    refine HCA.out.mono ?_
                    rintro e w11 ⟨rfl, rfl⟩
                    go_wp2
                    go_roundw
                    case rel => exact ⟨j + 1, by omega, by go_num, HBN.out⟩
                    case measure => simp [intOf]; omega
                · have HSN := Lib.hid (HS9.out.below hB)
                  have HBB := Lib.hid hB
                  clear hB
                  go_wp2
                  go_roundw
                  case rel => exact ⟨s + 1, by omega, by go_num, by rw [HCN.out], HSN.out, fun _ => ⟨v0, HV0.out.1, HF9.out.below HBB.out⟩⟩
                  case measure => simp [intOf]; omega
          · obtain rfl : s = r.length := by omega
            have HS2 : Hid (RS WD n (Q ++ r) wr) := by
              have := HI.out.1
              rwa [List.take_length] at this
            have HC3 := Lib.hid (show ((Q.length + r.length : Nat) : Int) = (((P.take (t + 1)).flatten.length : Nat) : Int) by rw [HQ1.out, List.length_append])
            rw [HC3.out]
            go_wp2
            go_roundw
            case rel => exact ⟨t + 1, by omega, by go_num, rfl, by rw [HA1.out]; simp, by rw [HQ1.out]; exact HS2.out⟩
            case measure => simp [intOf]; omega
      · go_wp2_with fail
        clear d1
        go_loopw [9, 14, 15, 16, 17, 18, 20, 64] (fun s9 s14 _ _ _ _ _ s64 wr => ∃ s : Nat, s ≤ r.length ∧ s64 = .int .i64 (s : Int) ∧ s9 = .int .i64 ((Q.length + s : Nat) : Int) ∧ Hid (RS WD n (Q ++ r.take s) wr ∧ (0 < s → ∃ v0, r[0]? = some v0 ∧ Own wr (WD.heap.size + 1) 3 natf s14 (rlist n es v0)))) (fun _ _ _ _ _ _ _ s64 _ => r.length - (intOf s64).toNat)
        case atStart => exact ⟨0, Nat.zero_le _, rfl, by simp, by simpa using H.out, fun h => by omega⟩
        case round =>
          obtain ⟨s, hs, rfl, rfl, HI⟩ := hrel
          by_cases hsl : s < r.length
          · obtain ⟨x, hx⟩ : ∃ x, r[s]? = some x := ⟨_, List.getElem?_eq_getElem hsl⟩
            have hxf : x ∈ P.flatten := List.mem_flatten.2 ⟨r, List.mem_of_getElem? HR.out, List.mem_of_getElem? hx⟩
            have hxn := HND.out.2.1 x hxf
            obtain ⟨xb, xoff, rfl, hxb, hxc⟩ := nats_get HN.out hx
            have d2 := (HI.out.1.low.cell (p := ⟨xb, xoff + s, none⟩) hxb).trans hxc
            have c1 := HI.out.1.seen.cell (fl_get (fun v => decide (v ∈ Q ++ r.take s)) hxn)
            have c2 := HI.out.1.seen.free x
            have hno := flat_get HR.out hx HND.out.1
            rw [HQE.out] at hno
            unfold boolf at c1
            rw [dec_no hno] at c1
            obtain ⟨W1, hW1⟩ : ∃ W1, wr.setCell ⟨WD.heap.size, x, none⟩ (.bool true) = W1 := ⟨_, rfl⟩
            have HS1 := Lib.hid (HI.out.1.set x)
            rw [hW1] at HS1
            have HQ2 := Lib.hid (show Q ++ r.take s ++ [x] = Q ++ r.take (s + 1) by rw [List.take_succ_eq_append_getElem hsl, (List.getElem?_eq_some_iff.1 hx).2, List.append_assoc])
            rw [HQ2.out] at HS1
            have HFI : Hid (0 < s → ∃ v0, r[0]? = some v0 ∧ Own W1 (WD.heap.size + 1) 3 natf u14 (rlist n es v0)) := fun h => by
              obtain ⟨v0, h1, h2⟩ := HI.out.2 h
              refine ⟨v0, h1, ?_⟩
              rw [← hW1]
              exact h2.only (only_set wr WD.heap.size x (.bool true)) (fun g e e2 => by
                have h3 := (h2.lt g e).1
                have h4 : g = WD.heap.size := Option.some.inj e2
                omega)
            have hW1s : WD.heap.size + 1 ≤ W1.heap.size := (HS1.out.seen.lt WD.heap.size rfl).2
            have hgl : WD.heap.size < wr.heap.size := (HI.out.1.seen.lt WD.heap.size rfl).2
            have HRX := Lib.hid (HRC.out x W1 hxn (bstep HB5.out HS1.out.low))
            have HXI : Hid (x ∈ rlist n es x ∧ ∀ a b, (a, b) ∈ es → a ∈ rlist n es x → b ∈ rlist n es x) := by
              refine ⟨rlist_mem.2 ⟨hxn, .refl x⟩, fun a b hab ha => ?_⟩
              exact rlist_mem.2 ⟨(HG.out.ends.mem hab).2, .step (rlist_mem.1 ha).2 hab⟩
            have hrll := rlist_len n es x
            have HX := Lib.hid hx
            have x0 : (0 : Int) ≤ (x : Int) := Int.natCast_nonneg _
            have x1 : (x : Int) < (n : Int) := by omega
            have s0 : (0 : Int) ≤ (s : Int) := Int.natCast_nonneg _
            have s1 : (s : Int) < (r.length : Int) := by omega
            have g0 : (0 : Int) ≤ ((Q.length + s : Nat) : Int) := Int.natCast_nonneg _
            have g1 : ((Q.length + s : Nat) : Int) ≤ 1000 := by omega
            obtain ⟨cn, hcn⟩ : ∃ cn : Int, ((Q.length + s : Nat) : Int) = cn := ⟨_, rfl⟩
            rw [hcn] at g0 g1 ⊢
            have HCN := Lib.hid (show cn + 1 = ((Q.length + (s + 1) : Nat) : Int) by omega)
            have hnx : ¬ (n : Int) ≤ (x : Int) := by omega
            have hnx2 : ¬ n ≤ x := by omega
            obtain ⟨wi, rfl⟩ : ∃ wi : World, wi = wr := ⟨_, rfl⟩
            clear hx hxf hxc hno hcn
            by_cases hs0 : s = 0
            · subst hs0
              have d2' : wi.cell? ⟨xb, xoff, none⟩ = some (.int .i64 (x : Int)) := d2
              go_wp2_with fail
              refine HRX.out.mono ?_
              rintro e w9 ⟨ro, rc, rfl, ho9, hb9⟩
              have HO9 := Lib.hid ho9
              have HS9 := Lib.hid (HS1.out.below hb9)
              have HW9 := Lib.hid (bstep (bstep HB5.out HS1.out.low) hb9)
              have HC9 := Lib.hid (containsN_any (.slice ro (rlist n es x).length rc) (rlist n es x) x w9 ho9.sl (by omega))
              rw [dec_yes HXI.out.1] at HC9
              clear ho9 hb9
              go_wp2_with fail
              refine HC9.out.mono ?_
              rintro e w10 ⟨rfl, rfl⟩
              go_wp2_with fail
              obtain ⟨wk, rfl⟩ : ∃ wk : World, wk = w9 := ⟨_, rfl⟩
              go_loopw [20, 117] (fun _ s117 wr => ∃ j : Nat, j ≤ es.length ∧ s117 = .int .i64 (j : Int) ∧ Below wk.heap.size wk wr) (fun _ s117 _ => es.length - (intOf s117).toNat)
              case atStart => exact ⟨0, Nat.zero_le _, rfl, Below.refl _ _⟩
              case round =>
                obtain ⟨j, hj, rfl, hB⟩ := hrel
                by_cases hjm : j < es.length
                · obtain ⟨⟨a, b'⟩, he⟩ : ∃ e, es[j]? = some e := ⟨_, List.getElem?_eq_getElem hjm⟩
                  obtain ⟨eb, eoff, rfl, hebl, hc1, hc2⟩ := HG.out.pairs.edge he
                  have hBw := bstep HW9.out hB
                  have d3 := (hBw.cell (p := ⟨eb, eoff + j * 2, none⟩) hebl).trans hc1
                  have d4 := (hBw.cell (p := ⟨eb, eoff + j * 2 + 1, none⟩) hebl).trans hc2
                  have hbx := below_new wr (.cells #[.int .i64 (a : Int), .int .i64 (b' : Int)] 38)
                  have HCA := Lib.hid (containsN_any (.slice ro (rlist n es x).length rc) (rlist n es x) a (wr.alloc (.cells #[.int .i64 (a : Int), .int .i64 (b' : Int)] 38)) ((HO9.out.below hB).below hbx).sl (by omega))
                  have HCB := Lib.hid (containsN_any (.slice ro (rlist n es x).length rc) (rlist n es x) b' (wr.alloc (.cells #[.int .i64 (a : Int), .int .i64 (b' : Int)] 38)) ((HO9.out.below hB).below hbx).sl (by omega))
                  have HBN := Lib.hid (bstep hB hbx)
                  have HCL := Lib.hid (HXI.out.2 a b' (List.mem_of_getElem? he))
                  have j0 : (0 : Int) ≤ (j : Int) := Int.natCast_nonneg _
                  have j1 : (j : Int) < (es.length : Int) := by omega
                  clear he hc1 hc2 hbx
                  by_cases ha : a ∈ rlist n es x
                  · rw [dec_yes ha] at HCA
                    rw [dec_yes (HCL.out ha)] at HCB
                    clear ha
                    go_wp2_with fail
                    refine HCA.out.mono ?_
                    rintro e w11 ⟨rfl, rfl⟩
                    go_wp2_with fail
                    refine HCB.out.mono ?_
                    rintro e w11 ⟨rfl, rfl⟩
                    go_wp2
                    go_roundw
                    case rel => exact ⟨j + 1, by omega, by go_num, HBN.out⟩
                    case measure => simp [intOf]; omega
                  · rw [dec_no ha] at HCA
                    clear ha
                    go_wp2_with fail
                    refine HCA.out.mono ?_
                    rintro e w11 ⟨rfl, rfl⟩
                    go_wp2
                    go_roundw
                    case rel => exact ⟨j + 1, by omega, by go_num, HBN.out⟩
                    case measure => simp [intOf]; omega
                · have HSN := Lib.hid (HS9.out.below hB)
                  have HBB := Lib.hid hB
                  clear hB
                  go_wp2
                  go_roundw
                  case rel => exact ⟨0 + 1, by omega, by go_num, by rw [HCN.out], HSN.out, fun _ => ⟨x, HX.out, (HO9.out.mono hW1s).below HBB.out⟩⟩
                  case measure => simp [intOf]; omega
            · have hs3 : (0 : Int) < (s : Int) := by omega
              have hs4 : ((s : Int) == 0) = false := beq_no (by omega)
              obtain ⟨v0, hv0, hown0⟩ := HFI.out (by omega)
              have hv0r := List.mem_of_getElem? hv0
              have HV0 := Lib.hid (And.intro hv0 (HRM.out x (List.mem_of_getElem? HX.out) v0 hv0r))
              have HO0 := Lib.hid hown0
              clear hv0 hv0r hown0
              go_wp2_with fail
              refine HRX.out.mono ?_
              rintro e w9 ⟨ro, rc, rfl, ho9, hb9⟩
              have HO9 := Lib.hid ho9
              have HS9 := Lib.hid (HS1.out.below hb9)
              have HW9 := Lib.hid (bstep (bstep HB5.out HS1.out.low) hb9)
              have HC9 := Lib.hid (containsN_any (.slice ro (rlist n es x).length rc) (rlist n es x) x w9 ho9.sl (by omega))
              rw [dec_yes HXI.out.1] at HC9
              have HF9 := Lib.hid (HO0.out.below hb9)
              clear ho9 hb9
              go_wp2_with fail
              refine HC9.out.mono ?_
              rintro e w10 ⟨rfl, rfl⟩
              go_wp2_with fail
              refine (equalN_yes _ _ (rlist n es x) (rlist n es v0) _ HO9.out.sl HF9.out.sl (by omega) HV0.out.2).mono ?_
              rintro e w11 ⟨rfl, hb11⟩
              have HO9 := Lib.hid (HO9.out.below hb11)
              have HS9 := Lib.hid (HS9.out.below hb11)
              have HW9 := Lib.hid (bstep HW9.out hb11)
              have HF9 := Lib.hid (HF9.out.below hb11)
              clear hb11
              go_wp2_with fail
              obtain ⟨wk, rfl⟩ : ∃ wk : World, wk = w11 := ⟨_, rfl⟩
              go_loopw [20, 117] (fun _ s117 wr => ∃ j : Nat, j ≤ es.length ∧ s117 = .int .i64 (j : Int) ∧ Below wk.heap.size wk wr) (fun _ s117 _ => es.length - (intOf s117).toNat)
              case atStart => exact ⟨0, Nat.zero_le _, rfl, Below.refl _ _⟩
              case round =>
                obtain ⟨j, hj, rfl, hB⟩ := hrel
                by_cases hjm : j < es.length
                · obtain ⟨⟨a, b'⟩, he⟩ : ∃ e, es[j]? = some e := ⟨_, List.getElem?_eq_getElem hjm⟩
                  obtain ⟨eb, eoff, rfl, hebl, hc1, hc2⟩ := HG.out.pairs.edge he
                  have hBw := bstep HW9.out hB
                  have d3 := (hBw.cell (p := ⟨eb, eoff + j * 2, none⟩) hebl).trans hc1
                  have d4 := (hBw.cell (p := ⟨eb, eoff + j * 2 + 1, none⟩) hebl).trans hc2
                  have hbx := below_new wr (.cells #[.int .i64 (a : Int), .int .i64 (b' : Int)] 38)
                  have HCA := Lib.hid (containsN_any (.slice ro (rlist n es x).length rc) (rlist n es x) a (wr.alloc (.cells #[.int .i64 (a : Int), .int .i64 (b' : Int)] 38)) ((HO9.out.below hB).below hbx).sl (by omega))
                  have HCB := Lib.hid (containsN_any (.slice ro (rlist n es x).length rc) (rlist n es x) b' (wr.alloc (.cells #[.int .i64 (a : Int), .int .i64 (b' : Int)] 38)) ((HO9.out.below hB).below hbx).sl (by omega))
                  have HBN := Lib.hid (bstep hB hbx)
                  have HCL := Lib.hid (HXI.out.2 a b' (List.mem_of_getElem? he))
                  have j0 : (0 : Int) ≤ (j : Int) := Int.natCast_nonneg _
                  have j1 : (j : Int) < (es.length : Int) := by omega
                  clear he hc1 hc2 hbx
                  by_cases ha : a ∈ rlist n es x
                  · rw [dec_yes ha] at HCA
                    rw [dec_yes (HCL.out ha)] at HCB
                    clear ha
                    go_wp2_with fail
                    refine HCA.out.mono ?_
                    rintro e w11 ⟨rfl, rfl⟩
                    go_wp2_with fail
                    refine HCB.out.mono ?_
                    rintro e w11 ⟨rfl, rfl⟩
                    go_wp2
                    go_roundw
                    case rel => exact ⟨j + 1, by omega, by go_num, HBN.out⟩
                    case measure => simp [intOf]; omega
                  · rw [dec_no ha] at HCA
                    clear ha
                    go_wp2_with fail
                    refine HCA.out.mono ?_
                    rintro e w11 ⟨rfl, rfl⟩
                    go_wp2
                    go_roundw
                    case rel => exact ⟨j + 1, by omega, by go_num, HBN.out⟩
                    case measure => simp [intOf]; omega
                · have HSN := Lib.hid (HS9.out.below hB)
                  have HBB := Lib.hid hB
                  clear hB
                  go_wp2
                  go_roundw
                  case rel => exact ⟨s + 1, by omega, by go_num, by rw [HCN.out], HSN.out, fun _ => ⟨v0, HV0.out.1, HF9.out.below HBB.out⟩⟩
                  case measure => simp [intOf]; omega
          · obtain rfl : s = r.length := by omega
            have HS2 : Hid (RS WD n (Q ++ r) wr) := by
              have := HI.out.1
              rwa [List.take_length] at this
            have HC3 := Lib.hid (show ((Q.length + r.length : Nat) : Int) = (((P.take (t + 1)).flatten.length : Nat) : Int) by rw [HQ1.out, List.length_append])
            rw [HC3.out]
            go_wp2
            go_roundw
            case rel => exact ⟨t + 1, by omega, by go_num, rfl, by rw [HA1.out]; simp, by rw [HQ1.out]; exact HS2.out⟩
            case measure => simp [intOf]; omega
    · obtain rfl : t = P.length := by omega
      rw [List.take_length] at H
      have HFN := Lib.hid (And.intro HND.out.2.2 HF.out)
      rw [List.take_length, HND.out.2.2]
      have HBW := Lib.hid (bstep HB5.out H.out.low)
      obtain ⟨q, hq⟩ : ∃ q, (sv0 || P.any (fun r => decide (1 < r.length))) = q := ⟨_, rfl⟩
      have hf := HF.out
      rw [hq] at hf ⊢
      have q1 : ((n : Int) == (n : Int)) = true := by simp
      have q2 : (q == q) = true := by simp
      clear hq
      go_wp2
      go_ret
      exact ⟨by first | rfl | (simp; done), HBW.out⟩

set_option maxRecDepth 100000 in
set_option maxHeartbeats 4000000 in
theorem digraphReaches_walk (w : World) (n : Int) (wn : (Lit.int .i64 n).wf = true) (v : Value) (l : List (Int × Int)) (hp : Pairs w v l) (bl : l.length * 16 ≤ 140737488351232) :
    Calls Try.prog 7 #[.int .i64 n, v] w fun e w' => e = .returned (.bool true) ∧ Below w.heap.size w w' := by
  have hbl : l.length ≤ 140737488355328 := by omega
  cases hlg : larg n l.length
  · cases hv : vldD n l
    · have HL := Lib.hid hlg
      have HV := Lib.hid hv
      have HP := Lib.hid hp
      obtain ⟨ao, cap, rfl, _⟩ := hp
      clear hlg bl hv
      go_enter Try.func7, Try.ntmps7
      go_wp2_with fail
      refine (awake_any _).mono ?_
      rintro e w1 ⟨rfl, hB1⟩
      go_wp2_with fail
      refine (large_any n _ l.length _ hbl ⟨_, _, rfl⟩).mono ?_
      rw [HL.out]
      rintro e w2 ⟨rfl, rfl⟩
      go_wp2_with fail
      refine (dvalid_any n _ l _ (HP.out.below hB1) hbl).mono ?_
      rw [HV.out]
      rintro e w2 ⟨rfl, hb2⟩
      have hB2 := bstep hB1 hb2
      go_wp2
      go_ret
      exact ⟨rfl, hB2⟩
    · obtain ⟨N, ns, rfl, rfl, hg⟩ := dg_of hp hv
      rw [cst_len] at hlg
      exact reachesYes_walk w N v ns hg hlg
  · have HL := Lib.hid hlg
    obtain ⟨ao, cap, rfl, _⟩ := hp
    clear hlg bl
    go_enter Try.func7, Try.ntmps7
    go_wp2_with fail
    refine (awake_any _).mono ?_
    rintro e w1 ⟨rfl, hB1⟩
    go_wp2_with fail
    refine (large_any n _ l.length _ hbl ⟨_, _, rfl⟩).mono ?_
    rw [HL.out]
    rintro e w2 ⟨rfl, rfl⟩
    go_wp2
    go_ret
    exact ⟨rfl, hB1⟩
end Go.Proofs.Ythhhcaleoiopgaa
