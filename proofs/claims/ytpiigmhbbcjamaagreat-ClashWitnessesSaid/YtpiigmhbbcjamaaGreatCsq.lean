/-
  The square of two laid bars: clash.square.
-/
import Derived.Test.YtpiigmhbbcjamaaGreatCsp
import Derived.Test.YtpiigmhbbcjamaaGreatQrs
namespace Go.Proofs.YtpiigmhbbcjamaaGreat
section
open Go.RowKit
set_option linter.unusedVariables false
set_option linter.unusedSimpArgs false
attribute [local go_sem ↓] Go.wp_at_zero Go.wp_at_succ

/-- The cells of the pointer's block, and the rows behind. -/
theorem Spc.open_ {w : World} {T : Nat} {L : List (List Bx)} {Z : List Int} (h : Spc w T L Z) {i : Nat} (hi : i < L.length) : ∃ b off vc U, T < w.heap.size ∧ b < w.heap.size ∧ w.cell? ⟨T, 0, none⟩ = some (.slice (some ⟨b, off, none⟩) L.length vc) ∧ w.cell? ⟨T, 1, none⟩ = some U ∧ Ints w U Z ∧
    ∃ uo uc, w.cell? ⟨b, off + i, none⟩ = some (.slice uo (L.getD i []).length uc) ∧ Bxs w (.slice uo (L.getD i []).length uc) (L.getD i []) := by
  obtain ⟨V, U, h1, ⟨ao, cap, rfl, h2⟩, h3⟩ := h
  obtain ⟨b, off, rfl, hb, hc⟩ := h2 (by omega)
  obtain ⟨u, hu, hx⟩ := hc i _ (List.getElem?_eq_getElem hi)
  have hg : L.getD i [] = L[i] := by rw [List.getD_eq_getElem?_getD, List.getElem?_eq_getElem hi]; rfl
  rw [hg]
  obtain ⟨uo, uc, rfl⟩ := hx.at_
  exact ⟨b, off, cap, U, h1.lt, hb, h1.cell 0, h1.cell 1, h3, uo, uc, hu, hx⟩

/-- The two points as far as they are known. -/
structure CsW (w : World) (s : SqS) (wr : World) : Prop where
  below : Below w.heap.size w wr
  bp : BlkIs wr w.heap.size 43 #[.int .i64 s.p.x, .int .i64 s.p.y, .int .i64 s.p.z]
  bq : BlkIs wr (w.heap.size + 1) 43 #[.int .i64 s.q.x, .int .i64 s.q.y, .int .i64 s.q.z]
theorem CsW.after {w wr w' : World} {s : SqS} (h : CsW w s wr) (hb : Below wr.heap.size wr w') : CsW w s w' := ⟨bstep h.below hb, h.bp.below hb, h.bq.below hb⟩
theorem CsW.drew {w wr : World} {s : SqS} (h : CsW w s wr) : CsW w s wr.drew := h.after (Below.refl _ _).drew
theorem CsW.put {w wr w' : World} {s : SqS} (h : CsW w s wr) (n : Int) (P Q : Pt) (hW : wset3 (wset3 wr w.heap.size P) (w.heap.size + 1) Q = w') : CsW w ⟨n, P, Q⟩ w' := by
  rw [← hW]
  exact ⟨wbelow_set3 (wbelow_set3 h.below (Nat.le_refl _) P) (Nat.le_add_right _ 1) Q, wblk_far3 (wblk_set3 h.bp P) (by omega) Q, wblk_set3 (wblk_far3 h.bq (by omega) P) Q⟩

set_option maxRecDepth 100000 in
set_option maxHeartbeats 8000000 in
theorem csquare_any (T : Nat) (L : List (List Bx)) (Z : List Int) (i k : Nat) (w : World) (hs : Spc w T L Z) (hz : LzOk L Z) (hi : i < L.length) (hk : k < L.length) :
    Calls Tryz.prog 34 #[.pointer (some ⟨T, 0, none⟩), .int .i64 (i : Int), .int .i64 (k : Int)] w fun e w' => e = .returned (.tuple #[.int .i64 (sqAt L i k).n, ptv (sqAt L i k).p, ptv (sqAt L i k).q]) ∧ Below w.heap.size w w' := by
  have HW0 : Hid (CsW w sqS0 ((w.alloc (.cells #[.int .i64 0, .int .i64 0, .int .i64 0] 43)).alloc (.cells #[.int .i64 0, .int .i64 0, .int .i64 0] 43))) := ⟨by go_grown, (BlkIs.new w _ _).alloc _, BlkIs.new1 w _ _ _⟩
  have HS := Lib.hid hs
  have HOI := Lib.hid (fun W (hW : Below w.heap.size w W) => (hs.below hW).open_ hi)
  have HOK := Lib.hid (fun W (hW : Below w.heap.size w W) => (hs.below hW).open_ hk)
  obtain ⟨p1, p2, p3⟩ := hz.legs i hi
  obtain ⟨q1, q2, q3⟩ := hz.legs k hk
  have HSQ : Hid (sqAt L i k = allS (L.getD i []) (L.getD k []) (L.getD i []).length) := rfl
  rw [HSQ.out]
  obtain ⟨i0, i1⟩ : (0 : Int) ≤ (i : Int) ∧ (i : Int) < (L.length : Int) := by omega
  obtain ⟨k0, k1⟩ : (0 : Int) ≤ (k : Int) ∧ (k : Int) < (L.length : Int) := by omega
  generalize L.getD i [] = A at *
  generalize L.getD k [] = B at *
  generalize L.length = ll at *
  have HOA := Lib.hid (List.all_eq_true.1 p3)
  have HOB := Lib.hid (List.all_eq_true.1 q3)
  have HSR := Lib.hid (fun (a b : Bx) W (h1 : bxOk a = true) (h2 : bxOk b = true) => square_any a b W h1 h2)
  have HNE := Lib.hid (fun (a b : Bx) W (h1 : bxOk a = true) (h2 : bxOk b = true) => nearest_any a b W h1 h2)
  have HA0 : Hid (allS A B 0 = sqS0) := rfl
  clear hz hi hk p1 p3 q1 q3 HSQ hs
  obtain ⟨ib, ioff, ivc, iU, iT, ibl, c0, c1, _, iuo, iuc, c2, hxA⟩ := HOI.out w (Below.refl _ _)
  have HXA := Lib.hid hxA
  obtain ⟨kb, koff, kvc, kU, kT, kbl, k2, k3, _, kuo, kuc, k4, hxB⟩ := HOK.out w (Below.refl _ _)
  have HXB := Lib.hid hxB
  have HKC := Lib.hid (fun W (hW : Below w.heap.size w W) => And.intro ((hW.cell (p := ⟨T, 0, none⟩) kT).trans k2) ((hW.cell (p := ⟨kb, koff + k, none⟩) kbl).trans k4))
  have HKL := Lib.hid (And.intro kT kbl)
  clear hxA HOI HOK hxB k2 k3 k4 kT kbl
  go_enter Tryz.func34, Tryz.ntmps34
  go_wp2_with fail
  clear c0 c1 c2 ibl iT
  go_loopw [6, 23] (fun n c wr => ∃ t : Nat, t ≤ A.length ∧ c = .int .i64 (t : Int) ∧ n = .int .i64 (allS A B t).n ∧ CsW w (allS A B t) wr) (fun _ c _ => A.length - (intOf c).toNat)
  case atStart => exact ⟨0, Nat.zero_le _, rfl, rfl, HW0.out⟩
  case round =>
    clear HW0 HA0
    obtain ⟨t, ht, rfl, rfl, hW⟩ := hrel
    have HW := Lib.hid hW
    clear hW
    obtain ⟨wo, rfl⟩ : ∃ wo : World, wo = wr := ⟨_, rfl⟩
    by_cases ht2 : t < A.length
    · obtain ⟨a, ha⟩ : ∃ y, A[t]? = some y := ⟨_, List.getElem?_eq_getElem ht2⟩
      obtain ⟨b0, off0, rfl, hbl0, c0, c1, c2, c3, c4, c5⟩ := bxs_get (Fl.below HXA.out HW.out.below) ha
      have HAOK := Lib.hid (HOA.out a (List.mem_of_getElem? ha))
      have HAS := Lib.hid (allS_succ B ha)
      generalize hst : allS A B t = st at *
      have HR0 : Hid (rowS st a B 0 = st) := rfl
      have hsz2 : w.heap.size + 2 ≤ wo.heap.size := by have := HW.out.bq.lt; omega
      obtain ⟨d0, d2⟩ := HKC.out wo HW.out.below
      have kT : T < wo.heap.size := by have := HKL.out.1; omega
      have kbl : kb < wo.heap.size := by have := HKL.out.2; omega
      have HW2 := Lib.hid (HW.out.after (below_new wo (.cells (bxCellsA a) 96)))
      have HA2 := Lib.hid (BlkIs.new wo (bxCellsA a) 96)
      clear ha hbl0 hst HW
      go_wp2_with fail
      clear c0 c1 c2 c3 c4 c5 d0 d2 kT kbl
      go_loopw [6, 35] (fun n c wr => ∃ m : Nat, m ≤ B.length ∧ c = .int .i64 (m : Int) ∧ n = .int .i64 (rowS st a B m).n ∧ CsW w (rowS st a B m) wr ∧ BlkIs wr wo.heap.size 96 (bxCellsA a)) (fun _ c _ => B.length - (intOf c).toNat)
      case atStart => exact ⟨0, Nat.zero_le _, rfl, by rw [HR0.out], by rw [HR0.out]; exact HW2.out, HA2.out⟩
      case round =>
        clear HW2 HA2 HR0
        obtain ⟨m, hm, rfl, rfl, hW, hA⟩ := hrel
        have HW := Lib.hid hW
        have HA := Lib.hid hA
        clear hW hA
        by_cases hm2 : m < B.length
        · obtain ⟨b, hb⟩ : ∃ y, B[m]? = some y := ⟨_, List.getElem?_eq_getElem hm2⟩
          obtain ⟨b1, off1, rfl, hbl1, c0, c1, c2, c3, c4, c5⟩ := bxs_get (Fl.below HXB.out HW.out.below) hb
          have HBOK := Lib.hid (HOB.out b (List.mem_of_getElem? hb))
          have HRS := Lib.hid (rowS_succ st a hb)
          have HS := Lib.hid (fun W => HSR.out a b W HAOK.out HBOK.out)
          have HN := Lib.hid (fun W => HNE.out a b W HAOK.out HBOK.out)
          have HST : Hid (∀ s : SqS, stS s a b = if s.n < 0 ∨ sqN a b 3 < s.n then ⟨sqN a b 3, nearP a b, nearQ a b⟩ else s) := fun _ => rfl
          generalize rowS st a B m = s0 at *
          generalize sqN a b 3 = sq at *
          generalize nearP a b = P at *
          generalize nearQ a b = Q at *
          have HSTS := Lib.hid (HST.out s0)
          have d0 := HA.out.cell 0
          have d1 := HA.out.cell 1
          have d2 := HA.out.cell 2
          have d3 := HA.out.cell 3
          have d4 := HA.out.cell 4
          have d5 := HA.out.cell 5
          have dz := HA.out.lt
          clear hb hbl1 HST
          go_wp2_with fail
          refine (HS.out _).mono ?_
          rintro en w5 ⟨rfl, hb5⟩
          have HW5 := Lib.hid ((HW.out.after (below_new wr (.cells (bxCellsA b) 96))).after hb5)
          have HA5 := Lib.hid ((HA.out.alloc (.cells (bxCellsA b) 96)).below hb5)
          have HB5 := Lib.hid ((BlkIs.new wr (bxCellsA b) 96).below hb5)
          clear c0 c1 c2 c3 c4 c5 d0 d1 d2 d3 d4 d5 dz hb5 HW HA HS
          by_cases h1 : s0.n < 0
          · have e1 : decide (s0.n < 0) = true := dec_yes h1
            have HRN : Hid (rowS st a B (m + 1) = ⟨sq, P, Q⟩) := by unfold Hid; rw [HRS.out, HSTS.out, if_pos (.inl h1)]
            clear HRS HSTS
            have c0 := HB5.out.cell 0
            have c1 := HB5.out.cell 1
            have c2 := HB5.out.cell 2
            have c3 := HB5.out.cell 3
            have c4 := HB5.out.cell 4
            have c5 := HB5.out.cell 5
            have d0 := HA5.out.cell 0
            have d1 := HA5.out.cell 1
            have d2 := HA5.out.cell 2
            have d3 := HA5.out.cell 3
            have d4 := HA5.out.cell 4
            have d5 := HA5.out.cell 5
            go_wp2_with fail
            refine (HN.out _).mono ?_
            rintro en w6 ⟨rfl, hb6⟩
            have HW6 := Lib.hid (HW5.out.after hb6)
            have HA6 := Lib.hid (HA5.out.below hb6)
            clear hb6 c0 c1 c2 c3 c4 c5 d0 d1 d2 d3 d4 d5 HN HW5 HA5 HB5
            have HW7 := Lib.hid (HW6.out.put sq P Q rfl)
            have HA7 := Lib.hid (wblk_far3 (G := w.heap.size + 1) (wblk_far3 (G := w.heap.size) HA6.out (by omega) P) (by omega) Q)
            have e0 := HW6.out.bp.cell 0
            have e1 := HW6.out.bp.cell 1
            have e2 := HW6.out.bp.cell 2
            have ef := HW6.out.bp.free
            have ez := HW6.out.bp.lt
            have g0 := HW6.out.bq.cell 0
            have g1 := HW6.out.bq.cell 1
            have g2 := HW6.out.bq.cell 2
            have gf := HW6.out.bq.free
            have gz := HW6.out.bq.lt
            go_wp2
            go_roundw
            case rel => exact ⟨m + 1, by omega, by go_num, by rw [HRN.out], by rw [HRN.out]; exact HW7.out, HA7.out⟩
            case measure => simp [intOf]; omega
          · have e1 : decide (s0.n < 0) = false := dec_no h1
            by_cases h2 : sq < s0.n
            · have e2 : decide (sq < s0.n) = true := dec_yes h2
              have HRN : Hid (rowS st a B (m + 1) = ⟨sq, P, Q⟩) := by unfold Hid; rw [HRS.out, HSTS.out, if_pos (.inr h2)]
              clear HRS HSTS
              have c0 := HB5.out.cell 0
              have c1 := HB5.out.cell 1
              have c2 := HB5.out.cell 2
              have c3 := HB5.out.cell 3
              have c4 := HB5.out.cell 4
              have c5 := HB5.out.cell 5
              have d0 := HA5.out.cell 0
              have d1 := HA5.out.cell 1
              have d2 := HA5.out.cell 2
              have d3 := HA5.out.cell 3
              have d4 := HA5.out.cell 4
              have d5 := HA5.out.cell 5
              go_wp2_with fail
              refine (HN.out _).mono ?_
              rintro en w6 ⟨rfl, hb6⟩
              have HW6 := Lib.hid (HW5.out.after hb6)
              have HA6 := Lib.hid (HA5.out.below hb6)
              clear hb6 c0 c1 c2 c3 c4 c5 d0 d1 d2 d3 d4 d5 HN HW5 HA5 HB5
              have HW7 := Lib.hid (HW6.out.put sq P Q rfl)
              have HA7 := Lib.hid (wblk_far3 (G := w.heap.size + 1) (wblk_far3 (G := w.heap.size) HA6.out (by omega) P) (by omega) Q)
              have e0 := HW6.out.bp.cell 0
              have e1 := HW6.out.bp.cell 1
              have e2 := HW6.out.bp.cell 2
              have ef := HW6.out.bp.free
              have ez := HW6.out.bp.lt
              have g0 := HW6.out.bq.cell 0
              have g1 := HW6.out.bq.cell 1
              have g2 := HW6.out.bq.cell 2
              have gf := HW6.out.bq.free
              have gz := HW6.out.bq.lt
              go_wp2
              go_roundw
              case rel => exact ⟨m + 1, by omega, by go_num, by rw [HRN.out], by rw [HRN.out]; exact HW7.out, HA7.out⟩
              case measure => simp [intOf]; omega
            · have e2 : decide (sq < s0.n) = false := dec_no h2
              have HRN : Hid (rowS st a B (m + 1) = s0) := by unfold Hid; rw [HRS.out, HSTS.out, if_neg (fun h => h.elim h1 h2)]
              clear HRS HSTS HN
              go_wp2
              go_roundw
              case rel => exact ⟨m + 1, by omega, by go_num, by rw [HRN.out], by rw [HRN.out]; exact HW5.out, HA5.out⟩
              case measure => simp [intOf]; omega
        · obtain rfl : m = B.length := by omega
          go_wp2
          go_roundw
          case rel => exact ⟨t + 1, by omega, by go_num, by rw [HAS.out], by rw [HAS.out]; exact HW.out⟩
          case measure => simp [intOf]; omega
    · obtain rfl : t = A.length := by omega
      generalize hse : allS A B A.length = st at *
      have HSE := Lib.hid hse
      clear hse
      have p0 := HW.out.bp.cell 0
      have p1 := HW.out.bp.cell 1
      have p2 := HW.out.bp.cell 2
      have pf := HW.out.bp.free
      have q0 := HW.out.bq.cell 0
      have q1 := HW.out.bq.cell 1
      have q2 := HW.out.bq.cell 2
      have qf := HW.out.bq.free
      obtain ⟨W9, hW9⟩ : ∃ W, (wset3 (wset3 wo w.heap.size st.p) (w.heap.size + 1) st.q).drew = W := ⟨_, rfl⟩
      have HWE : Hid (CsW w ⟨st.n, st.p, st.q⟩ W9) := by
        unfold Hid
        rw [← hW9]
        exact CsW.drew (HW.out.put st.n st.p st.q rfl)
      have H9 := Lib.hid hW9
      clear hW9
      go_wp2_with fail
      go_region
      all_goals
        rw [H9.out]
        clear p0 p1 p2 pf q0 q1 q2 qf H9
        have e0 := HWE.out.bp.cell 0
        have e1 := HWE.out.bp.cell 1
        have e2 := HWE.out.bp.cell 2
        have g0 := HWE.out.bq.cell 0
        have g1 := HWE.out.bq.cell 1
        have g2 := HWE.out.bq.cell 2
        go_wp2
        exact bodyPost_ret (v := .tuple #[.int .i64 st.n, ptv st.p, ptv st.q]) (by simp [results, Tryz.results34, go_sem, e0, e1, e2, g0, g1, g2]) rfl ⟨by rw [HSE.out], HWE.out.below⟩
end
end Go.Proofs.YtpiigmhbbcjamaaGreat
