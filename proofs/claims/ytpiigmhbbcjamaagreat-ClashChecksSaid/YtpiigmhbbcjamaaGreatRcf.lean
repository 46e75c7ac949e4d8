/-
  Reference 19: Nearest.
-/
import Derived.Test.YtpiigmhbbcjamaaGreatRcd
namespace Go.Proofs.YtpiigmhbbcjamaaGreat
section
open Go.RowKit
set_option linter.unusedVariables false
set_option linter.unusedSimpArgs false
attribute [local go_sem ↓] Go.wp_at_zero Go.wp_at_succ

def neB0 (L : List (List Bx)) : NeS := ⟨clOf L 0 1, (sqAt L 0 1).n⟩
def neM (L : List (List Bx)) (n i : Nat) : NeS := (List.range i).foldl (fun s j => rowN L s j n) (neB0 L)
theorem neM_succ (L : List (List Bx)) (n i : Nat) : neM L n (i + 1) = rowN L (neM L n i) i n := by
  unfold neM
  rw [List.range_succ, List.foldl_append]
  rfl
theorem neM_row {L : List (List Bx)} (h0 : 0 ≤ (sqAt L 0 1).n) : ∀ d, rowN L (neB0 L) 0 (2 + d) = rowN L neS0 0 (2 + d)
  | 0 => by
    have e1 := rowN_succ L (neB0 L) 0 1 (by omega)
    have e2 := rowN_succ L neS0 0 1 (by omega)
    rw [rowN_low L _ 0 1 (by omega)] at e1 e2
    have e3 : stN L (neB0 L) 0 1 = neB0 L := stN_no (s := neB0 L) (by show ¬ (sqAt L 0 1).n < 0; omega) (by show ¬ (sqAt L 0 1).n < (sqAt L 0 1).n; omega)
    have e4 : stN L neS0 0 1 = neB0 L := stN_yes (s := neS0) (Or.inl (by decide))
    exact (e1.trans e3).trans (e2.trans e4).symm
  | d + 1 => by
    have e1 := rowN_succ L (neB0 L) 0 (2 + d) (by omega)
    have e2 := rowN_succ L neS0 0 (2 + d) (by omega)
    rw [neM_row h0 d] at e1
    exact e1.trans e2.symm
theorem neM_eq {L : List (List Bx)} {n : Nat} (hn : 2 ≤ n) (h0 : 0 ≤ (sqAt L 0 1).n) : ∀ i, neM L n (i + 1) = neN L n (i + 1)
  | 0 => by
    rw [neM_succ, neN_succ]
    obtain ⟨d, rfl⟩ : ∃ d, n = 2 + d := ⟨n - 2, by omega⟩
    exact neM_row h0 d
  | i + 1 => by
    rw [neM_succ, neN_succ, neM_eq hn h0 i]
theorem stN_lt {L : List (List Bx)} {s : NeS} {i k : Nat} (h1 : (sqAt L i k).n < s.n) : stN L s i k = ⟨⟨i, k, (sqAt L i k).p, (sqAt L i k).q⟩, (sqAt L i k).n⟩ := stN_yes (Or.inr h1)
theorem stN_ge {L : List (List Bx)} {s : NeS} {i k : Nat} (h0 : 0 ≤ s.n) (h1 : ¬ (sqAt L i k).n < s.n) : stN L s i k = s := stN_no (by omega) h1
set_option maxRecDepth 100000 in
set_option maxHeartbeats 8000000 in
theorem rnearest19_any (v vr : Value) (l : List BarD) (rs : List RunD) (w : World) (hp : Bars w v l) (hr : Runs w vr rs) (hl : l.length ≤ 140737488355328) (h : laidOk l rs = true) (hn2 : 2 ≤ (lgsOf l rs).length) :
    Calls Tryz.prog 29 #[v, vr] w fun e w' => e = .returned (.tuple #[clv (neN (lgsOf l rs) (lgsOf l rs).length (lgsOf l rs).length).x, .int .i64 (neN (lgsOf l rs) (lgsOf l rs).length (lgsOf l rs).length).n]) ∧ Below w.heap.size w w' := by
  obtain ⟨s1, s2, s3, s4, s5⟩ := laid_sum h
  have hz := lzOk_of h
  have hLs := hz.small
  have hn : sumC rs = ((lgsOf l rs).length : Int) := by rw [lgsOf_len]; exact s1.symm
  have HB0 := Lib.hid (below_new w (.cells z8 45))
  have HX0 := Lib.hid (BlkIs.new w z8 45)
  have HCN := Lib.hid (fun W (hW : Below w.heap.size w W) => rcount_any vr rs W (hr.below hW) (by omega) s4)
  rw [hn] at HCN
  have HOF := Lib.hid (fun (i k : Nat) W (hW : Below w.heap.size w W) (hi : i < (lgsOf l rs).length) (hk : k < (lgsOf l rs).length) => rof19_any v vr l rs i k W (hp.below hW) (hr.below hW) hl h (by rw [← lgsOf_len]; exact hi) (by rw [← lgsOf_len]; exact hk))
  have HBD := Lib.hid (fun (i k : Nat) (hi : i < (lgsOf l rs).length) (hk : k < (lgsOf l rs).length) => (sqAt_bd hz hi hk).1)
  have HFE : Hid (neM (lgsOf l rs) (lgsOf l rs).length (lgsOf l rs).length = neN (lgsOf l rs) (lgsOf l rs).length (lgsOf l rs).length) := by
    obtain ⟨m, hm⟩ : ∃ m, (lgsOf l rs).length = m + 1 := ⟨(lgsOf l rs).length - 1, by omega⟩
    have := neM_eq (L := lgsOf l rs) (n := (lgsOf l rs).length) hn2 ((sqAt_bd hz (by omega) (by omega)).1) m
    rw [← hm] at this
    exact this
  rw [← HFE.out]
  have HCL : Hid (∀ i k : Nat, clOf (lgsOf l rs) i k = ⟨i, k, (sqAt (lgsOf l rs) i k).p, (sqAt (lgsOf l rs) i k).q⟩) := fun _ _ => rfl
  generalize lgsOf l rs = L at *
  clear hp hr h hz hn s1 s2 s3 s4 s5 HFE
  have HOF0 := Lib.hid (fun W hW => HOF.out 0 1 W hW (by omega) (by omega))
  have HB01 := Lib.hid (HBD.out 0 1 (by omega) (by omega))
  have HM0 : Hid (neM L L.length 0 = ⟨clOf L 0 1, (sqAt L 0 1).n⟩) := rfl
  generalize clOf L 0 1 = c0 at *
  generalize (sqAt L 0 1).n = n0 at *
  go_enter Tryz.func29, Tryz.ntmps29
  go_wp2_with fail
  refine (HCN.out _ HB0.out).mono ?_
  rintro e w0 ⟨rfl, rfl⟩
  clear HCN
  go_wp2_with fail
  refine (HOF0.out _ HB0.out).mono ?_
  rintro e w1 ⟨rfl, hb1⟩
  have HX1 := Lib.hid (HX0.out.below hb1)
  have HB1 := Lib.hid (bstep HB0.out hb1)
  have HN0 : Hid (NeB w1 c0 (w1.alloc (.cells (clA c0) 45))) := ⟨below_new w1 _, BlkIs.new w1 _ _⟩
  clear hb1 HB0 HX0 HOF0
  go_wp2_with fail
  go_loopw [8, 9] (fun o x wr => ∃ i : Nat, i ≤ L.length ∧ x = .int .i64 (i : Int) ∧ o = .int .i64 (neM L L.length i).n ∧ NeB w1 (neM L L.length i).x wr ∧ 0 ≤ (neM L L.length i).n) (fun _ x _ => L.length - (intOf x).toNat)
  case atStart => exact ⟨0, Nat.zero_le _, rfl, by rw [HM0.out], by rw [HM0.out]; exact HN0.out, by rw [HM0.out]; exact HB01.out⟩
  case round =>
    clear HN0 HM0 HB01
    obtain ⟨i, hi, rfl, rfl, hNr, hge⟩ := hrel
    obtain ⟨wo, rfl⟩ : ∃ wo : World, wo = wr := ⟨_, rfl⟩
    have HNo := Lib.hid hNr
    clear hNr
    by_cases hi2 : i < L.length
    · have HES := Lib.hid (neM_succ L L.length i)
      have HE0 := Lib.hid (rowN_low L (neM L L.length i) i (i + 1) (Nat.le_refl _))
      generalize neM L L.length i = E0 at *
      have hw1 : IntKind.i64.wrap ((i : Int) + 1) = (i : Int) + 1 := IntWalk.i64_in _ (by omega)
      go_wp2_with fail
      go_loopw [8, 10] (fun o x wr => ∃ k : Nat, i + 1 ≤ k ∧ k ≤ L.length ∧ x = .int .i64 (k : Int) ∧ o = .int .i64 (rowN L E0 i k).n ∧ NeB w1 (rowN L E0 i k).x wr ∧ 0 ≤ (rowN L E0 i k).n) (fun _ x _ => L.length - (intOf x).toNat)
      case atStart => exact ⟨i + 1, by omega, by omega, by go_num, by rw [HE0.out], by rw [HE0.out]; exact HNo.out, by rw [HE0.out]; exact hge⟩
      case round =>
        clear HNo HE0 hge
        obtain ⟨k, hik, hk, rfl, rfl, hNr, hge⟩ := hrel
        have HN := Lib.hid hNr
        clear hNr
        by_cases hk2 : k < L.length
        · have HSN := Lib.hid (rowN_succ L E0 i k (by omega))
          have HC := Lib.hid (HOF.out i k wr (bstep HB1.out HN.out.below) hi2 hk2)
          have hsb := HBD.out i k hi2 hk2
          generalize rowN L E0 i k = st at *
          have HY := Lib.hid (stN_lt (L := L) (s := st) (i := i) (k := k))
          have HNn := Lib.hid (stN_ge (L := L) (s := st) (i := i) (k := k) hge)
          rw [HCL.out i k] at HC
          generalize sqAt L i k = sq at *
          obtain ⟨n, P, Q⟩ := sq
          simp only at HC HY HNn hsb
          go_wp2_with fail
          refine HC.out.mono ?_
          rintro e w2 ⟨rfl, hb2⟩
          have HM := Lib.hid (HN.out.after hb2)
          have HXC := Lib.hid (BlkIs.new w2 (clA ⟨i, k, P, Q⟩) 45)
          have HN1 := Lib.hid (HM.out.after (below_new w2 (.cells (clA ⟨i, k, P, Q⟩) 45)))
          have hg1 : w1.heap.size < w2.heap.size := HM.out.best.lt
          clear hb2 HC HM
          by_cases h1 : n < st.n
          · have HST := Lib.hid (HSN.out.trans (HY.out (by omega)))
            clear HSN HY HNn
            have e1 : decide (n < st.n) = true := dec_yes h1
            obtain ⟨y0, hY⟩ : ∃ y, (w2.alloc (.cells (clA ⟨i, k, P, Q⟩) 45)) = y := ⟨_, rfl⟩
            rw [hY] at HN1 HXC
            have m0 := HN1.out.best.cell 0
            have m1 := HN1.out.best.cell 1
            have m2 := HN1.out.best.cell 2
            have m3 := HN1.out.best.cell 3
            have m4 := HN1.out.best.cell 4
            have m5 := HN1.out.best.cell 5
            have m6 := HN1.out.best.cell 6
            have m7 := HN1.out.best.cell 7
            have p0 := HXC.out.cell 0
            have p1 := HXC.out.cell 1
            have p2 := HXC.out.cell 2
            have p3 := HXC.out.cell 3
            have p4 := HXC.out.cell 4
            have p5 := HXC.out.cell 5
            have p6 := HXC.out.cell 6
            have p7 := HXC.out.cell 7
            have ef := HN1.out.best.free
            have ez := HN1.out.best.lt
            have ez2 := HXC.out.lt
            have HN4 := Lib.hid (HN1.out.put8 ⟨i, k, P, Q⟩)
            clear HN1 HXC
            go_wp2
            go_roundw
            case rel => exact ⟨k + 1, by omega, by omega, by go_num, by rw [HST.out], by rw [HST.out]; exact HN4.out, by rw [HST.out]; exact hsb⟩
            case measure => simp [intOf]; omega
          · have HST := Lib.hid (HSN.out.trans (HNn.out (by omega)))
            clear HSN HY HNn
            have e1 : decide (n < st.n) = false := dec_no h1
            go_wp2
            go_roundw
            case rel => exact ⟨k + 1, by omega, by omega, by go_num, by rw [HST.out], by rw [HST.out]; exact HN1.out, by rw [HST.out]; exact hge⟩
            case measure => simp [intOf]; omega
        · obtain rfl : k = L.length := by omega
          go_wp2
          go_roundw
          case rel => exact ⟨i + 1, by omega, by go_num, by rw [HES.out], by rw [HES.out]; exact HN.out, by rw [HES.out]; exact hge⟩
          case measure => simp [intOf]; omega
    · obtain rfl : i = L.length := by omega
      have hz : w.heap.size < w1.heap.size := HX1.out.lt
      have HX2 := Lib.hid (HX1.out.below HNo.out.below)
      have HB2 := Lib.hid (bstep HB1.out HNo.out.below)
      have e0 := HNo.out.best.cell 0
      have e1 := HNo.out.best.cell 1
      have e2 := HNo.out.best.cell 2
      have e3 := HNo.out.best.cell 3
      have e4 := HNo.out.best.cell 4
      have e5 := HNo.out.best.cell 5
      have e6 := HNo.out.best.cell 6
      have e7 := HNo.out.best.cell 7
      have f0 := HX2.out.cell 0
      have f1 := HX2.out.cell 1
      have f2 := HX2.out.cell 2
      have f3 := HX2.out.cell 3
      have f4 := HX2.out.cell 4
      have f5 := HX2.out.cell 5
      have f6 := HX2.out.cell 6
      have f7 := HX2.out.cell 7
      have ef := HX2.out.free
      have ez := HX2.out.lt
      have eb := HNo.out.best.lt
      go_wp2
      exact bodyPost_ret (v := .tuple #[clv (neM L L.length L.length).x, .int .i64 (neM L L.length L.length).n]) (by simp [results, Tryz.results29, go_sem, f0, f1, f2, f3, f4, f5, f6, f7]) rfl ⟨rfl, wbelow_set8 HB2.out (Nat.le_refl _) (neM L L.length L.length).x⟩
end
end Go.Proofs.YtpiigmhbbcjamaaGreat
