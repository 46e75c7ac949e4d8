/-
  Reference 08: Loop.
-/
import Derived.Test.YthhhcaleoiopgaaRdF
import Derived.Test.YthhhcaleoiopgaaRdC
import Derived.Test.YthhhcaleoiopgaaRcB
namespace Go.Proofs.Ythhhcaleoiopgaa
open Go.RowKit
set_option linter.unusedVariables false
attribute [local go_sem ↓] Go.wp_at_zero Go.wp_at_succ

def conv (n : Nat) (m : Int) : Int := if m < 0 then (n : Int) + 1 else m
def toL (es : List (Nat × Nat)) (s i : Nat) : List Nat := (List.range i).filter (toB es s)
theorem toL_all (n : Nat) (es : List (Nat × Nat)) (s : Nat) : toL es s n = nextsS n es s := rfl
theorem toL_bd {n b : Nat} {es : List (Nat × Nat)} {d : Nat → Int} (hd : IsFar es b d) (he : EndsD n es) {s i : Nat} (hi : i ≤ n) : leastM d (toL es s i) < n := by
  rcases leastM_is d (toL es s i) with h | ⟨_, k, hk, h⟩
  · omega
  · have hkn : k < n := by
      unfold toL at hk
      have := List.mem_range.1 (List.mem_filter.1 hk).1
      omega
    have := far_lt hd he hkn
    omega
theorem conv_step {n b : Nat} {es : List (Nat × Nat)} {d : Nat → Int} (hd : IsFar es b d) (he : EndsD n es) {s i : Nat} (hi : i < n) :
    conv n (leastM d (toL es s (i + 1))) = if toB es s i = true ∧ farW n d i < conv n (leastM d (toL es s i)) then farW n d i else conv n (leastM d (toL es s i)) := by
  have hb := toL_bd hd he (s := s) (i := i) (by omega)
  have hdi := far_lt hd he hi
  obtain ⟨m, hm⟩ : ∃ m, leastM d (toL es s i) = m := ⟨_, rfl⟩
  have e : toL es s (i + 1) = toL es s i ++ (if toB es s i then [i] else []) := by unfold toL; rw [filt_succ]
  rw [e]
  rw [hm] at hb ⊢
  cases hq : toB es s i
  · simp [hm]
  · simp only [if_true, leastM_snoc, hm, true_and]
    by_cases h1 : 0 ≤ d i
    · have f1 : farW n d i = d i := if_pos h1
      have f4 : conv n (d i) = d i := if_neg (by omega)
      by_cases h2 : m < 0
      · have f2 : leastStep d m i = d i := if_pos ⟨h1, .inl h2⟩
        have f3 : conv n m = (n : Int) + 1 := if_pos h2
        rw [f2, f1, f3, f4, if_pos (by omega)]
      · have f3 : conv n m = m := if_neg h2
        by_cases h3 : d i < m
        · have f2 : leastStep d m i = d i := if_pos ⟨h1, .inr h3⟩
          rw [f2, f1, f3, f4, if_pos h3]
        · have f2 : leastStep d m i = m := if_neg (fun h => by rcases h.2 with h | h <;> omega)
          rw [f2, f1, f3, if_neg h3]
    · have f1 : farW n d i = (n : Int) + 1 := if_neg h1
      have f2 : leastStep d m i = m := if_neg (fun h => h1 h.1)
      have f3 : conv n m ≤ (n : Int) + 1 := by unfold conv; split <;> omega
      rw [f2, f1, if_neg (by omega)]
theorem farW_eq {n : Nat} {d : Nat → Int} {q : Nat} {F : Int} (h0 : 0 ≤ F) (h1 : F ≤ n) : (farW n d q == F) = (d q == F) := by
  unfold farW
  by_cases h : 0 ≤ d q
  · rw [if_pos h]
  · rw [if_neg h, beq_no (by omega), beq_no (by omega)]

def RLoopPost (w : World) (n : Nat) (es : List (Nat × Nat)) (e : Ending) (w' : World) : Prop :=
  ∃ u, e = .returned u ∧ Own w' w.heap.size 3 natf u ((loopOf n es).getD []) ∧ Below w.heap.size w w'

set_option maxRecDepth 100000 in
set_option maxHeartbeats 4000000 in
theorem rloop_any (n : Nat) (v : Value) (es : List (Nat × Nat)) (w : World) (hg : Dg w n v es) :
    Calls Try.prog 39 #[.int .i64 (n : Int), v] w (RLoopPost w n es) := by
  have hn60 := hg.n_le
  have hm := hg.m_le
  have HG := Lib.hid hg
  obtain ⟨eao, ecap, rfl, _⟩ := hg.pairs.open_
  have hn1 : wrap64 ((n : Int) + 1) = (n : Int) + 1 := IntWalk.wrap64_in _ (by omega)
  clear hg
  go_enter Try.func39, Try.ntmps39
  go_wp2_with fail
  go_loopw [5, 6, 7, 8, 9] (fun s5 _ _ _ _ wr => ∃ s : Nat, s ≤ n ∧ s5 = .int .i64 (s : Int) ∧ Hid (loopFrom n es s = none ∧ Below w.heap.size w wr)) (fun s5 _ _ _ _ _ => n - (intOf s5).toNat)
  case atStart => exact ⟨0, Nat.zero_le _, rfl, rfl, Below.refl _ _⟩
  case round =>
    obtain ⟨s, hs, rfl, H⟩ := hrel
    by_cases hlt : s < n
    · have HFA := Lib.hid (rfar_any n s _ es wr (HG.out.below H.out.2) hlt)
      have HD := Lib.hid (all_far n es s hlt)
      obtain ⟨d, hd⟩ : ∃ d, farD es s = d := ⟨_, rfl⟩
      have HDD := Lib.hid hd
      rw [hd] at HFA HD
      have s0 : (0 : Int) ≤ (s : Int) := Int.natCast_nonneg _
      have s1 : (s : Int) < (n : Int) := by omega
      obtain ⟨wo, rfl⟩ : ∃ wo : World, wo = wr := ⟨_, rfl⟩
      clear hd
      go_wp2_with fail
      refine HFA.out.mono ?_
      rintro e w2 ⟨rfl, ho2, hb2⟩
      have HO2 := Lib.hid ho2
      have HB2 := Lib.hid (bstep H.out.2 hb2)
      have HNX := Lib.hid (rnext_any n s _ es w2 (HG.out.below HB2.out) (by omega))
      have hgl2 := (ho2.lt wo.heap.size rfl).2
      clear ho2 hb2 HFA
      go_wp2_with fail
      refine HNX.out.mono ?_
      rintro e w3 ⟨rfl, ho3, hb3⟩
      have HO3 := Lib.hid ho3
      have HF3 := Lib.hid (HO2.out.below hb3)
      have HB3 := Lib.hid (bstep HB2.out hb3)
      have hgl3 : wo.heap.size < w3.heap.size := by have := hb3.size; omega
      clear ho3 hb3 HNX
      go_wp2_with fail
      go_loop [7, 9] (fun s7 s9 => ∃ i : Nat, i ≤ n ∧ s9 = .int .i64 (i : Int) ∧ s7 = .int .i64 (conv n (leastM d (toL es s i)))) (fun _ s9 => n - (intOf s9).toNat)
      case atStart => exact ⟨0, Nat.zero_le _, rfl, rfl⟩
      case round =>
        obtain ⟨i, hi, rfl, rfl⟩ := hrel
        by_cases hin : i < n
        · have c1 := HO3.out.cell (fl_get (toB es s) hin)
          have c2 := HF3.out.cell (fl_get (farW n d) hin)
          unfold boolf at c1
          unfold intf at c2
          have HST := Lib.hid (conv_step HD.out HG.out.ends (s := s) hin)
          obtain ⟨m, hmm⟩ : ∃ m, conv n (leastM d (toL es s i)) = m := ⟨_, rfl⟩
          obtain ⟨z, hz⟩ : ∃ z, farW n d i = z := ⟨_, rfl⟩
          obtain ⟨bq, hbq⟩ : ∃ bq, toB es s i = bq := ⟨_, rfl⟩
          rw [hmm, hz, hbq] at HST
          rw [hbq] at c1
          rw [hz] at c2
          rw [hmm]
          have i0 : (0 : Int) ≤ (i : Int) := Int.natCast_nonneg _
          have i1 : (i : Int) < (n : Int) := by omega
          clear hmm hz hbq
          cases bq
          · have HN := Lib.hid (show conv n (leastM d (toL es s (i + 1))) = m by rw [HST.out]; simp)
            go_wp2
            go_round
            case rel => exact ⟨i + 1, by omega, by go_num, by rw [HN.out]⟩
            case measure => simp [intOf]; omega
          · by_cases hzm : z < m
            · have HN := Lib.hid (show conv n (leastM d (toL es s (i + 1))) = z by rw [HST.out, if_pos ⟨rfl, hzm⟩])
              go_wp2
              go_round
              case rel => exact ⟨i + 1, by omega, by go_num, by rw [HN.out]⟩
              case measure => simp [intOf]; omega
            · have HN := Lib.hid (show conv n (leastM d (toL es s (i + 1))) = m by rw [HST.out, if_neg (fun h => hzm h.2)])
              go_wp2
              go_round
              case rel => exact ⟨i + 1, by omega, by go_num, by rw [HN.out]⟩
              case measure => simp [intOf]; omega
        · obtain rfl : i = n := by omega
          rw [toL_all]
          have hlb := toL_bd HD.out HG.out.ends (s := s) (Nat.le_refl i)
          rw [toL_all] at hlb
          have hli := leastM_is d (nextsS i es s)
          obtain ⟨m, hmm⟩ : ∃ m, leastM d (nextsS i es s) = m := ⟨_, rfl⟩
          rw [hmm] at hlb hli ⊢
          have HLI := Lib.hid hli
          have HLA := Lib.hid (show loopAt i es (farD es s) s = if m < 0 then none else some (s :: loopWalk i es d m.toNat s) by unfold loopAt; rw [HDD.out, hmm])
          clear hli hmm
          by_cases hm0 : m < 0
          · have HN := Lib.hid (show loopFrom i es (s + 1) = none by rw [loopFrom, H.out.1]; show loopAt i es (farD es s) s = none; rw [HLA.out, if_pos hm0])
            have hcv : conv i m = (i : Int) + 1 := if_pos hm0
            rw [hcv]
            clear hcv
            go_wp2
            go_roundw
            case rel => exact ⟨s + 1, by omega, by go_num, HN.out, HB3.out⟩
            case measure => simp [intOf]; omega
          · rw [if_neg hm0] at HLA
            have HS1 := Lib.hid (show loopOf i es = some (s :: loopWalk i es d m.toNat s) from loopFrom_some (k := s + 1) (by rw [loopFrom, H.out.1]; exact HLA.out) i (by omega))
            have hcv : conv i m = m := if_neg hm0
            rw [hcv]
            obtain ⟨M, rfl⟩ := Int.eq_ofNat_of_zero_le (show 0 ≤ m by omega)
            have HEX : Hid (∃ k ∈ nextsS i es s, d k = (M : Int)) := by
              rcases HLI.out with h | ⟨_, k, hk, h⟩
              · omega
              · exact ⟨k, hk, h⟩
            rw [show (M : Int).toNat = M from rfl] at HS1
            have HRP0 : Hid (RP w3 (.slice (some ⟨w3.heap.size, 0, none⟩) 1 1) [s] (w3.alloc (.cells #[.int .i64 (s : Int)] 3))) := ⟨below_new _ _, own_lit w3 3 natf s w3.heap.size (Nat.le_refl _)⟩
            have hMn : M < i := by omega
            clear hcv hm0
            go_wp2_with fail
            go_loopg [8, 10, 11, 12, 13] M (fun f _ s10 s11 s12 _ wr => ∃ (x : Nat) (o : List Nat), s11 = .int .i64 (x : Int) ∧ s12 = .int .i64 (f : Int) ∧ x < i ∧ 0 < o.length ∧ o.length + f ≤ M + 1 ∧ Hid (RP w3 s10 o wr ∧ o ++ loopWalk i es d f x = s :: loopWalk i es d M s ∧ ∃ k ∈ nextsS i es x, d k = (f : Int)))
            case atStart => exact ⟨s, [s], rfl, rfl, hlt, by simp, by simp; omega, HRP0.out, rfl, HEX.out⟩
            case round =>
              clear HRP0
              obtain ⟨x, o, rfl, rfl, hxn, hop, hol, HI⟩ := hrel
              have hlow := HI.out.1.low
              have hlows := hlow.size
              by_cases hgk : gk = 0
              · subst hgk
                have HE := Lib.hid (show o = s :: loopWalk i es d M s by have := HI.out.2.1; rw [loopWalk, List.append_nil] at this; exact this)
                have HBW := Lib.hid (bstep HB3.out hlow)
                have hws := HB3.out.size
                go_wp2
                go_ret
                refine ⟨_, rfl, ?_, HBW.out⟩
                rw [HS1.out]
                show Own _ _ _ _ _ (s :: loopWalk i es d M s)
                rw [← HE.out]
                exact HI.out.1.out_.mono hws
              · obtain ⟨f, rfl⟩ : ∃ f, gk = f + 1 := ⟨gk - 1, by omega⟩
                have hfM : f + 1 ≤ M := by omega
                have hdd : ∃ k ∈ nextsS i es x, (fun k => d k == ((f + 1 : Nat) : Int)) k = true := by
                  obtain ⟨k, hk, h⟩ := HI.out.2.2
                  exact ⟨k, hk, by simpa using h⟩
                obtain ⟨j, k, hj, hpk, hno, hfind⟩ := find_at hdd
                have hpk' : d k = ((f + 1 : Nat) : Int) := by simpa using hpk
                have hmem := nextsS_mem.1 (List.mem_of_getElem? hj)
                have hkn := hmem.1
                have HST := Lib.hid (show (o ++ [k]) ++ loopWalk i es d f k = s :: loopWalk i es d M s by
                  have := HI.out.2.1
                  rw [loopWalk_step hfind] at this
                  rw [List.append_assoc]; exact this)
                have HNE : Hid (∃ k' ∈ nextsS i es k, d k' = (f : Int)) := by
                  rcases HD.out.from_ k with h | ⟨_, h⟩ | ⟨_, k', h1, h2⟩
                  · omega
                  · omega
                  · exact ⟨k', nextsS_mem.2 ⟨(HG.out.ends.mem h1).2, h1⟩, by omega⟩
                have HDN2 := Lib.hid (downF_nexts x hfind)
                have HNC := Lib.hid (rnext_any i x _ es wr (HG.out.below (bstep HB3.out hlow)) (by omega))
                have hF0 : (0 : Int) ≤ ((f + 1 : Nat) : Int) := by omega
                have hF1 : (0 : Int) < ((f + 1 : Nat) : Int) := by omega
                have hF2 : ((f + 1 : Nat) : Int) ≤ (i : Int) := by omega
                obtain ⟨F, hFe⟩ : ∃ F : Int, ((f + 1 : Nat) : Int) = F := ⟨_, rfl⟩
                rw [hFe] at hF0 hF1 hF2 HDN2 ⊢
                have HFE := Lib.hid (show F - 1 = (f : Int) by omega)
                clear hdd hj hpk hpk' hno hfind hmem hFe
                obtain ⟨wq, rfl⟩ : ∃ wq : World, wq = wr := ⟨_, rfl⟩
                go_wp2_with fail
                refine HNC.out.mono ?_
                rintro e w4 ⟨rfl, ho4, hb4⟩
                have HO4 := Lib.hid ho4
                clear HNC ho4
                go_wp2_with fail
                go_loop [11, 13] (fun s11 s13 => ∃ t : Nat, t ≤ i ∧ s13 = .int .i64 ((t : Int) - 1) ∧ s11 = .int .i64 ((downF (fun q => toB es x q && (d q == F)) i t x : Nat) : Int)) (fun _ s13 => (intOf s13 + 1).toNat)
                case atStart => exact ⟨i, Nat.le_refl _, rfl, by rw [downF_top]⟩
                case round =>
                  obtain ⟨t, hti, rfl, rfl⟩ := hrel
                  by_cases ht0 : t = 0
                  · subst ht0
                    rw [HDN2.out]
                    have e01 : (((0 : Nat) : Int) - 1) = -1 := rfl
                    rw [e01]
                    have hlen1 : o.length + 1 ≤ 1099511627776 := by omega
                    have hbase : w3.heap.size ≤ w4.heap.size := by have := hb4.size; omega
                    have HP4 : Hid (RP w3 u10 o w4) := ⟨bstep hlow hb4, HI.out.1.out_.below hb4⟩
                    have k0 : (0 : Int) ≤ (k : Int) := Int.natCast_nonneg _
                    have k1 : (k : Int) < (i : Int) := by omega
                    clear e01
                    go_wp2_with (at_builtin; refine wpList_push w4 rfl _ _ 23 rfl 3 8 elemInt w3.heap.size natf _ o k rfl HP4.out.out_ rfl rfl hlen1 (by omega) hbase ?_; intro v' w' hown' hg' hat'; have HP5 : Hid (RP w3 v' (o ++ [k]) w') := ⟨below_grown HP4.out.low hg' HP4.out.low.size (fun g e => (HP4.out.out_.lt g e).1), hown'⟩)
                    go_roundg f
                    case measure => omega
                    case rel => exact ⟨k, o ++ [k], rfl, by rw [HFE.out], hkn, by simp, by simp; omega, HP5.out, HST.out, HNE.out⟩
                  · obtain ⟨t, rfl⟩ : ∃ t', t = t' + 1 := ⟨t - 1, by omega⟩
                    have e1 : ((t + 1 : Nat) : Int) - 1 = (t : Int) := by omega
                    rw [e1]
                    have HSD := Lib.hid (downF_step (fun q => toB es x q && (d q == F)) x (show t < i by omega))
                    have c1 := HO4.out.cell (fl_get (toB es x) (show t < i by omega))
                    unfold boolf at c1
                    have c2 := ((bstep hlow hb4).cell (p := ⟨wo.heap.size, t, none⟩) (show wo.heap.size < w3.heap.size from hgl3)).trans (HF3.out.cell (fl_get (farW i d) (show t < i by omega)))
                    unfold intf at c2
                    have HZE := Lib.hid (farW_eq (d := d) (q := t) hF0 hF2)
                    obtain ⟨z, hz⟩ : ∃ z, farW i d t = z := ⟨_, rfl⟩
                    rw [hz] at HZE c2
                    have t0 : (0 : Int) ≤ (t : Int) := Int.natCast_nonneg _
                    have t1 : (t : Int) < (i : Int) := by omega
                    obtain ⟨dn, hdn⟩ : ∃ dn, downF (fun q => toB es x q && (d q == F)) i (t + 1) x = dn := ⟨_, rfl⟩
                    rw [hdn] at HSD ⊢
                    obtain ⟨bq, hbq⟩ : ∃ bq, toB es x t = bq := ⟨_, rfl⟩
                    rw [hbq] at c1
                    have HBQ := Lib.hid hbq
                    clear hz hdn hbq
                    cases bq
                    · have HN := Lib.hid (show downF (fun q => toB es x q && (d q == F)) i t x = dn by rw [HSD.out, if_neg (by simp only [HBQ.out, Bool.false_and]; decide)])
                      go_wp2
                      go_round
                      case rel => exact ⟨t, by omega, rfl, by rw [HN.out]⟩
                      case measure => simp [intOf]
                    · by_cases hzr : z = F
                      · have hq := beq_yes hzr
                        have HN := Lib.hid (show downF (fun q => toB es x q && (d q == F)) i t x = t by rw [HSD.out, if_pos (by simp only [HBQ.out, ← HZE.out, Bool.true_and]; exact hq)])
                        clear hzr
                        go_wp2
                        go_round
                        case rel => exact ⟨t, by omega, rfl, by rw [HN.out]⟩
                        case measure => simp [intOf]
                      · have hq := beq_no hzr
                        have HN := Lib.hid (show downF (fun q => toB es x q && (d q == F)) i t x = dn by rw [HSD.out, if_neg (by simp only [← HZE.out, hq, Bool.and_false]; decide)])
                        clear hzr
                        go_wp2
                        go_round
                        case rel => exact ⟨t, by omega, rfl, by rw [HN.out]⟩
                        case measure => simp [intOf]
    · obtain rfl : s = n := by omega
      have HR0 := Lib.hid (show loopOf s es = none from H.out.1)
      go_wp2
      go_ret
      refine ⟨_, rfl, ?_, H.out.2⟩
      rw [HR0.out]
      exact Own.nil _ _ _ _
end Go.Proofs.Ythhhcaleoiopgaa
