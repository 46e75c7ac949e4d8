/-
  The walk of LaidBars.
-/
import Derived.Test.YtpidjgljeooblaaLlg
namespace Go.Proofs.Ytpidjgljeooblaa
open Go.RowKit
set_option linter.unusedVariables false
set_option linter.unusedSimpArgs false
attribute [local go_sem ↓] Go.wp_at_zero Go.wp_at_succ

theorem barOk_count {b : BarD} (h : barOk b = true) : 1 ≤ b.count ∧ b.count ≤ 1000 := by
  unfold barOk headB at h
  simp only [Bool.and_eq_true, decide_eq_true_eq] at h
  exact ⟨h.1.1.1.1.2, h.1.1.1.2⟩
theorem laid_bars {l : List BarD} {rs : List RunD} (h : laidOk l rs = true) : (∀ b ∈ l, 0 ≤ b.count ∧ b.count ≤ 1000) ∧ l.length ≤ 60 ∧ schedOk l = true := by
  obtain ⟨q1, q2, q3, q4⟩ := laidOk_parts h
  refine ⟨fun b hb => ?_, sched_len q1, q1⟩
  obtain ⟨i, hi, rfl⟩ := List.getElem_of_mem hb
  have := barOk_count (sched_line q1 (List.getElem?_eq_getElem hi)).1
  omega
theorem cum_place {rs : List RunD} : ∀ {n : Nat}, n < cumN rs → ∃ (k j : Nat) (r : RunD), rs[k]? = some r ∧ j < r.count.toNat ∧ n = cumN (rs.take k) + j := by
  intro n
  have key : ∀ m, m ≤ rs.length → n < cumN (rs.take m) → ∃ (k j : Nat) (r : RunD), rs[k]? = some r ∧ j < r.count.toNat ∧ n = cumN (rs.take k) + j := by
    intro m
    induction m with
    | zero => intro _ h; rw [List.take_zero] at h; simp [cumN] at h
    | succ m ih =>
      intro hm h
      obtain ⟨r, hr⟩ : ∃ y, rs[m]? = some y := ⟨_, List.getElem?_eq_getElem hm⟩
      rcases Nat.lt_or_ge n (cumN (rs.take m)) with h1 | h1
      · exact ih (by omega) h1
      · rw [cumN_snoc hr] at h
        exact ⟨m, n - cumN (rs.take m), r, hr, by omega, by omega⟩
  intro h
  refine key rs.length (Nat.le_refl _) ?_
  rw [List.take_length]; exact h

def BarPost (w : World) (rs : List RunD) (n : Nat) (e : Ending) (w' : World) : Prop := ∃ (b : BarD) (dv : Value), e = .returned (barv b dv) ∧ (laidMarks rs)[n]? = some b.mark ∧ Below w.heap.size w w'
theorem rbarm_any (v vr : Value) (l : List BarD) (rs : List RunD) (n : Nat) (w : World) (hp : Bars w v l) (hr : Runs w vr rs) (hl : l.length ≤ 140737488355328) (h : laidOk l rs = true) (hn : n < cumN rs) :
    Calls Try.prog 25 #[v, vr, .int .i64 (n : Int)] w (BarPost w rs n) := by
  obtain ⟨k, j, r, hk, hj, hij⟩ := cum_place hn
  obtain ⟨b, line, ok, turn, hat, c1, c2, hst, hpts⟩ := laid_place h hk hj
  obtain ⟨t, ht, hb, hbm⟩ := lineOf_some line
  obtain ⟨s1, s2, s3, s4, s5⟩ := laid_sum h
  obtain ⟨ao, cap, rfl⟩ := hp.at_
  obtain ⟨bb, off, rfl, hbl, x0, x1, x2, x3, uo, uc, x4, hdx⟩ := bars_get hp hb
  refine (rbar_any bb off cap vr l rs n k j r b uo uc t w hp hr hl s2 s3 hn (by omega) hk hj hij ht hb x4).mono fun e w' ⟨h1, h2⟩ => ⟨b, _, h1, ?_, h2⟩
  rw [hij, hbm]
  exact laidMarks_at hk hj

theorem field_mark (b : BarD) (dv : Value) (W : World) : (Instr.field 54 (barv b dv) 0).run Try.prog W = .ok (.string b.mark) W := by kernel_rfl
theorem eqFd_same (o o' : Value) (G : List (Int × ByteArray)) (W : World) (B B' : Nat) (h : OwnFds W B o G) (h' : OwnFds W B' o' G) (hl : G.length ≤ 140737488355328) : Calls Try.prog 23 #[o, o'] W fun e w' => e = .returned (.bool true) ∧ Below W.heap.size W w' := by
  have := eqFd_any o o' G G W (OwnN.fl fin_len h) (OwnN.fl fin_len h') hl hl
  rw [dec_yes rfl] at this
  exact this

set_option maxRecDepth 100000 in
set_option maxHeartbeats 4000000 in
theorem laidBars_walk (w : World) (v : Value) (l : List BarD) (hp : Bars w v l) (hf : FitB l) (hl : l.length * 64 ≤ 140737488351232) (vr : Value) (rs : List RunD) (hr : Runs w vr rs) (hm : ∀ r ∈ rs, r.mark.size ≤ maxLen) (hlr : rs.length * 88 ≤ 140737488351232) (i : Int) (wf : (Lit.int .i64 i).wf = true) :
    Calls Try.prog 4 #[v, vr, .int .i64 i] w fun e w' => e = .returned (.bool true) ∧ Below w.heap.size w w' := by
  have hl2 : l.length ≤ 140737488355328 := by omega
  have hlr2 : rs.length ≤ 140737488355328 := by omega
  have h64 : i ≤ 9223372036854775807 := by
    exact (Go.bounds_i64 wf).2
  have HLA := Lib.hid (fun W (hW : Below w.heap.size w W) => large_any v vr l rs W (hp.below hW) (hr.below hW) hl2 hlr2)
  have HRV := Lib.hid (fun W (hW : Below w.heap.size w W) => rlaid_any v vr l rs W (hp.below hW) (hr.below hW) hl2 hlr2 hf)
  have HLV := Lib.hid (fun W (hW : Below w.heap.size w W) => lvalid_any v vr l rs W (hp.below hW) (hr.below hW) hl2 hlr2 hf)
  have HP := Lib.hid hp
  have HR := Lib.hid hr
  have HFI := Lib.hid hf
  have HM := Lib.hid hm
  clear hp hr hf hl hlr hm wf
  cases hok : laidOk l rs with
  | false =>
    have HC := Lib.hid (fun W (hW : Below w.heap.size w W) => count_bad v vr l rs W (HP.out.below hW) (HR.out.below hW) hl2 hlr2 HFI.out hok)
    have HMK := Lib.hid (fun W (hW : Below w.heap.size w W) => mark_bad v vr i l rs W (HP.out.below hW) (HR.out.below hW) hl2 hlr2 HFI.out hok)
    have HBA := Lib.hid (fun W (hW : Below w.heap.size w W) => balance_bad v vr l rs W (HP.out.below hW) (HR.out.below hW) hl2 hlr2 HFI.out hok)
    rw [hok] at HRV HLV
    clear hok
    go_enter Try.func4, Try.ntmps4
    go_wp2_with fail
    refine (awake_any _).mono ?_
    rintro e w1 ⟨rfl, hb1⟩
    have HB1 := Lib.hid hb1
    clear hb1
    go_wp2_with fail
    refine (HLA.out _ HB1.out).mono ?_
    rintro e w2 ⟨q, rfl, hb2⟩
    have HB2 := Lib.hid (bstep HB1.out hb2)
    clear hb2
    cases q
    · go_wp2_with fail
      refine (HC.out _ HB2.out).mono ?_
      rintro e w3 ⟨rfl, hb3⟩
      have HB3 := Lib.hid (bstep HB2.out hb3)
      clear hb3
      go_wp2_with fail
      refine (HMK.out _ HB3.out).mono ?_
      rintro e w4 ⟨rfl, hb4⟩
      have HB4 := Lib.hid (bstep HB3.out hb4)
      clear hb4
      go_wp2_with fail
      refine (HBA.out _ HB4.out).mono ?_
      rintro e w5 ⟨rfl, hb5⟩
      have HB5 := Lib.hid (bstep HB4.out hb5)
      clear hb5
      go_wp2_with fail
      refine (HRV.out _ HB5.out).mono ?_
      rintro e w6 ⟨rfl, hb6⟩
      have HB6 := Lib.hid (bstep HB5.out hb6)
      clear hb6
      go_wp2_with fail
      refine (HLV.out _ HB6.out).mono ?_
      rintro e w7 ⟨rfl, hb7⟩
      have HB7 := Lib.hid (bstep HB6.out hb7)
      clear hb7
      go_wp2
      go_ret
      exact ⟨rfl, HB7.out⟩
    · go_wp2
      go_ret
      exact ⟨rfl, HB2.out⟩
  | true =>
    have HC := Lib.hid (fun W (hW : Below w.heap.size w W) => count_good v vr l rs W (HP.out.below hW) (HR.out.below hW) hl2 hlr2 HFI.out hok)
    have HMK := Lib.hid (fun W (hW : Below w.heap.size w W) => mark_good v vr i l rs W (HP.out.below hW) (HR.out.below hW) hl2 hlr2 HFI.out hok h64)
    obtain ⟨b1, b2, b3⟩ := laid_bars hok
    have HBA := Lib.hid (fun W (hW : Below w.heap.size w W) => balance_good v vr l rs W (HP.out.below hW) (HR.out.below hW) hl2 hlr2 HFI.out hok HM.out b1 b2)
    obtain ⟨s1, s2, s3, s4, s5⟩ := laid_sum hok
    have HRC := Lib.hid (fun W (hW : Below w.heap.size w W) => rcount_any vr rs W (HR.out.below hW) (by omega) s4)
    have HRB := Lib.hid (fun W (hW : Below w.heap.size w W) => rbalance_any v vr l rs W (HP.out.below hW) (HR.out.below hW) (by omega) (by omega) s3)
    have HBR := Lib.hid (fun n (hn : n < cumN rs) W (hW : Below w.heap.size w W) => rbarm_any v vr l rs n W (HP.out.below hW) (HR.out.below hW) hl2 hok hn)
    have HBE := Lib.hid (bal_eq rs b3)
    have HFL : Hid ((l.flatMap (findR rs)).length ≤ 140737488355328) := by have := findR_len rs l; unfold Hid; omega
    rw [HBE.out] at HBA
    rw [hok] at HRV HLV
    rw [← s1] at HRC
    have hc0 : (0 : Int) ≤ (cumN rs : Int) := by omega
    have hc1 : (cumN rs : Int) ≤ 2000 := by omega
    clear hok s1 s2 s3 s4 s5 b1 b2 b3 HBE
    generalize l.flatMap (findR rs) = G at *
    go_enter Try.func4, Try.ntmps4
    go_wp2_with fail
    refine (awake_any _).mono ?_
    rintro e w1 ⟨rfl, hb1⟩
    have HB1 := Lib.hid hb1
    clear hb1
    go_wp2_with fail
    refine (HLA.out _ HB1.out).mono ?_
    rintro e w2 ⟨q, rfl, hb2⟩
    have HB2 := Lib.hid (bstep HB1.out hb2)
    clear hb2
    cases q
    · go_wp2_with fail
      refine (HC.out _ HB2.out).mono ?_
      rintro e w3 ⟨rfl, hb3⟩
      have HB3 := Lib.hid (bstep HB2.out hb3)
      clear hb3
      go_wp2_with fail
      refine (HMK.out _ HB3.out).mono ?_
      rintro e w4 (⟨m, hi0, hm, rfl, hb4⟩ | ⟨hi0, rfl, hb4⟩)
      · have HB4 := Lib.hid (bstep HB3.out hb4)
        have hi1 : i < (cumN rs : Int) := by
          have := (List.getElem?_eq_some_iff.1 hm).1
          rw [laidMarks_len] at this
          omega
        obtain ⟨n, rfl⟩ : ∃ n : Nat, i = (n : Int) := ⟨i.toNat, by omega⟩
        have HMM : Hid ((laidMarks rs)[n]? = some m) := hm
        have HBN := Lib.hid (HBR.out n (by omega))
        have hn : n < cumN rs := by omega
        have dn : decide (cumN rs ≤ n) = false := dec_no (by omega)
        clear hb4 hm
        go_wp2_with fail
        refine (HBA.out _ HB4.out).mono ?_
        rintro e w5 ⟨o, rfl, ho5, hb5⟩
        have HB5 := Lib.hid (bstep HB4.out hb5)
        have HO5 := Lib.hid ho5
        clear hb5 ho5
        go_wp2_with fail
        refine (HRV.out _ HB5.out).mono ?_
        rintro e w6 ⟨rfl, hb6⟩
        have HB6 := Lib.hid (bstep HB5.out hb6)
        have HO6 := Lib.hid (OwnN.below HO5.out hb6)
        clear hb6
        go_wp2_with fail
        refine (HLV.out _ HB6.out).mono ?_
        rintro e w7 ⟨rfl, hb7⟩
        have HB7 := Lib.hid (bstep HB6.out hb7)
        have HO7 := Lib.hid (OwnN.below HO6.out hb7)
        clear hb7
        go_wp2_with fail
        refine (HRC.out _ HB7.out).mono ?_
        rintro e w8 ⟨rfl, rfl⟩
        go_wp2_with fail
        refine (HRB.out _ HB7.out).mono ?_
        rintro e w9 ⟨o9, rfl, HO9, hb9⟩
        have HB9 := Lib.hid (bstep HB7.out hb9)
        have HO8 := Lib.hid (OwnN.below HO7.out hb9)
        clear hb9
        go_wp2_with fail
        refine (eqFd_same o o9 G _ _ _ HO8.out HO9.out HFL.out).mono ?_
        rintro e w10 ⟨rfl, hb10⟩
        have HB10 := Lib.hid (bstep HB9.out hb10)
        clear hb10
        go_wp2_with fail
        refine (HBN.out _ HB10.out).mono ?_
        rintro e w11 ⟨b, dv, rfl, hbm, hb11⟩
        obtain rfl : m = b.mark := Option.some.inj (HMM.out.symm.trans hbm)
        have HB11 := Lib.hid (bstep HB10.out hb11)
        have hfl : ∀ W, (Instr.field 54 (barv b dv) 0).run Try.prog W = .ok (.string b.mark) W := fun W => field_mark b dv W
        clear hb11 hbm
        go_wp2
        go_ret
        exact ⟨rfl, HB11.out⟩
      · have HB4 := Lib.hid (bstep HB3.out hb4)
        have HI := Lib.hid hi0
        clear hb4 hi0
        go_wp2_with fail
        refine (HBA.out _ HB4.out).mono ?_
        rintro e w5 ⟨o, rfl, ho5, hb5⟩
        have HB5 := Lib.hid (bstep HB4.out hb5)
        have HO5 := Lib.hid ho5
        clear hb5 ho5
        go_wp2_with fail
        refine (HRV.out _ HB5.out).mono ?_
        rintro e w6 ⟨rfl, hb6⟩
        have HB6 := Lib.hid (bstep HB5.out hb6)
        have HO6 := Lib.hid (OwnN.below HO5.out hb6)
        clear hb6
        go_wp2_with fail
        refine (HLV.out _ HB6.out).mono ?_
        rintro e w7 ⟨rfl, hb7⟩
        have HB7 := Lib.hid (bstep HB6.out hb7)
        have HO7 := Lib.hid (OwnN.below HO6.out hb7)
        clear hb7
        go_wp2_with fail
        refine (HRC.out _ HB7.out).mono ?_
        rintro e w8 ⟨rfl, rfl⟩
        go_wp2_with fail
        refine (HRB.out _ HB7.out).mono ?_
        rintro e w9 ⟨o9, rfl, HO9, hb9⟩
        have HB9 := Lib.hid (bstep HB7.out hb9)
        have HO8 := Lib.hid (OwnN.below HO7.out hb9)
        clear hb9
        go_wp2_with fail
        refine (eqFd_same o o9 G _ _ _ HO8.out HO9.out HFL.out).mono ?_
        rintro e w10 ⟨rfl, hb10⟩
        have HB10 := Lib.hid (bstep HB9.out hb10)
        clear hb10
        rcases HI.out with hi | hi
        · have d1 : decide (i < 0) = true := dec_yes hi
          go_wp2
          go_ret
          exact ⟨rfl, HB10.out⟩
        · have d1 : decide (i < 0) = false := dec_no (by omega)
          have d2 : decide ((cumN rs : Int) ≤ i) = true := dec_yes hi
          have hi3 : ¬ i < 0 := by omega
          go_wp2
          go_ret
          exact ⟨rfl, HB10.out⟩
    · go_wp2
      go_ret
      exact ⟨rfl, HB2.out⟩
end Go.Proofs.Ytpidjgljeooblaa
