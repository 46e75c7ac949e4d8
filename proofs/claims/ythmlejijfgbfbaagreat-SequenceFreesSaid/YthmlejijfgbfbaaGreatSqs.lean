/-
  The walk of SequenceFrees.
-/
import Derived.Test.YthmlejijfgbfbaaGreatSqu
namespace Go.Proofs.YthmlejijfgbfbaaGreat
section
open Go.RowKit
set_option linter.unusedVariables false
set_option linter.unusedSimpArgs false
attribute [local go_sem ↓] Go.wp_at_zero Go.wp_at_succ

/-- Both answer the same. -/
def FrAns (w : World) (O : List Nat) (A : List Int) (c : Int) (e : Ending) (w' : World) : Prop := ∃ o a, e = .returned (.tuple #[o, a, .int .i64 c]) ∧ Nats w' o O ∧ Ints w' a A ∧ Below w.heap.size w w'
theorem free_same (v vr : Value) (l : List BarD) (rs : List RunD) (w : World) (hA : SqA w v vr l rs) :
    ∃ O A c, (List.length O ≤ 1000 ∧ List.length A ≤ 1000) ∧ (∀ W, Below w.heap.size w W → Calls Tryz.prog 46 #[v, vr] W (FrAns W O A c)) ∧ (∀ W, Below w.heap.size w W → Calls Tryz.prog 47 #[v, vr] W (FrAns W O A c)) := by
  cases hok : laidOk l rs with
  | false =>
    refine ⟨[], [], 1, by simp, fun W hW => (sfree_bad v vr l rs W (hA.below hW) hok).mono ?_, fun W hW => (rfree_bad v vr l rs W (hA.below hW) hok).mono ?_⟩
    all_goals
      rintro e w' ⟨rfl, hb⟩
      exact ⟨_, _, rfl, Sl.nil _ _ _ _, Sl.nil _ _ _ _, hb⟩
  | true =>
    cases hf : freeTo (lgsOf l rs) (szsOf l rs) (lgsOf l rs).length (lgsOf l rs).length with
    | none =>
      refine ⟨[], [], 23, by simp, fun W hW => (sfree_good v vr l rs W (hA.below hW) hok).mono ?_, fun W hW => (rfree_good v vr l rs W (hA.below hW) hok).mono ?_⟩
      all_goals
        rintro e w' (⟨s, o, a, h1, _⟩ | ⟨_, rfl, hb⟩)
        · rw [hf] at h1; cases h1
        · exact ⟨_, _, rfl, Sl.nil _ _ _ _, Sl.nil _ _ _ _, hb⟩
    | some s =>
      have I := frI_all _ s hf
      have h14 := hA.h14 hok
      refine ⟨s.ord.reverse, s.ax, 0, ⟨by rw [List.length_reverse]; have := I.olen; omega, by have := I.alen; omega⟩, fun W hW => (sfree_good v vr l rs W (hA.below hW) hok).mono ?_, fun W hW => (rfree_good v vr l rs W (hA.below hW) hok).mono ?_⟩
      all_goals
        rintro e w' (⟨s', o, a, h1, rfl, h3, h4, h5⟩ | ⟨h1, _⟩)
        · rw [hf] at h1; cases h1; exact ⟨o, a, rfl, h3.sl, h4.sl, h5⟩
        · rw [hf] at h1; cases h1
set_option maxRecDepth 100000 in
set_option maxHeartbeats 8000000 in
theorem sequenceFrees_walk (w : World) (v : Value) (l : List BarD) (hp : Bars w v l) (hf : FitB l) (hl : l.length * 64 ≤ 140737488351232) (vr : Value) (rs : List RunD) (hr : Runs w vr rs) (hm : ∀ r ∈ rs, r.mark.size ≤ maxLen) (hlr : rs.length * 88 ≤ 140737488351232) :
    Calls Tryz.prog 11 #[v, vr] w fun en w' => en = .returned (.bool true) ∧ Below w.heap.size w w' := by
  have hl2 : l.length ≤ 140737488355328 := by omega
  have hlr2 : rs.length ≤ 140737488355328 := by omega
  have HP := Lib.hid hp
  have HR := Lib.hid hr
  have HFI := Lib.hid hf
  have HSM := Lib.hid (fun W (hW : Below w.heap.size w W) => ssmall_any v vr l rs W (hp.below hW) (hr.below hW) hl2 hlr2)
  clear hp hr hf hl hlr hm
  go_enter Tryz.func11, Tryz.ntmps11
  go_wp2_with fail
  refine (sawake_any _).mono ?_
  rintro en w1 ⟨rfl, hb1⟩
  have HW1 := Lib.hid hb1
  clear hb1
  go_wp2_with fail
  refine (HSM.out _ HW1.out).mono ?_
  rintro en w2 ⟨b, rfl, hb2, hq2⟩
  have HW2 := Lib.hid (bstep HW1.out hb2)
  have HQ2 := Lib.hid hq2
  clear hb2 hq2 HW1 HSM
  cases b
  · go_wp2
    go_ret
    exact ⟨rfl, HW2.out⟩
  · have HA : Hid (SqA w v vr l rs) := ⟨HP.out, HR.out, hl2, hlr2, HFI.out, fun hok => fewN hok (HQ2.out (by simp))⟩
    obtain ⟨O, A, c, hlen, hF, hG⟩ := free_same v vr l rs w HA.out
    have L1 := Lib.hid hlen
    have G1 := Lib.hid hF
    have G2 := Lib.hid hG
    clear hlen hF hG HA HQ2
    go_wp2_with fail
    refine (G1.out _ HW2.out).mono ?_
    rintro en w3 ⟨o, a, rfl, ho, ha, hb⟩
    have HW3 := Lib.hid (bstep HW2.out hb)
    have O3 := Lib.hid ho
    have A3 := Lib.hid ha
    clear ho ha hb HW2 G1
    go_wp2_with fail
    refine (G2.out _ HW3.out).mono ?_
    rintro en w4 ⟨p, b, rfl, ho, ha, hb⟩
    have HW4 := Lib.hid (bstep HW3.out hb)
    have O4 := Lib.hid (Sl.below O3.out hb : Nats w4 o O)
    have A4 := Lib.hid (Sl.below A3.out hb : Ints w4 a A)
    have P4 := Lib.hid ho
    have B4 := Lib.hid ha
    clear ho ha hb HW3 G2 O3 A3
    have E4 := Lib.hid (equalN_any o p O O w4 O4.out P4.out (by have := L1.out; omega) (by have := L1.out; omega))
    rw [dec_yes rfl] at E4
    go_wp2_with fail
    refine E4.out.mono ?_
    rintro en w5 ⟨rfl, hb⟩
    have HW5 := Lib.hid (bstep HW4.out hb)
    have E5 := Lib.hid (equal_any a b A A w5 (Sl.below A4.out hb) (Sl.below B4.out hb) (by have := L1.out; omega) (by have := L1.out; omega))
    rw [dec_yes rfl] at E5
    clear hb E4 HW4 O4 A4 P4 B4
    go_wp2_with fail
    refine E5.out.mono ?_
    rintro en w6 ⟨rfl, hb⟩
    have HW6 := Lib.hid (bstep HW5.out hb)
    clear hb E5 HW5
    go_wp2
    go_ret
    exact ⟨rfl, HW6.out⟩
end
end Go.Proofs.YthmlejijfgbfbaaGreat
