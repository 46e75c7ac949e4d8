/-
  The walk of ClashSquares.
-/
import Derived.Test.YtpiigmhbbcjamaaGreatRcc
namespace Go.Proofs.YtpiigmhbbcjamaaGreat
section
open Go.RowKit
set_option linter.unusedVariables false
set_option linter.unusedSimpArgs false
attribute [local go_sem ↓] Go.wp_at_zero Go.wp_at_succ

theorem neE_zero {d e c : Int} (h : neE d e c = 0) : szB d = true ∧ szB e = true ∧ clrB c = true := by
  unfold neE at h
  split at h
  · rename_i h1
    split at h
    · rename_i h2
      exact ⟨h1.1, h1.2, h2⟩
    · cases h
  · cases h
set_option maxRecDepth 100000 in
set_option maxHeartbeats 8000000 in
theorem clashSquares_walk (w : World) (v : Value) (l : List BarD) (hp : Bars w v l) (hf : FitB l) (hl : l.length * 64 ≤ 140737488351232) (vr : Value) (rs : List RunD) (hr : Runs w vr rs) (hm : ∀ r ∈ rs, r.mark.size ≤ maxLen) (hlr : rs.length * 88 ≤ 140737488351232)
    (i : Int) (wi : (Lit.int .i64 i).wf = true) (k : Int) (wk : (Lit.int .i64 k).wf = true) (d : Int) (wd : (Lit.int .i64 d).wf = true) (e : Int) (we : (Lit.int .i64 e).wf = true) (c : Int) (wc : (Lit.int .i64 c).wf = true) :
    Calls Tryz.prog 3 #[v, vr, .int .i64 i, .int .i64 k, .int .i64 d, .int .i64 e, .int .i64 c] w fun en w' => en = .returned (.bool true) ∧ Below w.heap.size w w' := by
  have hl2 : l.length ≤ 140737488355328 := by omega
  have hlr2 : rs.length ≤ 140737488355328 := by omega
  have HP := Lib.hid hp
  have HR := Lib.hid hr
  have HFI := Lib.hid hf
  have HSM := Lib.hid (fun W (hW : Below w.heap.size w W) => rsmall19_any v vr l rs W (hp.below hW) (hr.below hW) hl2 hlr2)
  have HV := Lib.hid (fun W (hW : Below w.heap.size w W) => rlaid_any v vr l rs W (hp.below hW) (hr.below hW) hl2 hlr2 hf)
  have HND := Lib.hid (fun W => cneed_any d e c W)
  have HRI := Lib.hid (fun W => rright19_any d e c W)
  clear hp hr hf hl hm hlr wi wk wd we wc
  go_enter Tryz.func3, Tryz.ntmps3
  go_wp2_with fail
  refine (cawake_any _).mono ?_
  rintro en w1 ⟨rfl, hb1⟩
  have HW1 := Lib.hid hb1
  clear hb1
  go_wp2_with fail
  refine (HSM.out _ HW1.out).mono ?_
  rintro en w2 ⟨q, rfl, hb2, hq⟩
  have HW2 := Lib.hid (bstep HW1.out hb2)
  have HQ := Lib.hid hq
  clear hb2 hq HW1 HSM
  cases q
  · go_wp2
    go_ret
    exact ⟨rfl, HW2.out⟩
  · obtain ⟨X, Y, HSQ, HXY⟩ : ∃ X Y : Int, Hid (∀ W, Below w.heap.size w W → Calls Tryz.prog 9 #[v, vr, .int .i64 i, .int .i64 k] W fun en w' => en = .returned (.tuple #[.int .i64 X, .int .i64 Y]) ∧ Below W.heap.size W w') ∧ Hid ((laidOk l rs = false ∧ X = 0 ∧ Y = 1) ∨ (laidOk l rs = true ∧ X = sqV (lgsOf l rs) i k ∧ Y = sqE (lgsOf l rs).length i k)) := by
      cases hok : laidOk l rs
      · exact ⟨0, 1, fun W hW => csqI_bad v vr i k l rs W (HP.out.below hW) (HR.out.below hW) hl2 hlr2 HFI.out hok, Or.inl ⟨rfl, rfl, rfl⟩⟩
      · exact ⟨_, _, fun W hW => csqI_good v vr i k l rs W (HP.out.below hW) (HR.out.below hW) hl2 hlr2 HFI.out hok, Or.inr ⟨rfl, rfl, rfl⟩⟩
    go_wp2_with fail
    refine (HSQ.out _ HW2.out).mono ?_
    rintro en w3 ⟨rfl, hb3⟩
    have HW3 := Lib.hid (bstep HW2.out hb3)
    clear hb3 HW2 HSQ
    go_wp2_with fail
    refine (HND.out _).mono ?_
    rintro en w4 ⟨rfl, hb4⟩
    have HW4 := Lib.hid (bstep HW3.out hb4)
    clear hb4 HW3 HND
    go_wp2_with fail
    refine (HRI.out _).mono ?_
    rintro en w5 ⟨rfl, hb5⟩
    have HW5 := Lib.hid (bstep HW4.out hb5)
    clear hb5 HW4 HRI
    by_cases hz : neE d e c = 0
    · obtain ⟨z1, z2, z3⟩ := neE_zero hz
      have hV : neV d e c = needN d e c := if_pos hz
      have HNE := Lib.hid (fun W => rneed19_any d e c W (szB_bd z1) (szB_bd z2) (clr_yes z3))
      rw [hz, hV]
      generalize needN d e c = nd at *
      clear hV z1 z2 z3 hz
      go_wp2_with fail
      refine (HNE.out _).mono ?_
      rintro en w6 ⟨rfl, hb6⟩
      have HW6 := Lib.hid (bstep HW5.out hb6)
      clear hb6 HW5 HNE
      go_wp2_with fail
      refine (HV.out _ HW6.out).mono ?_
      rintro en w7 ⟨rfl, hb7⟩
      have HW7 := Lib.hid (bstep HW6.out hb7)
      clear hb7 HW6 HV
      rcases HXY.out with ⟨hok, rfl, rfl⟩ | ⟨hok, hX, hY⟩
      · rw [hok]
        go_wp2
        go_ret
        exact ⟨rfl, HW7.out⟩
      · obtain ⟨s1, s2, s3, s4, s5⟩ := laid_sum hok
        have hn : ((lgsOf l rs).length : Int) = sumC rs := by rw [lgsOf_len]; exact s1
        have HLI := Lib.hid (fun W (hW : Below w.heap.size w W) => rlaid19_any vr rs i W (HR.out.below hW) (by omega) s4)
        have HLK := Lib.hid (fun W (hW : Below w.heap.size w W) => rlaid19_any vr rs k W (HR.out.below hW) (by omega) s4)
        have HS2 := Lib.hid (fun (a b : Nat) W (hW : Below w.heap.size w W) (ha : a < cumN rs) (hb : b < cumN rs) => rsquare19_any v vr l rs a b W (HP.out.below hW) (HR.out.below hW) hl2 hok ha hb)
        have HXI := Lib.hid (fun h => sqE_range (n := ((lgsOf l rs).length : Int)) (i := i) (k := k) h)
        have HXT := Lib.hid (fun h h2 => sqE_twice (n := ((lgsOf l rs).length : Int)) (i := i) (k := k) h h2)
        have HXK := Lib.hid (fun h h2 => sqE_ok (n := ((lgsOf l rs).length : Int)) (i := i) (k := k) h h2)
        have HXV := Lib.hid (fun h => sqV_no (L := lgsOf l rs) (i := i) (k := k) h)
        have HXS : Hid (∀ a b : Nat, sqE (lgsOf l rs).length a b = 0 → sqV (lgsOf l rs) a b = (sqAt (lgsOf l rs) a b).n) := by
          intro a b h
          unfold sqV
          rw [if_pos h]
          rfl
        have HCU := Lib.hid s1
        rw [hok]
        rw [hn] at HXI HXT HXK
        clear s1 s2 s3 s4 s5
        by_cases hi : 0 ≤ i ∧ i < sumC rs
        · have ei : ldB rs i = true := dec_yes hi
          by_cases hk : 0 ≤ k ∧ k < sumC rs
          · have ek : ldB rs k = true := dec_yes hk
            rw [ei] at HLI
            rw [ek] at HLK
            clear ei ek
            by_cases hik : i = k
            · have hy := HXT.out (by omega) hik
              rw [hn] at hY
              obtain rfl : Y = 10 := hY.trans hy
              obtain rfl : X = 0 := hX.trans (HXV.out (by rw [hn, hy]; omega))
              subst hik
              clear hX hY hy hn hi hk hok HXY HXI HXT HXK HXV HXS HS2
              go_wp2_with fail
              refine (HLI.out _ HW7.out).mono ?_
              rintro en w8 ⟨rfl, rfl⟩
              go_wp2_with fail
              refine (HLK.out _ HW7.out).mono ?_
              rintro en w8 ⟨rfl, rfl⟩
              go_wp2
              go_ret
              exact ⟨rfl, HW7.out⟩
            · have hy := HXK.out (by omega) hik
              rw [← hn] at hy
              obtain rfl : Y = 0 := hY.trans hy
              obtain ⟨a, rfl⟩ : ∃ n : Nat, i = (n : Int) := ⟨i.toNat, by omega⟩
              obtain ⟨b, rfl⟩ : ∃ n : Nat, k = (n : Int) := ⟨k.toNat, by omega⟩
              have hab : ((a : Int) == (b : Int)) = false := beq_no hik
              have HS3 := Lib.hid (fun W hW => HS2.out a b W hW (by have := HCU.out; omega) (by have := HCU.out; omega))
              rw [← HXS.out a b hy, ← hX] at HS3
              clear hX hY hy hn hi hk hok HXY HXI HXT HXK HXV HXS HS2 hik
              go_wp2_with fail
              refine (HLI.out _ HW7.out).mono ?_
              rintro en w8 ⟨rfl, rfl⟩
              go_wp2_with fail
              refine (HLK.out _ HW7.out).mono ?_
              rintro en w8 ⟨rfl, rfl⟩
              go_wp2_with fail
              refine (HS3.out _ HW7.out).mono ?_
              rintro en w9 ⟨rfl, hb9⟩
              have HW9 := Lib.hid (bstep HW7.out hb9)
              clear hb9
              go_wp2
              go_ret
              exact ⟨rfl, HW9.out⟩
          · have ek : ldB rs k = false := dec_no hk
            have hy := HXI.out (by omega)
            rw [hn] at hY
            obtain rfl : Y = 2 := hY.trans hy
            obtain rfl : X = 0 := hX.trans (HXV.out (by rw [hn, hy]; omega))
            rw [ei] at HLI
            rw [ek] at HLK
            clear ei ek hX hY hy hn hi hk hok HXY HXI HXT HXK HXV HXS HS2
            go_wp2_with fail
            refine (HLI.out _ HW7.out).mono ?_
            rintro en w8 ⟨rfl, rfl⟩
            go_wp2_with fail
            refine (HLK.out _ HW7.out).mono ?_
            rintro en w8 ⟨rfl, rfl⟩
            go_wp2
            go_ret
            exact ⟨rfl, HW7.out⟩
        · have ei : ldB rs i = false := dec_no hi
          have hy := HXI.out (by omega)
          rw [hn] at hY
          obtain rfl : Y = 2 := hY.trans hy
          obtain rfl : X = 0 := hX.trans (HXV.out (by rw [hn, hy]; omega))
          rw [ei] at HLI
          clear ei hX hY hy hn hi hok HXY HXI HXT HXK HXV HXS HS2
          go_wp2_with fail
          refine (HLI.out _ HW7.out).mono ?_
          rintro en w8 ⟨rfl, rfl⟩
          go_wp2
          go_ret
          exact ⟨rfl, HW7.out⟩
    · have hV : neV d e c = 0 := if_neg hz
      rw [hV]
      generalize neE d e c = ne at *
      have hb : (ne != 0) = true := bne_yes hz
      clear hV
      go_wp2_with fail
      refine (HV.out _ HW5.out).mono ?_
      rintro en w7 ⟨rfl, hb7⟩
      have HW7 := Lib.hid (bstep HW5.out hb7)
      clear hb7 HW5 HV
      rcases HXY.out with ⟨hok, rfl, rfl⟩ | ⟨hok, hX, hY⟩
      · rw [hok]
        go_wp2
        go_ret
        exact ⟨rfl, HW7.out⟩
      · obtain ⟨s1, s2, s3, s4, s5⟩ := laid_sum hok
        have hn : ((lgsOf l rs).length : Int) = sumC rs := by rw [lgsOf_len]; exact s1
        have HLI := Lib.hid (fun W (hW : Below w.heap.size w W) => rlaid19_any vr rs i W (HR.out.below hW) (by omega) s4)
        have HLK := Lib.hid (fun W (hW : Below w.heap.size w W) => rlaid19_any vr rs k W (HR.out.below hW) (by omega) s4)
        have HS2 := Lib.hid (fun (a b : Nat) W (hW : Below w.heap.size w W) (ha : a < cumN rs) (hb : b < cumN rs) => rsquare19_any v vr l rs a b W (HP.out.below hW) (HR.out.below hW) hl2 hok ha hb)
        have HXI := Lib.hid (fun h => sqE_range (n := ((lgsOf l rs).length : Int)) (i := i) (k := k) h)
        have HXT := Lib.hid (fun h h2 => sqE_twice (n := ((lgsOf l rs).length : Int)) (i := i) (k := k) h h2)
        have HXK := Lib.hid (fun h h2 => sqE_ok (n := ((lgsOf l rs).length : Int)) (i := i) (k := k) h h2)
        have HXV := Lib.hid (fun h => sqV_no (L := lgsOf l rs) (i := i) (k := k) h)
        have HXS : Hid (∀ a b : Nat, sqE (lgsOf l rs).length a b = 0 → sqV (lgsOf l rs) a b = (sqAt (lgsOf l rs) a b).n) := by
          intro a b h
          unfold sqV
          rw [if_pos h]
          rfl
        have HCU := Lib.hid s1
        rw [hok]
        rw [hn] at HXI HXT HXK
        clear s1 s2 s3 s4 s5
        by_cases hi : 0 ≤ i ∧ i < sumC rs
        · have ei : ldB rs i = true := dec_yes hi
          by_cases hk : 0 ≤ k ∧ k < sumC rs
          · have ek : ldB rs k = true := dec_yes hk
            rw [ei] at HLI
            rw [ek] at HLK
            clear ei ek
            by_cases hik : i = k
            · have hy := HXT.out (by omega) hik
              rw [hn] at hY
              obtain rfl : Y = 10 := hY.trans hy
              obtain rfl : X = 0 := hX.trans (HXV.out (by rw [hn, hy]; omega))
              subst hik
              clear hX hY hy hn hi hk hok HXY HXI HXT HXK HXV HXS HS2
              go_wp2_with fail
              refine (HLI.out _ HW7.out).mono ?_
              rintro en w8 ⟨rfl, rfl⟩
              go_wp2_with fail
              refine (HLK.out _ HW7.out).mono ?_
              rintro en w8 ⟨rfl, rfl⟩
              go_wp2
              go_ret
              exact ⟨rfl, HW7.out⟩
            · have hy := HXK.out (by omega) hik
              rw [← hn] at hy
              obtain rfl : Y = 0 := hY.trans hy
              obtain ⟨a, rfl⟩ : ∃ n : Nat, i = (n : Int) := ⟨i.toNat, by omega⟩
              obtain ⟨b, rfl⟩ : ∃ n : Nat, k = (n : Int) := ⟨k.toNat, by omega⟩
              have hab : ((a : Int) == (b : Int)) = false := beq_no hik
              have HS3 := Lib.hid (fun W hW => HS2.out a b W hW (by have := HCU.out; omega) (by have := HCU.out; omega))
              rw [← HXS.out a b hy, ← hX] at HS3
              clear hX hY hy hn hi hk hok HXY HXI HXT HXK HXV HXS HS2 hik
              go_wp2_with fail
              refine (HLI.out _ HW7.out).mono ?_
              rintro en w8 ⟨rfl, rfl⟩
              go_wp2_with fail
              refine (HLK.out _ HW7.out).mono ?_
              rintro en w8 ⟨rfl, rfl⟩
              go_wp2_with fail
              refine (HS3.out _ HW7.out).mono ?_
              rintro en w9 ⟨rfl, hb9⟩
              have HW9 := Lib.hid (bstep HW7.out hb9)
              clear hb9
              go_wp2
              go_ret
              exact ⟨rfl, HW9.out⟩
          · have ek : ldB rs k = false := dec_no hk
            have hy := HXI.out (by omega)
            rw [hn] at hY
            obtain rfl : Y = 2 := hY.trans hy
            obtain rfl : X = 0 := hX.trans (HXV.out (by rw [hn, hy]; omega))
            rw [ei] at HLI
            rw [ek] at HLK
            clear ei ek hX hY hy hn hi hk hok HXY HXI HXT HXK HXV HXS HS2
            go_wp2_with fail
            refine (HLI.out _ HW7.out).mono ?_
            rintro en w8 ⟨rfl, rfl⟩
            go_wp2_with fail
            refine (HLK.out _ HW7.out).mono ?_
            rintro en w8 ⟨rfl, rfl⟩
            go_wp2
            go_ret
            exact ⟨rfl, HW7.out⟩
        · have ei : ldB rs i = false := dec_no hi
          have hy := HXI.out (by omega)
          rw [hn] at hY
          obtain rfl : Y = 2 := hY.trans hy
          obtain rfl : X = 0 := hX.trans (HXV.out (by rw [hn, hy]; omega))
          rw [ei] at HLI
          clear ei hX hY hy hn hi hok HXY HXI HXT HXK HXV HXS HS2
          go_wp2_with fail
          refine (HLI.out _ HW7.out).mono ?_
          rintro en w8 ⟨rfl, rfl⟩
          go_wp2
          go_ret
          exact ⟨rfl, HW7.out⟩
end
end Go.Proofs.YtpiigmhbbcjamaaGreat
