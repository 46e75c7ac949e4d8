/-
  The reference of ways: Given, All.
-/
import Derived.Test.YtnlloecbjohfdaaGreatRnd
import Derived.Test.YtnlloecbjohfdaaGreatBkV
import Derived.Test.YtnlloecbjohfdaaGreatRfx
namespace Go.Proofs.YtnlloecbjohfdaaGreat
section
open Go.RowKit
set_option linter.unusedVariables false
set_option linter.unusedSimpArgs false
attribute [local go_sem ↓] Go.wp_at_zero Go.wp_at_succ

/-- The error number of a bar, an axis, and the bars that are there. -/
def givE (ok : Bool) (n i x : Int) (T : List Int) : Int := if ok then othE n i x T else 1
theorem oth_pair (n i k x : Int) : othE n i x [k] = pairE n i k x := by
  by_cases h1 : i < 0 ∨ n ≤ i ∨ k < 0 ∨ n ≤ k
  · rw [pairE_range h1]
    refine othE_range ?_
    rw [List.all_eq_false]
    by_cases hi : i < 0 ∨ n ≤ i
    · exact ⟨i, by simp, by unfold inR; rw [decide_eq_true_eq]; omega⟩
    · exact ⟨k, by simp, by unfold inR; rw [decide_eq_true_eq]; omega⟩
  · have h2 : (i :: [k]).all (inR n) = true := by
      rw [List.all_eq_true]
      intro y hy
      unfold inR
      rw [decide_eq_true_eq]
      rcases List.mem_cons.1 hy with rfl | hy
      · omega
      · rw [List.mem_singleton] at hy; omega
    cases hx : axB x
    · rw [pairE_kind h1 hx, othE_kind h2 hx]
    · by_cases h3 : i = k
      · rw [pairE_twice h1 hx h3]
        refine othE_twice h2 hx ?_
        rw [h3]; simp
      · rw [pairE_ok h1 hx h3]
        refine othE_ok h2 hx ?_
        simp [h3]
theorem twice_at {i : Int} {T : List Int} {k : Nat} {x : Int} (hk : T[k]? = some x) (h : x = i ∨ ∃ j, j < k ∧ T[j]? = some x) : ¬ (i :: T).Nodup := by
  intro hd
  rw [List.nodup_cons] at hd
  rcases h with rfl | ⟨j, hj, hx⟩
  · exact hd.1 (List.mem_of_getElem? hk)
  · have h1 := (List.getElem?_eq_some_iff.1 hk).1
    have := (List.getElem?_inj (i := k) (j := j) h1 hd.2).1 (hk.trans hx.symm)
    omega
/-- The first k are apart, and none is i. -/
def Apart (i : Int) (T : List Int) (k : Nat) : Prop := ∀ (a : Nat) x, a < k → T[a]? = some x → x ≠ i ∧ ∀ (b : Nat), b < a → T[b]? ≠ some x
theorem apart_all {i : Int} {T : List Int} (h : Apart i T T.length) : (i :: T).Nodup := by
  rw [List.nodup_cons]
  constructor
  · intro hm
    obtain ⟨a, ha, hx⟩ := List.mem_iff_getElem.1 hm
    exact (h a i ha (by rw [List.getElem?_eq_getElem ha, hx])).1 rfl
  · unfold List.Nodup
    rw [List.pairwise_iff_getElem]
    intro a b ha hb hab e
    exact (h b T[b] hb (List.getElem?_eq_getElem hb)).2 a hab (by rw [List.getElem?_eq_getElem ha, e])

/-- The numbers as they are read, and nothing of the caller's changed. -/
structure TW (w : World) (tv : Value) (T : List Int) (wr : World) : Prop where
  below : Below w.heap.size w wr
  ints : Ints wr tv T
theorem TW.after {w wr w' : World} {tv : Value} {T : List Int} (h : TW w tv T wr) (hb : Below wr.heap.size wr w') : TW w tv T w' := ⟨bstep h.below hb, Sl.below h.ints hb⟩
set_option maxHeartbeats 4000000 in
theorem rgiven_any (v vr : Value) (i x : Int) (tv : Value) (T : List Int) (l : List BarD) (rs : List RunD) (w : World) (hp : Bars w v l) (hr : Runs w vr rs) (ht : Ints w tv T) (hl : l.length ≤ 140737488355328) (hlr : rs.length ≤ 140737488355328) (hlt : T.length ≤ 1000000) (hf : FitB l) :
    Calls Tryz.prog 19 #[v, vr, .int .i64 i, .int .i64 x, tv] w fun e w' => e = .returned (.int .i64 (givE (laidOk l rs) (lgsOf l rs).length i x T)) ∧ Below w.heap.size w w' := by
  have HV := Lib.hid (rlaid_any v vr l rs w hp hr hl hlr hf)
  obtain ⟨tpo, tc, rfl⟩ := Sl.at_ ht
  have HT := Lib.hid ht
  cases h : laidOk l rs with
  | false =>
    rw [h] at HV
    have HG : Hid (givE false (lgsOf l rs).length i x T = 1) := rfl
    rw [HG.out]
    clear hp hr ht h
    go_enter Tryz.func19, Tryz.ntmps19
    go_wp2_with fail
    refine HV.out.mono ?_
    rintro e w1 ⟨rfl, hb1⟩
    have HB1 := Lib.hid hb1
    clear hb1
    go_wp2
    go_ret
    exact ⟨rfl, HB1.out⟩
  | true =>
    obtain ⟨s1, s2, s3, s4, s5⟩ := laid_sum h
    have HC := Lib.hid (fun W (hW : Below w.heap.size w W) => rcount_any vr rs W (hr.below hW) (by omega) s4)
    rw [← s1, ← lgsOf_len l rs] at HC
    have hLs := (lzOk_of h).small
    rw [h] at HV
    have HG : Hid (givE true (lgsOf l rs).length i x T = othE (lgsOf l rs).length i x T) := rfl
    rw [HG.out]
    have HAX := Lib.hid (fun W => raxis38_any x W)
    generalize lgsOf l rs = L at *
    clear hp hr ht h s1 s2 s3 s4 s5 HG hf
    go_enter Tryz.func19, Tryz.ntmps19
    go_wp2_with fail
    refine HV.out.mono ?_
    rintro e w1 ⟨rfl, hb1⟩
    have HB1 := Lib.hid hb1
    clear hb1
    go_wp2_with fail
    refine (HC.out _ HB1.out).mono ?_
    rintro e w2 ⟨rfl, rfl⟩
    have HW0 : Hid (TW w (.slice tpo T.length tc) T _) := ⟨HB1.out, Sl.below HT.out HB1.out⟩
    clear HV HC HT HB1
    by_cases h1 : i < 0
    · have d1 : decide (i < 0) = true := dec_yes h1
      have HE := Lib.hid (othE_range (x := x) (T := T) (n := L.length) (show (i :: T).all (inR L.length) = false by rw [List.all_eq_false]; exact ⟨i, by simp, by unfold inR; rw [decide_eq_true_eq]; omega⟩))
      go_wp2
      go_ret
      exact ⟨by rw [HE.out]; rfl, HW0.out.below⟩
    · have d1 : decide (i < 0) = false := dec_no h1
      by_cases h2 : (L.length : Int) ≤ i
      · have d2 : decide ((L.length : Int) ≤ i) = true := dec_yes h2
        have HE := Lib.hid (othE_range (x := x) (T := T) (n := L.length) (show (i :: T).all (inR L.length) = false by rw [List.all_eq_false]; exact ⟨i, by simp, by unfold inR; rw [decide_eq_true_eq]; omega⟩))
        go_wp2
        go_ret
        exact ⟨by rw [HE.out]; rfl, HW0.out.below⟩
      · have d2 : decide ((L.length : Int) ≤ i) = false := dec_no h2
        go_wp2_with fail
        go_loopw [12] (fun c wr => ∃ k : Nat, k ≤ T.length ∧ c = .int .i64 (k : Int) ∧ TW w (.slice tpo T.length tc) T wr ∧ Hid (∀ (j : Nat) y, j < k → T[j]? = some y → inR L.length y = true)) (fun c _ => T.length - (intOf c).toNat)
        case atStart => exact ⟨0, Nat.zero_le _, rfl, HW0.out, fun j y hj => by omega⟩
        case round =>
          clear HW0
          obtain ⟨k, hk, rfl, hTW, HA⟩ := hrel
          have HW1 := Lib.hid hTW
          clear hTW
          by_cases hk2 : k < T.length
          · obtain ⟨y, hy⟩ : ∃ y, T[k]? = some y := ⟨_, List.getElem?_eq_getElem hk2⟩
            obtain ⟨tb, toff, rfl, htb, g0⟩ := zints_get HW1.out.ints hy
            have HY := Lib.hid hy
            clear hy
            by_cases h3 : y < 0
            · have d3 : decide (y < 0) = true := dec_yes h3
              have HE := Lib.hid (othE_range (x := x) (all_take_no (List.getElem?_cons_succ.trans HY.out : (i :: T)[k + 1]? = some y) (by omega) : (i :: T).all (inR L.length) = false))
              go_wp2
              go_ret
              exact ⟨by rw [HE.out]; rfl, HW1.out.below⟩
            · have d3 : decide (y < 0) = false := dec_no h3
              by_cases h4 : (L.length : Int) ≤ y
              · have d4 : decide ((L.length : Int) ≤ y) = true := dec_yes h4
                have HE := Lib.hid (othE_range (x := x) (all_take_no (List.getElem?_cons_succ.trans HY.out : (i :: T)[k + 1]? = some y) (by omega) : (i :: T).all (inR L.length) = false))
                go_wp2
                go_ret
                exact ⟨by rw [HE.out]; rfl, HW1.out.below⟩
              · have d4 : decide ((L.length : Int) ≤ y) = false := dec_no h4
                have HR : Hid (inR L.length y = true) := by unfold Hid inR; exact dec_yes (by omega)
                go_wp2
                go_roundw
                case rel => exact ⟨k + 1, by omega, by go_num, HW1.out, fun j z hj hz => by
                  by_cases e : j = k
                  · subst e; rw [HY.out] at hz; cases hz; exact HR.out
                  · exact HA.out j z (by omega) hz⟩
                case measure => simp [intOf]; omega
          · obtain rfl : k = T.length := by omega
            have HALL : Hid ((i :: T).all (inR L.length) = true) := by
              unfold Hid
              rw [List.all_cons, Bool.and_eq_true]
              refine ⟨by unfold inR; exact dec_yes (by omega), ?_⟩
              rw [List.all_eq_true]
              intro y hy
              obtain ⟨j, hj, rfl⟩ := List.mem_iff_getElem.1 hy
              exact HA.out j _ hj (List.getElem?_eq_getElem hj)
            clear HA
            obtain ⟨q, hq⟩ : ∃ q, axB x = q := ⟨_, rfl⟩
            have HQ := Lib.hid hq
            rw [hq] at HAX
            clear hq
            go_wp2_with fail
            refine (HAX.out _).mono ?_
            rintro e w3 ⟨rfl, rfl⟩
            cases q
            · have HE := Lib.hid (othE_kind HALL.out HQ.out)
              go_wp2
              go_ret
              exact ⟨by rw [HE.out]; rfl, HW1.out.below⟩
            · go_wp2_with fail
              go_loopw [13] (fun c wr => ∃ k : Nat, k ≤ T.length ∧ c = .int .i64 (k : Int) ∧ TW w (.slice tpo T.length tc) T wr ∧ Hid (Apart i T k)) (fun c _ => T.length - (intOf c).toNat)
              case atStart => exact ⟨0, Nat.zero_le _, rfl, HW1.out, fun j y hj => by omega⟩
              case round =>
                clear HW1
                obtain ⟨k, hk, rfl, hTW, HA⟩ := hrel
                have HW2 := Lib.hid hTW
                clear hTW
                by_cases hk2 : k < T.length
                · obtain ⟨y, hy⟩ : ∃ y, T[k]? = some y := ⟨_, List.getElem?_eq_getElem hk2⟩
                  obtain ⟨tb, toff, rfl, htb, g0⟩ := zints_get HW2.out.ints hy
                  have HY := Lib.hid hy
                  clear hy
                  by_cases h5 : y = i
                  · have d5 : (y == i) = true := beq_yes h5
                    have HE := Lib.hid (othE_twice HALL.out HQ.out (twice_at HY.out (.inl h5)))
                    clear h5
                    go_wp2
                    go_ret
                    exact ⟨by rw [HE.out]; rfl, HW2.out.below⟩
                  · have d5 : (y == i) = false := beq_no h5
                    have HNI := Lib.hid h5
                    clear h5
                    go_wp2_with fail
                    go_loopw [14] (fun c wr => ∃ j : Nat, j ≤ k ∧ c = .int .i64 (j : Int) ∧ TW w (.slice (some ⟨tb, toff, none⟩) T.length tc) T wr ∧ Hid (∀ b, b < j → T[b]? ≠ some y)) (fun c _ => k - (intOf c).toNat)
                    case atStart => exact ⟨0, Nat.zero_le _, rfl, HW2.out, fun b hb => by omega⟩
                    case round =>
                      clear HW2 g0 htb
                      obtain ⟨j, hj, rfl, hTW, HD⟩ := hrel
                      have HW3 := Lib.hid hTW
                      clear hTW
                      by_cases hj2 : j < k
                      · obtain ⟨z, hz⟩ : ∃ z, T[j]? = some z := ⟨_, List.getElem?_eq_getElem (by omega)⟩
                        obtain ⟨tb', toff', he, htb', g1⟩ := zints_get HW3.out.ints hz
                        cases he
                        obtain ⟨tb', toff', he, htb', g0⟩ := zints_get HW3.out.ints HY.out
                        cases he
                        have HZ := Lib.hid hz
                        have jk0 : (0 : Int) ≤ (j : Int) := by omega
                        have jk1 : (j : Int) < (T.length : Int) := by omega
                        have jk2 : (0 : Int) ≤ (k : Int) := by omega
                        have jk3 : (k : Int) < (T.length : Int) := by omega
                        have g0 := fun d os => cell_regrown g0 d os
                        have g1 := fun d os => cell_regrown g1 d os
                        clear hz htb'
                        by_cases h6 : z = y
                        · have d6 : (z == y) = true := beq_yes h6
                          have HE := Lib.hid (othE_twice HALL.out HQ.out (twice_at HY.out (.inr ⟨j, hj2, by rw [HZ.out, h6]⟩)))
                          go_wp2_with fail
                          refine wp_region_quiet_below (by kernel_rfl) (by kernel_rfl) ?_
                          repeat (go_big_quiet_step ((first
                            | fail)))
                          refine wpQuiet_nil ?_
                          intro _ hw'
                          obtain ⟨⟨nq, osq⟩, hw''⟩ := hw'
                          subst hw''
                          have HW4 := Lib.hid (HW3.out.after (below_regrown wr nq osq))
                          clear g0 g1
                          generalize Go.Sort.grow (redrawn wr nq) osq = y4 at *
                          go_wp2
                          go_ret
                          exact ⟨by rw [HE.out]; rfl, HW4.out.below⟩
                        · have d6 : (z == y) = false := beq_no h6
                          have HND : Hid (∀ b, b < j + 1 → T[b]? ≠ some y) := fun b hb e => by
                            by_cases hbj : b = j
                            · subst hbj; rw [HZ.out] at e; cases e; exact h6 rfl
                            · exact HD.out b (by omega) e
                          clear h6
                          go_wp2_with fail
                          refine wp_region_quiet_below (by kernel_rfl) (by kernel_rfl) ?_
                          repeat (go_big_quiet_step ((first
                            | fail)))
                          refine wpQuiet_nil ?_
                          intro _ hw'
                          obtain ⟨⟨nq, osq⟩, hw''⟩ := hw'
                          subst hw''
                          have HW4 := Lib.hid (HW3.out.after (below_regrown wr nq osq))
                          clear g0 g1
                          generalize Go.Sort.grow (redrawn wr nq) osq = y4 at *
                          go_wp2
                          go_roundw
                          case rel => exact ⟨j + 1, by omega, by go_num, HW4.out, HND.out⟩
                          case measure => simp [intOf]; omega
                      · obtain rfl : j = k := by omega
                        have HAN : Hid (Apart i T (j + 1)) := fun a z ha hz => by
                          by_cases e : a = j
                          · subst e; rw [HY.out] at hz; cases hz; exact ⟨HNI.out, HD.out⟩
                          · exact HA.out a z (by omega) hz
                        go_wp2
                        go_roundw
                        case rel => exact ⟨j + 1, by omega, by go_num, HW3.out, HAN.out⟩
                        case measure => simp [intOf]; omega
                · obtain rfl : k = T.length := by omega
                  have HE := Lib.hid (othE_ok HALL.out HQ.out (apart_all HA.out))
                  go_wp2
                  go_ret
                  exact ⟨by rw [HE.out]; rfl, HW2.out.below⟩
end
end Go.Proofs.YtnlloecbjohfdaaGreat
