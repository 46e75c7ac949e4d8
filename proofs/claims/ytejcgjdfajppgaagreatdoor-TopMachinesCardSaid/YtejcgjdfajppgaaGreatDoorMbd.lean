/-
  machine.Bound, and what no order is shorter than.
-/
import Derived.Test.YtejcgjdfajppgaaGreatDoorMst
namespace Go.Proofs.YtejcgjdfajppgaaGreatDoor
section
open Go.RowKit
set_option linter.unusedVariables false
set_option linter.unusedSimpArgs false
attribute [local go_sem ↓] Go.wp_at_zero Go.wp_at_succ

def scK (c : Nat → Int) : Nat → Int
  | 0 => 0
  | k + 1 => scK c k + c k
def lcK (c : Nat → Int) : Nat → Int
  | 0 => c 0
  | k + 1 => min (lcK c k) (c k)
def boK (c b : Nat → Int) : Nat → Int
  | 0 => 0
  | k + 1 => max (boK c b k) (c k + b k)
theorem scK_sum (c : Nat → Int) : ∀ k, scK c k = sumL c (List.range k)
  | 0 => rfl
  | k + 1 => by rw [List.range_succ, sumL_append, ← scK_sum c k, sumL_cons, sumL_nil]; show scK c k + c k = _; omega
theorem lcK_le (c : Nat → Int) : ∀ k i, i < k → lcK c k ≤ c i
  | k + 1, i, h => by
    show min (lcK c k) (c k) ≤ c i
    rcases Nat.lt_succ_iff_lt_or_eq.1 h with h' | rfl
    · have := lcK_le c k i h'; omega
    · omega
theorem boK_le (c b : Nat → Int) (m : Int) (hm : 0 ≤ m) : ∀ k, (∀ i, i < k → c i + b i ≤ m) → boK c b k ≤ m
  | 0, _ => hm
  | k + 1, h => by
    show max (boK c b k) (c k + b k) ≤ m
    have h1 := boK_le c b m hm k (fun i hi => h i (by omega))
    have h2 := h k (by omega)
    omega
def bndV (c b : Nat → Int) (n : Nat) : Int := max (max (scK c n + lcK b n) (lcK c n + scK b n)) (boK c b n)
theorem sumL_nn {f : Nat → Int} (hf : ∀ i, 0 ≤ f i) : ∀ l : List Nat, 0 ≤ sumL f l
  | [] => Int.le_refl _
  | i :: l => by rw [sumL_cons]; have := hf i; have := sumL_nn hf l; omega
/-- No order of the jobs is shorter than the bound. -/
theorem bnd_le {c b : Nat → Int} {n : Nat} {o : List Nat} (hc : ∀ i, 0 ≤ c i) (hb : ∀ i, 0 ≤ b i) (hp : o.Perm (List.range n)) (hn : 0 < n) : bndV c b n ≤ lenJ c b o := by
  have hin : ∀ i, i < n → i ∈ o := fun i hi => hp.mem_iff.2 (List.mem_range.2 hi)
  have hlt : ∀ i ∈ o, i < n := fun i hi => List.mem_range.1 (hp.mem_iff.1 hi)
  have hsc : scK c n = sumL c o := by rw [scK_sum, sumL_perm hp]
  have hsb : scK b n = sumL b o := by rw [scK_sum, sumL_perm hp]
  have h1 : scK c n + lcK b n ≤ lenJ c b o := by
    have hne : o ≠ [] := fun e => by have := hin 0 hn; rw [e] at this; cases this
    have hs := List.dropLast_concat_getLast hne
    have hl := runS_low c b o.dropLast [] (o.getLast hne) (0, 0)
    have hm := lcK_le b n _ (hlt _ (List.getLast_mem hne))
    rw [hs, sumL_nil] at hl
    have h2 : sumL c o = sumL c o.dropLast + c (o.getLast hne) := by
      conv => lhs; rw [← hs]
      rw [sumL_append, sumL_cons, sumL_nil]
      omega
    unfold lenJ
    rw [hsc, h2]
    simp only at hl
    omega
  have h2 : lcK c n + scK b n ≤ lenJ c b o := by
    cases o with
    | nil => have := hin 0 hn; cases this
    | cons f Q =>
      have hl := runS_low c b [] Q f (0, 0)
      have hm := lcK_le c n f (hlt f List.mem_cons_self)
      rw [sumL_nil] at hl
      unfold lenJ
      rw [hsb, sumL_cons]
      simp only [List.nil_append] at hl
      omega
  have h3 : boK c b n ≤ lenJ c b o := by
    refine boK_le c b _ ?_ n (fun i hi => ?_)
    · have := runS_snd c b o (0, 0)
      have := sumL_nn hb o
      unfold lenJ
      simp only at *
      omega
    · obtain ⟨P, Q, rfl⟩ := List.append_of_mem (hin i hi)
      have hl := runS_low c b P Q i (0, 0)
      have := sumL_nn hc P
      have := sumL_nn hb Q
      unfold lenJ
      simp only at hl
      omega
  unfold bndV
  omega
/-- No order is longer than all times together. -/
theorem len_le {c b : Nat → Int} {o : List Nat} (hc : ∀ i, 0 ≤ c i) (hb : ∀ i, 0 ≤ b i) : lenJ c b o ≤ sumL c o + sumL b o := by
  unfold lenJ
  rcases runS_high c b o (0, 0) with h | ⟨P, k, Q, he, h⟩
  · have := sumL_nn hc o
    rw [h]
    simp only
    omega
  · rw [h]
    subst he
    rw [sumL_append, sumL_append, sumL_cons, sumL_cons]
    have := sumL_nn hc Q
    have := sumL_nn hb P
    simp only
    omega
theorem bK_bd {l : List WkD} (h : TmIn l) : ∀ k, k ≤ 12 → 0 ≤ scK (cutF l) k ∧ scK (cutF l) k ≤ k * 10000 ∧ 0 ≤ scK (bendF l) k ∧ scK (bendF l) k ≤ k * 10000 ∧ 0 ≤ lcK (cutF l) k ∧ lcK (cutF l) k ≤ 10000 ∧ 0 ≤ lcK (bendF l) k ∧ lcK (bendF l) k ≤ 10000
  | 0, _ => by
    have := tm_in h 0
    refine ⟨Int.le_refl _, Int.le_refl _, Int.le_refl _, Int.le_refl _, ?_, ?_, ?_, ?_⟩
    · exact this.1
    · exact this.2.1
    · exact this.2.2.1
    · exact this.2.2.2
  | k + 1, hk => by
    have ih := bK_bd h k (by omega)
    have ht := tm_in h k
    show 0 ≤ scK (cutF l) k + cutF l k ∧ scK (cutF l) k + cutF l k ≤ _ ∧ 0 ≤ scK (bendF l) k + bendF l k ∧ scK (bendF l) k + bendF l k ≤ _ ∧ 0 ≤ min (lcK (cutF l) k) (cutF l k) ∧ min (lcK (cutF l) k) (cutF l k) ≤ 10000 ∧ 0 ≤ min (lcK (bendF l) k) (bendF l k) ∧ min (lcK (bendF l) k) (bendF l k) ≤ 10000
    omega
set_option maxHeartbeats 2000000 in
set_option maxRecDepth 100000 in
theorem mbound_any (ao : Option Addr) (cap : Nat) (l : List WkD) (w : World) (hj : Jobs w ao cap l) :
    Calls Tryz.prog 9 #[.slice ao l.length cap] w fun e w' => e = .returned (.tuple #[.int .i64 (if l.length = 0 then 0 else bndV (cutF l) (bendF l) l.length), .int .i64 0]) ∧ Below w.heap.size w w' := by
  have HV := Lib.hid hj.valid
  have HJ := Lib.hid hj
  have hfew := hj.few
  clear hj
  have HT := Lib.hid (wks_tm HJ.out.ok)
  by_cases hl0 : l.length = 0
  · rw [if_pos hl0]
    have e1 : ((l.length : Int) == 0) = true := by simp [hl0]
    have e2 : (l.length : Int) = 0 := by omega
    clear hl0
    go_enter Tryz.func9, Tryz.ntmps9
    go_wp2_with fail
    refine HV.out.mono ?_
    rintro e w1 ⟨rfl, hb1⟩
    have HB1 := Lib.hid hb1
    clear hb1 HV
    go_wp2
    go_ret2
    exact ⟨rfl, HB1.out⟩
  · rw [if_neg hl0]
    have e2 : ¬ (l.length : Int) = 0 := by omega
    go_enter Tryz.func9, Tryz.ntmps9
    go_wp2_with fail
    refine HV.out.mono ?_
    rintro e w1 ⟨rfl, hb1⟩
    have HB1 := Lib.hid hb1
    clear hb1 HV
    obtain ⟨x0, hx0⟩ : ∃ x, l[0]? = some x := ⟨_, List.getElem?_eq_getElem (by omega)⟩
    obtain ⟨b, off, rfl, hbl, d0, d1, d2⟩ := wks_get (HJ.out.below HB1.out).at_ hx0
    rw [← cutF_at hx0] at d1
    rw [← bendF_at hx0] at d2
    simp only [Nat.zero_mul, Nat.add_zero] at d0 d1 d2
    have y1 := fun dd os => cell_regrown d1 dd os
    have y2 := fun dd os => cell_regrown d2 dd os
    have e3 : (0 : Int) < (l.length : Int) := by omega
    clear hx0 d0 d1 d2
    go_wp2_with fail
    refine wp_region_quiet_below (by kernel_rfl) (by kernel_rfl) ?_
    repeat (go_big_quiet_step ((first
      | fail)))
    refine wpQuiet_nil ?_
    intro _ hw'
    obtain ⟨⟨nq, osq⟩, hw''⟩ := hw'
    subst hw''
    have HB2 := Lib.hid (bstep HB1.out (below_regrown w1 nq osq))
    clear y1 y2 e3
    generalize Go.Sort.grow (redrawn w1 nq) osq = w2 at *
    go_wp2_with fail
    go_loopw [4, 5, 6, 7, 8, 27] (fun s4 s5 s6 s7 s8 i wr => ∃ k : Nat, k ≤ l.length ∧ i = .int .i64 (k : Int) ∧ s4 = .int .i64 (scK (cutF l) k) ∧ s5 = .int .i64 (scK (bendF l) k) ∧ s6 = .int .i64 (boK (cutF l) (bendF l) k) ∧ s7 = .int .i64 (lcK (cutF l) k) ∧ s8 = .int .i64 (lcK (bendF l) k) ∧ Hid (Below w.heap.size w wr)) (fun _ _ _ _ _ i _ => l.length - (intOf i).toNat)
    case atStart => exact ⟨0, Nat.zero_le _, rfl, rfl, rfl, rfl, rfl, rfl, HB2⟩
    case round =>
      obtain ⟨k, hk, rfl, rfl, rfl, rfl, rfl, rfl, HR⟩ := hrel
      have hbd := bK_bd HT.out k (by omega)
      by_cases hk2 : k < l.length
      · obtain ⟨x, hx⟩ : ∃ x, l[k]? = some x := ⟨_, List.getElem?_eq_getElem hk2⟩
        obtain ⟨b, off, hbo, hbl, d0, d1, d2⟩ := wks_get (HJ.out.below HR.out).at_ hx
        cases hbo
        rw [← cutF_at hx] at d1
        rw [← bendF_at hx] at d2
        obtain ⟨w5, hw5⟩ : ∃ w5, wr.alloc (.cells #[.string x.mark, .int .i64 (cutF l k), .int .i64 (bendF l k)] 27) = w5 := ⟨_, rfl⟩
        obtain ⟨g, hg⟩ : ∃ g, wr.heap.size = g := ⟨_, rfl⟩
        have hb5 : Below wr.heap.size wr w5 := by rw [← hw5]; exact below_new _ _
        have BY : BlkIs w5 g 27 #[.string x.mark, .int .i64 (cutF l k), .int .i64 (bendF l k)] := by rw [← hw5, ← hg]; exact BlkIs.new _ _ _
        have HB5 := Lib.hid (bstep HR.out hb5)
        have HY := Lib.hid BY
        have z0 : (0 : Int) ≤ (k : Int) := Int.natCast_nonneg _
        have z1 : (k : Int) < (l.length : Int) := by omega
        have ht := tm_in HT.out k
        have HS := Lib.hid (show scK (cutF l) (k + 1) = scK (cutF l) k + cutF l k ∧ scK (bendF l) (k + 1) = scK (bendF l) k + bendF l k ∧ boK (cutF l) (bendF l) (k + 1) = max (boK (cutF l) (bendF l) k) (cutF l k + bendF l k) ∧ lcK (cutF l) (k + 1) = min (lcK (cutF l) k) (cutF l k) ∧ lcK (bendF l) (k + 1) = min (lcK (bendF l) k) (bendF l k) from ⟨rfl, rfl, rfl, rfl, rfl⟩)
        have y1 := fun dd os => cell_regrown (BY.cell 1) dd os
        have y2 := fun dd os => cell_regrown (BY.cell 2) dd os
        have ly := BY.lt
        clear hx hb5 BY
        generalize cutF l k = ck at *
        generalize bendF l k = bk at *
        generalize scK (cutF l) k = s1 at *
        generalize scK (bendF l) k = s2 at *
        generalize boK (cutF l) (bendF l) k = s3 at *
        generalize lcK (cutF l) k = s4 at *
        generalize lcK (bendF l) k = s5 at *
        have hw1 : IntKind.i64.wrap (s1 + ck) = s1 + ck := IntWalk.i64_in _ (by omega)
        have hw2 : IntKind.i64.wrap (s2 + bk) = s2 + bk := IntWalk.i64_in _ (by omega)
        go_wp2_with fail
        (try rw [hw5])
        (try rw [hg])
        clear hw5 hg d0 d1 d2
        refine wp_region_quiet_below (by kernel_rfl) (by kernel_rfl) ?_
        repeat (go_big_quiet_step ((first
          | fail)))
        refine wpQuiet_nil ?_
        intro _ hw'
        obtain ⟨⟨nq, osq⟩, hw''⟩ := hw'
        subst hw''
        have HB6 := Lib.hid (bstep HB5.out (below_regrown w5 nq osq))
        have HY6 := Lib.hid (HY.out.below (below_regrown w5 nq osq))
        clear y1 y2 HB5 HY
        generalize Go.Sort.grow (redrawn w5 nq) osq = w6 at *
        have y1 := fun dd os => cell_regrown (HY6.out.cell 1) dd os
        have y2 := fun dd os => cell_regrown (HY6.out.cell 2) dd os
        have ly := HY6.out.lt
        go_wp2_with fail
        refine wp_region_quiet_below (by kernel_rfl) (by kernel_rfl) ?_
        repeat (go_big_quiet_step ((first
          | fail)))
        refine wpQuiet_nil ?_
        intro _ hw'
        obtain ⟨⟨nq, osq⟩, hw''⟩ := hw'
        subst hw''
        have HB7 := Lib.hid (bstep HB6.out (below_regrown w6 nq osq))
        have HY7 := Lib.hid (HY6.out.below (below_regrown w6 nq osq))
        clear y1 y2 ly HB6 HY6
        generalize Go.Sort.grow (redrawn w6 nq) osq = w7 at *
        have y1 := HY7.out.cell 1
        have y2 := HY7.out.cell 2
        have ly := HY7.out.lt
        have hw3 : IntKind.i64.wrap (ck + bk) = ck + bk := IntWalk.i64_in _ (by omega)
        go_wp2
        go_roundw
        case rel => exact ⟨k + 1, by omega, by go_num, congrArg (Value.int .i64) HS.out.1.symm, congrArg (Value.int .i64) HS.out.2.1.symm, congrArg (Value.int .i64) HS.out.2.2.1.symm, congrArg (Value.int .i64) HS.out.2.2.2.1.symm, congrArg (Value.int .i64) HS.out.2.2.2.2.symm, HB7⟩
        case measure => simp [intOf]; omega
      · obtain rfl : k = l.length := by omega
        have HE := Lib.hid (show bndV (cutF l) (bendF l) l.length = max (max (scK (cutF l) l.length + lcK (bendF l) l.length) (lcK (cutF l) l.length + scK (bendF l) l.length)) (boK (cutF l) (bendF l) l.length) from rfl)
        generalize scK (cutF l) l.length = s1 at *
        generalize scK (bendF l) l.length = s2 at *
        generalize boK (cutF l) (bendF l) l.length = s3 at *
        generalize lcK (cutF l) l.length = s4 at *
        generalize lcK (bendF l) l.length = s5 at *
        have hw1 : IntKind.i64.wrap (s1 + s5) = s1 + s5 := IntWalk.i64_in _ (by omega)
        have hw2 : IntKind.i64.wrap (s4 + s2) = s4 + s2 := IntWalk.i64_in _ (by omega)
        have hm1 : (if s1 + s5 < s4 + s2 then s4 + s2 else s1 + s5) = max (s1 + s5) (s4 + s2) := by split <;> omega
        have hm2 : (if max (s1 + s5) (s4 + s2) < s3 then s3 else max (s1 + s5) (s4 + s2)) = max (max (s1 + s5) (s4 + s2)) s3 := by split <;> omega
        have HM := Lib.hid hm1
        go_wp2
        all_goals
          go_ret2
          exact ⟨by rw [HE.out]; exact congrArg (fun q : Int => Ending.returned (.tuple #[.int .i64 q, .int .i64 0])) (by have := HM.out; omega), HR.out⟩
end
end Go.Proofs.YtejcgjdfajppgaaGreatDoor
