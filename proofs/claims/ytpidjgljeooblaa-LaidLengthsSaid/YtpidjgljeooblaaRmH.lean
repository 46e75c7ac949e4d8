/-
  The reference's number of laid bars, and valid runs; the place of a laid bar; its points, legs, and hull.
-/
import Derived.Test.YtpidjgljeooblaaRmG
import Derived.Test.YtpidjgljeooblaaLgs
namespace Go.Proofs.Ytpidjgljeooblaa
open Go.RowKit
set_option linter.unusedVariables false
set_option linter.unusedSimpArgs false

/-- Counts that add up to no great number. -/
def SmallC (rs : List RunD) : Prop := ∀ k, k ≤ rs.length → 0 ≤ sumC (rs.take k) ∧ sumC (rs.take k) ≤ 1000000
theorem smallC_of {rs : List RunD} (hl : rs.length ≤ 60) (h : ∀ r ∈ rs, 1 ≤ r.count ∧ r.count ≤ 1000) : SmallC rs := by
  have key : ∀ k, k ≤ rs.length → 0 ≤ sumC (rs.take k) ∧ sumC (rs.take k) ≤ k * 1000 := by
    intro k
    induction k with
    | zero => intro _; rw [List.take_zero]; exact ⟨by decide, by decide⟩
    | succ k ih =>
      intro hk
      obtain ⟨r, hr⟩ : ∃ y, rs[k]? = some y := ⟨_, List.getElem?_eq_getElem hk⟩
      obtain ⟨h1, h2⟩ := h r (List.mem_of_getElem? hr)
      obtain ⟨i1, i2⟩ := ih (by omega)
      rw [sumC_snoc hr]
      omega
  intro k hk
  have := key k hk
  omega

set_option maxHeartbeats 1000000 in
theorem rcount_any (v : Value) (rs : List RunD) (w : World) (hr : Runs w v rs) (hl : rs.length ≤ 1000000) (hs : SmallC rs) :
    Calls Try.prog 15 #[v] w fun e w' => e = .returned (.int .i64 (sumC rs)) ∧ w = w' := by
  obtain ⟨ao, cap, rfl⟩ := hr.at_
  have HR := Lib.hid hr
  have HS := Lib.hid hs
  clear hr hs
  go_enter Try.func15, Try.ntmps15
  go_wp2
  go_loop [3, 4] (fun t i => ∃ k : Nat, k ≤ rs.length ∧ i = .int .i64 k ∧ t = .int .i64 (sumC (rs.take k))) (fun _ i => rs.length - (intOf i).toNat)
  case atStart => exact ⟨0, Nat.zero_le _, rfl, by rw [List.take_zero]; rfl⟩
  case round =>
    obtain ⟨k, hk, rfl, rfl⟩ := hrel
    by_cases hk2 : k < rs.length
    · obtain ⟨r, hy⟩ : ∃ y, rs[k]? = some y := ⟨_, List.getElem?_eq_getElem hk2⟩
      obtain ⟨b, off, rfl, hbl, c0, c1, c2, c3, c4, c5, c6, c7, c8, c9⟩ := runs_get HR.out hy
      have HSN := Lib.hid (sumC_snoc hy)
      obtain ⟨b1, b2⟩ := HS.out k hk
      obtain ⟨b3, b4⟩ := HS.out (k + 1) hk2
      rw [HSN.out] at b3 b4
      clear hy c0 c1 c2 c3 c4 c5 c6 c7 c8
      generalize sumC (rs.take k) = q at *
      go_wp2
      go_round
      case rel => exact ⟨k + 1, by omega, by go_num, by rw [HSN.out]⟩
      case measure => simp [intOf]; omega
    · obtain rfl : k = rs.length := by omega
      rw [List.take_length]
      go_wp2
      go_ret
      exact ⟨rfl, rfl⟩

set_option maxHeartbeats 2000000 in
theorem rlaid_any (v vr : Value) (l : List BarD) (rs : List RunD) (w : World) (hp : Bars w v l) (hr : Runs w vr rs) (hl : l.length ≤ 140737488355328) (hlr : rs.length ≤ 140737488355328) (hf : FitB l) :
    Calls Try.prog 14 #[v, vr] w fun e w' => e = .returned (.bool (laidOk l rs)) ∧ Below w.heap.size w w' := by
  obtain ⟨ao, cap, rfl⟩ := hp.at_
  obtain ⟨ro, rcap, rfl⟩ := hr.at_
  have HP := Lib.hid hp
  have HRS := Lib.hid hr
  have HV := Lib.hid (rsched_any _ l w hp hl hf)
  have HRT := Lib.hid (fun (h : schedOk l = true) r W (hW : Below w.heap.size w W) => rrun_any _ l r W (HP.out.below hW) hl h)
  clear hp hr hf
  cases hso : schedOk l with
  | false =>
    have HF := Lib.hid (laid_no1 (rs := rs) hso)
    rw [hso] at HV
    go_enter Try.func14, Try.ntmps14
    go_wp2_with fail
    refine HV.out.mono ?_
    rintro e w1 ⟨rfl, hb1⟩
    have HB1 := Lib.hid hb1
    clear hb1
    go_wp2
    go_ret
    exact ⟨ret_bool HF.out.symm, HB1.out⟩
  | true =>
    have HSO := Lib.hid hso
    have HRT2 := Lib.hid (HRT.out hso)
    rw [hso] at HV
    clear HRT
    rcases Nat.lt_or_ge 60 rs.length with h60 | h60
    · have HF := Lib.hid (laid_no2 (l := l) h60)
      have h61 : (60 : Int) < (rs.length : Int) := by omega
      go_enter Try.func14, Try.ntmps14
      go_wp2_with fail
      refine HV.out.mono ?_
      rintro e w1 ⟨rfl, hb1⟩
      have HB1 := Lib.hid hb1
      clear hb1
      go_wp2
      go_ret
      exact ⟨ret_bool HF.out.symm, HB1.out⟩
    · have h61 : ¬ (60 : Int) < (rs.length : Int) := by omega
      have h62 : decide ((60 : Int) < (rs.length : Int)) = false := dec_no h61
      have H60 := Lib.hid h60
      go_enter Try.func14, Try.ntmps14
      go_wp2_with fail
      refine HV.out.mono ?_
      rintro e w1 ⟨rfl, hb1⟩
      have HB1 := Lib.hid hb1
      clear hb1
      go_wp2_with fail
      go_loopw [5] (fun i wr => ∃ k : Nat, k ≤ rs.length ∧ i = .int .i64 k ∧ Below w.heap.size w wr ∧ Hid (∀ (j : Nat) r, j < k → rs[j]? = some r → rightB l r = true)) (fun i _ => rs.length - (intOf i).toNat)
      case atStart => exact ⟨0, Nat.zero_le _, rfl, HB1.out, fun j r hj => by omega⟩
      case round =>
        obtain ⟨k, hk, rfl, hBr, hR⟩ := hrel
        by_cases hk2 : k < rs.length
        · obtain ⟨r, hy⟩ : ∃ y, rs[k]? = some y := ⟨_, List.getElem?_eq_getElem hk2⟩
          obtain ⟨b, off, rfl, hbl, c0, c1, c2, c3, c4, c5, c6, c7, c8, c9⟩ := runs_get (HRS.out.below hBr) hy
          have HY := Lib.hid hy
          have HB := Lib.hid hBr
          have HRX := Lib.hid (HRT2.out r _ hBr)
          clear hy hBr
          cases hrb : rightB l r with
          | false =>
            have HF := Lib.hid (laid_no3 HY.out hrb)
            rw [hrb] at HRX
            go_wp2_with fail
            refine HRX.out.mono ?_
            rintro e w9 ⟨rfl, hb9⟩
            have HB9 := Lib.hid (bstep HB.out hb9)
            clear hb9
            go_wp2
            go_ret
            exact ⟨ret_bool HF.out.symm, HB9.out⟩
          | true =>
            have HRB := Lib.hid hrb
            rw [hrb] at HRX
            go_wp2_with fail
            refine HRX.out.mono ?_
            rintro e w9 ⟨rfl, hb9⟩
            have HB9 := Lib.hid (bstep HB.out hb9)
            clear hb9 c0 c1 c2 c3 c4 c5 c6 c7 c8 c9
            go_wp2
            go_roundw
            case rel => exact ⟨k + 1, by omega, by go_num, HB9.out, fun j z hj hz => by
              by_cases e : j = k
              · subst e; rw [HY.out] at hz; cases hz; exact HRB.out
              · exact hR.out j z (by omega) hz⟩
            case measure => simp [intOf]; omega
        · obtain rfl : k = rs.length := by omega
          have hall : ∀ r ∈ rs, 1 ≤ r.count ∧ r.count ≤ 1000 := fun r hm => by
            obtain ⟨j, hj, rfl⟩ := List.getElem_of_mem hm
            exact right_count (hR.out j _ hj (List.getElem?_eq_getElem hj))
          have HC := Lib.hid (rcount_any _ rs wr (HRS.out.below hBr) (by omega) (smallC_of H60.out hall))
          have HT : Hid (laidOk l rs = decide (sumC rs ≤ 2000)) := by
            unfold Hid
            by_cases h5 : sumC rs ≤ 2000
            · rw [dec_yes h5]; exact laid_yes HSO.out H60.out hR.out (by rw [List.take_length]; exact h5)
            · rw [dec_no h5]
              unfold laidOk
              rw [dec_no (p := sumC rs ≤ 2000) h5]; simp
          have HB := Lib.hid hBr
          clear hBr hall
          go_wp2_with fail
          refine HC.out.mono ?_
          rintro e w9 ⟨rfl, rfl⟩
          go_wp2
          go_ret
          exact ⟨ret_bool HT.out.symm, HB.out⟩

def PlacePost (rs : List RunD) (i : Nat) (w : World) (e : Ending) (w' : World) : Prop :=
  ∃ (k j : Nat) (r : RunD), e = .returned (.tuple #[.int .i64 (k : Int), .int .i64 (j : Int)]) ∧ rs[k]? = some r ∧ j < r.count.toNat ∧ i = cumN (rs.take k) + j ∧ w = w'
set_option maxHeartbeats 1000000 in
theorem rplace_any (v : Value) (rs : List RunD) (i : Nat) (w : World) (hr : Runs w v rs) (hl : rs.length ≤ 1000000) (hs : ∀ r ∈ rs, 1 ≤ r.count ∧ r.count ≤ 1000) (hi : i < cumN rs) (hi2 : i ≤ 1000000) :
    Calls Try.prog 50 #[v, .int .i64 (i : Int)] w (PlacePost rs i w) := by
  obtain ⟨ao, cap, rfl⟩ := hr.at_
  have HR := Lib.hid hr
  have HS := Lib.hid hs
  have HI := Lib.hid hi
  have HCL := Lib.hid (fun k => cumN_take_le rs k)
  clear hr hs hi
  go_enter Try.func50, Try.ntmps50
  go_wp2
  go_loop [1, 6] (fun t i' => ∃ k m : Nat, k < rs.length ∧ m ≤ 1000000 ∧ i' = .int .i64 (k : Int) ∧ t = .int .i64 (m : Int) ∧ Hid (m + cumN (rs.take k) = i)) (fun _ i' => rs.length - (intOf i').toNat)
  case atStart => exact ⟨0, i, by
    rcases Nat.eq_zero_or_pos rs.length with h | h
    · have := HI.out
      rw [List.length_eq_zero_iff.1 h] at this
      simp [cumN] at this
    · exact h, hi2, rfl, rfl, by unfold Hid; rw [List.take_zero]; simp [cumN]⟩
  case round =>
    obtain ⟨k, m, hk, hm, rfl, rfl, HE⟩ := hrel
    obtain ⟨r, hy⟩ : ∃ y, rs[k]? = some y := ⟨_, List.getElem?_eq_getElem hk⟩
    obtain ⟨b, off, rfl, hbl, c0, c1, c2, c3, c4, c5, c6, c7, c8, c9⟩ := runs_get HR.out hy
    have HSN := Lib.hid (cumN_snoc hy)
    obtain ⟨n1, n2⟩ := HS.out r (List.mem_of_getElem? hy)
    have HY := Lib.hid hy
    clear hy c0 c1 c2 c3 c4 c5 c6 c7 c8
    by_cases hc : (m : Int) < r.count
    · have d1 : decide (r.count ≤ (m : Int)) = false := dec_no (by omega)
      have hc' : ¬ r.count ≤ (m : Int) := by omega
      clear hc
      go_wp2
      go_ret2
      exact ⟨k, m, r, rfl, HY.out, by omega, by have := HE.out; omega, rfl⟩
    · have hc' : r.count ≤ (m : Int) := by omega
      have e1 : ((m - r.count.toNat : Nat) : Int) = (m : Int) - r.count := by omega
      have HE1 := Lib.hid e1
      have HK : Hid (k + 1 < rs.length) := by
        unfold Hid
        rcases Nat.lt_or_ge (k + 1) rs.length with h | h
        · exact h
        · have h1 : rs.take (k + 1) = rs := List.take_of_length_le h
          have h2 := HSN.out
          rw [h1] at h2
          have h3 := HI.out
          have h4 := HE.out
          omega
      clear hc e1
      go_wp2
      go_round
      case rel => exact ⟨k + 1, m - r.count.toNat, HK.out, by omega, by go_num, by rw [HE1.out], by have h2 := HSN.out; have h4 := HE.out; unfold Hid; omega⟩
      case measure => simp [intOf]; omega

/-- The place of a laid bar: its run, its line, and its points. -/
theorem laid_place {l : List BarD} {rs : List RunD} (h : laidOk l rs = true) {k j : Nat} {r : RunD} (hk : rs[k]? = some r) (hj : j < r.count.toNat) :
    ∃ b, lineOf l r.mark = some b ∧ barOk b = true ∧ turnB r.tx r.ty = true ∧ PtIn 1048576 r.at_ ∧ 1 ≤ r.count ∧ r.count ≤ 1000 ∧ (1 < r.count → PtIn 2097152 r.step) ∧ (laidPts l rs)[cumN (rs.take k) + j]? = some (rptsOf b r j) := by
  obtain ⟨q1, q2, q3, q4⟩ := laidOk_parts h
  obtain ⟨b, h1, h2, h3, h4, h5, h6, h7, h8, h9⟩ := right_parts q1 (q3 r (List.mem_of_getElem? hk))
  refine ⟨b, h1, h2, h3, ptIn_iff.1 h4, h5, h6, fun h => ptIn_iff.1 (h7 h), ?_⟩
  rw [laidPts_at hk hj, rpts_eq]
  unfold barPts ptsOf
  rw [h1]
end Go.Proofs.Ytpidjgljeooblaa
