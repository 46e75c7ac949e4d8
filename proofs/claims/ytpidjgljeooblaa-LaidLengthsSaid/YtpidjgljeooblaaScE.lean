/-
  A schedule and runs that are valid together; how many laid bars; the mark of one.
-/
import Derived.Test.YtpidjgljeooblaaScD
namespace Go.Proofs.Ytpidjgljeooblaa
open Go.RowKit
set_option linter.unusedVariables false
set_option linter.unusedSimpArgs false

def sumC (rs : List RunD) : Int := sumI (rs.map (·.count))
def laidOk (l : List BarD) (rs : List RunD) : Bool := schedOk l && decide (rs.length ≤ 60) && rs.all (rightB l) && decide (sumC rs ≤ 2000)
theorem right_count {l : List BarD} {r : RunD} (h : rightB l r = true) : 1 ≤ r.count ∧ r.count ≤ 1000 := by
  cases hl : lineOf l r.mark with
  | none => rw [rightB_none hl] at h; cases h
  | some b =>
    rw [rightB_some hl] at h
    simp only [Bool.and_eq_true, decide_eq_true_eq] at h
    obtain ⟨⟨⟨⟨⟨_, h1⟩, h2⟩, _⟩, _⟩, _⟩ := h
    exact ⟨h1, h2⟩
theorem sumC_snoc {rs : List RunD} {k : Nat} {r : RunD} (h : rs[k]? = some r) : sumC (rs.take (k + 1)) = sumC (rs.take k) + r.count := by
  unfold sumC
  rw [List.map_take, List.map_take]
  exact sumI_snoc (by rw [List.getElem?_map, h]; rfl)
theorem sumC_le {l : List BarD} {rs : List RunD} (h : ∀ r ∈ rs, 1 ≤ r.count) (k : Nat) : sumC (rs.take k) ≤ sumC rs := by
  unfold sumC
  rw [List.map_take]
  exact sumI_le (fun d hd => by obtain ⟨r, hr, rfl⟩ := List.mem_map.1 hd; exact h r hr) k
theorem laidOk_parts {l : List BarD} {rs : List RunD} (h : laidOk l rs = true) : schedOk l = true ∧ rs.length ≤ 60 ∧ (∀ r ∈ rs, rightB l r = true) ∧ sumC rs ≤ 2000 := by
  unfold laidOk at h
  simp only [Bool.and_eq_true, decide_eq_true_eq, List.all_eq_true] at h
  exact ⟨h.1.1.1, h.1.1.2, h.1.2, h.2⟩
theorem laid_no1 {l : List BarD} {rs : List RunD} (h : schedOk l = false) : laidOk l rs = false := by unfold laidOk; rw [h]; rfl
theorem laid_no2 {l : List BarD} {rs : List RunD} (h : 60 < rs.length) : laidOk l rs = false := by unfold laidOk; rw [dec_no (p := rs.length ≤ 60) (by omega)]; simp
theorem laid_no3 {l : List BarD} {rs : List RunD} {k : Nat} {r : RunD} (hk : rs[k]? = some r) (h : rightB l r = false) : laidOk l rs = false := by
  unfold laidOk; rw [allN_no hk h]; simp
theorem laid_no4 {l : List BarD} {rs : List RunD} {k : Nat} {r : RunD} (hk : rs[k]? = some r) (h : 2000 - sumC (rs.take k) < r.count) : laidOk l rs = false := by
  cases hd : laidOk l rs with
  | false => rfl
  | true =>
    obtain ⟨_, _, h3, h4⟩ := laidOk_parts hd
    have h5 := sumC_le (l := l) (rs := rs) (fun r hr => (right_count (h3 r hr)).1) (k + 1)
    rw [sumC_snoc hk] at h5
    omega
theorem laid_yes {l : List BarD} {rs : List RunD} (h1 : schedOk l = true) (h2 : rs.length ≤ 60) (h3 : ∀ (j : Nat) r, j < rs.length → rs[j]? = some r → rightB l r = true) (h4 : sumC (rs.take rs.length) ≤ 2000) : laidOk l rs = true := by
  rw [List.take_length] at h4
  unfold laidOk
  rw [h1, dec_yes h2, dec_yes h4, List.all_eq_true.2 (fun r hr => by
    obtain ⟨j, hj, rfl⟩ := List.getElem_of_mem hr
    exact h3 j _ hj (List.getElem?_eq_getElem hj))]; rfl

set_option maxRecDepth 100000 in
set_option maxHeartbeats 4000000 in
theorem lvalid_any (v vr : Value) (l : List BarD) (rs : List RunD) (w : World) (hp : Bars w v l) (hr : Runs w vr rs) (hl : l.length ≤ 140737488355328) (hlr : rs.length ≤ 140737488355328) (hf : FitB l) :
    Calls Try.prog 22 #[v, vr] w fun e w' => e = .returned (.bool (laidOk l rs)) ∧ Below w.heap.size w w' := by
  obtain ⟨ao, cap, rfl⟩ := hp.at_
  obtain ⟨ro, rcap, rfl⟩ := hr.at_
  have HP := Lib.hid hp
  have HRS := Lib.hid hr
  have HV := Lib.hid (cvalid_any _ l w hp hl hf)
  have HRT := Lib.hid (fun (h : schedOk l = true) r W (hW : Below w.heap.size w W) => right_any _ l r W (HP.out.below hW) hl hf h)
  clear hp hr hf
  cases hso : schedOk l with
  | false =>
    have HF := Lib.hid (laid_no1 (rs := rs) hso)
    rw [hso] at HV
    go_enter Try.func22, Try.ntmps22
    go_wp2_with fail
    refine HV.out.mono ?_
    rintro e w1 ⟨rfl, hb1⟩
    have HB1 := Lib.hid hb1
    clear hb1
    go_wp2
    go_ret
    exact ⟨ret_bool HF.out.symm, HB1.out⟩
  | true =>
    have HSO := Lib.hid hso
    have HRT2 := Lib.hid (HRT.out hso)
    rw [hso] at HV
    clear HRT
    rcases Nat.lt_or_ge 60 rs.length with h60 | h60
    · have HF := Lib.hid (laid_no2 (l := l) h60)
      have h61 : (60 : Int) < (rs.length : Int) := by omega
      go_enter Try.func22, Try.ntmps22
      go_wp2_with fail
      refine HV.out.mono ?_
      rintro e w1 ⟨rfl, hb1⟩
      have HB1 := Lib.hid hb1
      clear hb1
      go_wp2
      go_ret
      exact ⟨ret_bool HF.out.symm, HB1.out⟩
    · have h61 : ¬ (60 : Int) < (rs.length : Int) := by omega
      have h62 : decide ((60 : Int) < (rs.length : Int)) = false := dec_no h61
      have H60 := Lib.hid h60
      go_enter Try.func22, Try.ntmps22
      go_wp2_with fail
      refine HV.out.mono ?_
      rintro e w1 ⟨rfl, hb1⟩
      have HB1 := Lib.hid hb1
      clear hb1
      go_wp2_with fail
      go_loopw [5, 18] (fun q i wr => ∃ k : Nat, k ≤ rs.length ∧ i = .int .i64 k ∧ q = .int .i64 (2000 - sumC (rs.take k)) ∧ Below w.heap.size w wr ∧ Hid ((∀ (j : Nat) r, j < k → rs[j]? = some r → rightB l r = true) ∧ 0 ≤ sumC (rs.take k) ∧ sumC (rs.take k) ≤ 2000)) (fun _ i _ => rs.length - (intOf i).toNat)
      case atStart => exact ⟨0, Nat.zero_le _, rfl, by rw [List.take_zero]; rfl, HB1.out, fun j r hj => by omega, by rw [List.take_zero]; decide, by rw [List.take_zero]; decide⟩
      case round =>
        obtain ⟨k, hk, rfl, rfl, hBr, hR⟩ := hrel
        obtain ⟨_, s1, s2⟩ := hR.out
        by_cases hk2 : k < rs.length
        · obtain ⟨r, hy⟩ : ∃ y, rs[k]? = some y := ⟨_, List.getElem?_eq_getElem hk2⟩
          obtain ⟨b, off, rfl, hbl, c0, c1, c2, c3, c4, c5, c6, c7, c8, c9⟩ := runs_get (HRS.out.below hBr) hy
          have HY := Lib.hid hy
          have HS := Lib.hid (sumC_snoc hy)
          have HB := Lib.hid hBr
          have HN4 := Lib.hid (laid_no4 (l := l) hy)
          have HRX := Lib.hid (HRT2.out r _ (hBr.alloc hBr.size (.cells #[.string r.mark, .int .i64 r.tx, .int .i64 r.ty, .int .i64 r.at_.x, .int .i64 r.at_.y, .int .i64 r.at_.z, .int .i64 r.step.x, .int .i64 r.step.y, .int .i64 r.step.z, .int .i64 r.count] 60)))
          generalize hq : sumC (rs.take k) = q at *
          have HQ := Lib.hid hq
          clear hy hBr hq
          cases hrb : rightB l r with
          | false =>
            have HF := Lib.hid (laid_no3 HY.out hrb)
            rw [hrb] at HRX
            go_wp2_with fail
            refine HRX.out.mono ?_
            rintro e w9 ⟨rfl, hb9⟩
            have HB9 := Lib.hid (bstep (HB.out.alloc HB.out.size _) hb9)
            clear hb9
            go_wp2
            go_ret
            exact ⟨ret_bool HF.out.symm, HB9.out⟩
          | true =>
            obtain ⟨n1, n2⟩ := right_count hrb
            have HRB := Lib.hid hrb
            rw [hrb] at HRX
            go_wp2_with fail
            refine HRX.out.mono ?_
            rintro e w9 ⟨rfl, hb9⟩
            have HB9 := Lib.hid (bstep (HB.out.alloc HB.out.size _) hb9)
            have d9 := ((BlkIs.new wr #[.string r.mark, .int .i64 r.tx, .int .i64 r.ty, .int .i64 r.at_.x, .int .i64 r.at_.y, .int .i64 r.at_.z, .int .i64 r.step.x, .int .i64 r.step.y, .int .i64 r.step.z, .int .i64 r.count] 60).below hb9).cell 9
            clear hb9 c0 c1 c2 c3 c4 c5 c6 c7 c8 c9
            by_cases hc : 2000 - q < r.count
            · have HF := Lib.hid (HN4.out hc)
              go_wp2
              go_ret
              exact ⟨ret_bool HF.out.symm, HB9.out⟩
            · go_wp2
              go_roundw
              case rel => exact ⟨k + 1, by omega, by go_num, by rw [HS.out]; exact val_int (by omega), HB9.out, fun j z hj hz => by
                by_cases e : j = k
                · subst e; rw [HY.out] at hz; cases hz; exact HRB.out
                · exact hR.out.1 j z (by omega) hz, by rw [HS.out]; omega, by rw [HS.out]; omega⟩
              case measure => simp [intOf]; omega
        · obtain rfl : k = rs.length := by omega
          have HT := Lib.hid (laid_yes HSO.out H60.out hR.out.1 hR.out.2.2)
          go_wp2
          go_ret
          exact ⟨ret_bool HT.out.symm, hBr⟩
end Go.Proofs.Ytpidjgljeooblaa
