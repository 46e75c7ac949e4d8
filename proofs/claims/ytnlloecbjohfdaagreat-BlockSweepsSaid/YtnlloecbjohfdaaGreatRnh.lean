/-
  The reference of boxes: All.
-/
import Derived.Test.YtnlloecbjohfdaaGreatRng
namespace Go.Proofs.YtnlloecbjohfdaaGreat
section
open Go.RowKit
set_option linter.unusedVariables false
set_option linter.unusedSimpArgs false
attribute [local go_sem ↓] Go.wp_at_zero Go.wp_at_succ

theorem all_no {l : List Bx} {k : Nat} {x : Bx} (h : l[k]? = some x) (hx : bxOk x = false) : l.all bxOk = false := by
  rw [List.all_eq_false]
  exact ⟨x, List.mem_of_getElem? h, by simp [hx]⟩
theorem all_ok {l : List Bx} (h : ∀ (j : Nat) y, j < l.length → l[j]? = some y → bxOk y = true) : l.all bxOk = true := by
  rw [List.all_eq_true]
  intro x hx
  obtain ⟨j, hj, rfl⟩ := List.mem_iff_getElem.1 hx
  exact h j _ hj (List.getElem?_eq_getElem hj)
set_option maxRecDepth 100000 in
theorem rall_any (v : Value) (l : List Bx) (w : World) (hp : Bxs w v l) (hl : l.length ≤ 140737488355328) :
    Calls Tryz.prog 13 #[v] w fun e w' => e = .returned (.bool (l.all bxOk)) ∧ Below w.heap.size w w' := by
  obtain ⟨ao, cap, rfl⟩ := hp.at_
  have HP := Lib.hid hp
  have HNO := Lib.hid (fun (k : Nat) (x : Bx) (h : l[k]? = some x) (hx : bxOk x = false) => all_no h hx)
  have HYE := Lib.hid (all_ok (l := l))
  generalize l.all bxOk = ok at *
  clear hp
  go_enter Tryz.func13, Tryz.ntmps13
  go_wp2
  go_loopw [3] (fun i wr => ∃ k : Nat, k ≤ l.length ∧ i = .int .i64 k ∧ Below w.heap.size w wr ∧ Hid (∀ (j : Nat) y, j < k → l[j]? = some y → bxOk y = true)) (fun i _ => l.length - (intOf i).toNat)
  case atStart => exact ⟨0, Nat.zero_le _, rfl, Below.refl _ _, fun j y hj => by omega⟩
  case round =>
    obtain ⟨k, hk, rfl, hBr, HA⟩ := hrel
    by_cases hk2 : k < l.length
    · obtain ⟨p, hy⟩ : ∃ y, l[k]? = some y := ⟨_, List.getElem?_eq_getElem hk2⟩
      obtain ⟨b, off, rfl, hbl, c0, c1, c2, c3, c4, c5⟩ := bxs_get (HP.out.below hBr) hy
      have HB := Lib.hid hBr
      have HI := Lib.hid hy
      have HV := Lib.hid (fun W => rvalid9_any p W)
      have HNP := Lib.hid (HNO.out k p hy)
      have HPP : Hid (bxOk p = bxOk p) := rfl
      obtain ⟨q, hq⟩ : ∃ q, bxOk p = q := ⟨_, rfl⟩
      have HQ := Lib.hid hq
      rw [hq] at HV
      clear hy hBr hbl hq HPP
      go_wp2_with fail
      refine (HV.out _).mono ?_
      rintro e w9 ⟨rfl, hb9⟩
      have HB9 := Lib.hid (bstep HB.out hb9)
      clear hb9 c0 c1 c2 c3 c4 c5
      cases q with
      | false =>
        have HF := Lib.hid (HNP.out HQ.out)
        go_wp2
        go_ret
        exact ⟨ret_bool HF.out.symm, HB9.out⟩
      | true =>
        go_wp2
        go_roundw
        case rel => exact ⟨k + 1, by omega, by go_num, HB9.out, fun j y hj hjy => by
          by_cases e : j = k
          · subst e; rw [HI.out] at hjy; cases hjy; exact HQ.out
          · exact HA.out j y (by omega) hjy⟩
        case measure => simp [intOf]; omega
    · obtain rfl : k = l.length := by omega
      have HT := Lib.hid (HYE.out (fun j y hj hjy => HA.out j y hj hjy))
      go_wp2
      go_ret
      exact ⟨ret_bool HT.out.symm, hBr⟩
end
end Go.Proofs.YtnlloecbjohfdaaGreat
