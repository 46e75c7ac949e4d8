/-
  The reference of ways: Sweep.
-/
import Derived.Test.YtnlloecbjohfdaaGreatRne
import Derived.Test.YtnlloecbjohfdaaGreatBkw
namespace Go.Proofs.YtnlloecbjohfdaaGreat
section
open Go.RowKit
set_option linter.unusedVariables false
set_option linter.unusedSimpArgs false
attribute [local go_sem ↓] Go.wp_at_zero Go.wp_at_succ

set_option maxRecDepth 100000 in
set_option maxHeartbeats 1000000 in
theorem rsweep_any (v : Value) (l : List Bx) (x : Int) (w : World) (hp : Bxs w v l) (hl : l.length ≤ 1000000) (hx : axB x = true) :
    Calls Tryz.prog 16 #[v, .int .i64 x] w fun e w' => ∃ o, e = .returned o ∧ Hid (OwnBxs w' w.heap.size o (l.map fun b => wayB b x)) ∧ Below w.heap.size w w' := by
  obtain ⟨ao, cap, rfl⟩ := hp.at_
  have HP := Lib.hid hp
  have HX := Lib.hid hx
  clear hp hx
  go_enter Tryz.func16, Tryz.ntmps16
  go_wp2
  go_loopw [5, 6] (fun o i wr => ∃ k : Nat, k ≤ l.length ∧ i = .int .i64 k ∧ Below w.heap.size w wr ∧ OwnBxs wr w.heap.size o ((l.take k).map fun b => wayB b x)) (fun _ i _ => l.length - (intOf i).toNat)
  case atStart => exact ⟨0, Nat.zero_le _, rfl, Below.refl _ _, OwnN.nil _ _ _ _ _⟩
  case round =>
    obtain ⟨k, hk, rfl, hBr, hown⟩ := hrel
    by_cases hk2 : k < l.length
    · obtain ⟨p, hy⟩ : ∃ y, l[k]? = some y := ⟨_, List.getElem?_eq_getElem hk2⟩
      obtain ⟨b, off, rfl, hbl, c0, c1, c2, c3, c4, c5⟩ := bxs_get (HP.out.below hBr) hy
      have HM := Lib.hid (snoc_map (fun b => wayB b x) hy)
      have HB := Lib.hid hBr
      have HO := Lib.hid hown
      have HW := Lib.hid (fun W => rway_any p x W HX.out)
      have hl2 : ((l.take k).map fun b => wayB b x).length + 1 ≤ 1099511627776 := by simp; omega
      clear hy hBr hown
      go_wp2_with fail
      refine (HW.out _).mono ?_
      rintro e w9 ⟨rfl, hb9⟩
      have HB9 := Lib.hid (bstep HB.out hb9)
      have HO9 := Lib.hid (OwnN.below HO.out hb9)
      have hbase : w.heap.size ≤ w9.heap.size := HB9.out.size
      clear hb9
      generalize wayB p x = q at *
      go_wp2_with (at_builtin; refine wpList_pushAt _ w9.heap.size (by simp) rfl _ _ 22 rfl 36 6 48 elemBx w.heap.size bxCells _ _ q _ rfl rfl (bx_one _) HO9.out rfl rfl hl2 (by omega) hbase ?_; intro v' w' hown' hg' hat'; have HO8 := Lib.hid hown'; have HB8 := Lib.hid (HB9.out.grown hg' HB9.out.size (fun j hj => (HO9.out.lt j hj).1)); clear hown' hg' hat')
      go_roundw
      case rel => exact ⟨k + 1, by omega, by go_num, HB8.out, by rw [HM.out]; exact HO8.out⟩
      case measure => simp [intOf]; omega
    · obtain rfl : k = l.length := by omega
      rw [List.take_length] at hown
      have HO := Lib.hid hown
      have HB := Lib.hid hBr
      clear hown hBr
      obtain ⟨oo, oc, rfl⟩ := OwnN.shape HO.out
      go_wp2
      go_ret
      exact ⟨_, rfl, HO.out, HB.out⟩
end
end Go.Proofs.YtnlloecbjohfdaaGreat
