/-
  slices.Equal at []int.
-/
import Derived.Test.YtnlloecbjohfdaaGreatLia
namespace Go.Proofs.YtnlloecbjohfdaaGreat
open Go.RowKit
set_option linter.unusedVariables false

set_option maxHeartbeats 400000 in
theorem equal_any (v v' : Value) (l l' : List Int) (w : World) (h : Ints w v l) (h' : Ints w v' l') (hl : l.length ≤ 140737488355328) (hl' : l'.length ≤ 140737488355328) :
    Calls Tryz.prog 47 #[v, v'] w fun e w' => e = .returned (.bool (decide (l = l'))) ∧ Below w.heap.size w w' := by
  obtain ⟨ao, cap, rfl, h⟩ := h
  obtain ⟨ao', cap', rfl, h'⟩ := h'
  by_cases hle : l.length = l'.length
  · have hne : ((l.length : Int) != (l'.length : Int)) = false := by rw [hle]; simp
    have HL := Lib.hid hle
    clear hle
    go_enter Tryz.func47, Tryz.ntmps47
    go_wp2
    go_loopw [5, 13] (fun _ i wr => ∃ k : Nat, k ≤ l.length ∧ i = .int .i64 k ∧ Below w.heap.size w wr ∧ Hid (∀ j, j < k → l[j]? = l'[j]?)) (fun _ i _ => l.length - (intOf i).toNat)
    case atStart => exact ⟨0, Nat.zero_le _, rfl, Below.refl _ _, fun j hj => by omega⟩
    case round =>
      obtain ⟨k, hk, rfl, hB, hno⟩ := hrel
      by_cases hlt : k < l.length
      · have hlt' : k < l'.length := by rw [← HL.out]; exact hlt
        obtain ⟨b, off, rfl, hbs, hc⟩ := h (by omega)
        obtain ⟨b', off', rfl, hbs', hc'⟩ := h' (by omega)
        obtain ⟨y, hy⟩ : ∃ y, l[k]? = some y := ⟨_, List.getElem?_eq_getElem hlt⟩
        obtain ⟨y', hy'⟩ : ∃ y, l'[k]? = some y := ⟨_, List.getElem?_eq_getElem hlt'⟩
        have hck := (hB.cell (p := ⟨b, off + k, none⟩) hbs).trans (hc k y hy)
        have hck' := (hB.cell (p := ⟨b', off' + k, none⟩) hbs').trans (hc' k y' hy')
        clear hc hc' h h'
        have HY := Lib.hid hy
        have HY' := Lib.hid hy'
        clear hy hy'
        have i1 : (k : Int) < (l.length : Int) := by omega
        have i2 : (k : Int) < (l'.length : Int) := by omega
        by_cases hx : y = y'
        · have hxb : (y != y') = false := by simp [hx]
          have HX := Lib.hid hx
          clear hx
          go_wp2
          go_quiet (fail)
          go_wp2
          go_roundw
          case rel => exact ⟨k + 1, by omega, by go_num, below_drewN' hB _, fun j hj => by
            by_cases e : j = k
            · subst e; rw [HY.out, HY'.out, HX.out]
            · exact hno j (by omega)⟩
          case measure => simp [intOf]; omega
        · have hxb : (y != y') = true := by simp [hx]
          have HX := Lib.hid hx
          clear hx
          go_wp2
          go_quiet (fail)
          go_wp2
          go_ret
          exact ⟨ret_bool (by
            refine (decide_eq_false fun e => HX.out ?_).symm
            have h1 := HY.out
            rw [e, HY'.out] at h1
            cases h1; rfl), below_drewN' hB _⟩
      · clear h h'
        go_wp2
        go_ret
        exact ⟨ret_bool (by
          refine (decide_eq_true ?_).symm
          refine List.ext_getElem? fun j => ?_
          rcases Nat.lt_or_ge j l.length with h1 | h1
          · exact hno j (by omega)
          · rw [List.getElem?_eq_none h1, List.getElem?_eq_none (by rw [← HL.out]; exact h1)]), hB⟩
  · have hne : ((l.length : Int) != (l'.length : Int)) = true := by rw [bne_iff_ne]; omega
    clear h h'
    have HL := Lib.hid hle
    clear hle
    go_enter Tryz.func47, Tryz.ntmps47
    go_wp2
    go_ret
    exact ⟨ret_bool (decide_eq_false fun e => HL.out (by rw [e])).symm, Below.refl _ _⟩

end Go.Proofs.YtnlloecbjohfdaaGreat
