/-
  Reference 39: without, Free.
-/
import Derived.Test.YthmlejijfgbfbaaGreatSqp
import Derived.Test.YthmlejijfgbfbaaGreatSqr
namespace Go.Proofs.YthmlejijfgbfbaaGreat
section
open Go.RowKit
set_option linter.unusedVariables false
set_option linter.unusedSimpArgs false
attribute [local go_sem ↓] Go.wp_at_zero Go.wp_at_succ

theorem woN_snoc {l : List Nat} {x k y : Nat} (h : l[k]? = some y) : woN (l.take (k + 1)) x = woN (l.take k) x ++ if y = x then [] else [y] := by
  have hk := (List.getElem?_eq_some_iff.1 h).1
  unfold woN
  rw [List.take_succ_eq_append_getElem hk, (List.getElem?_eq_some_iff.1 h).2, List.filter_append]
  congr 1
  by_cases e : y = x
  · rw [if_pos e, List.filter_cons_of_neg (by simpa using e)]; rfl
  · rw [if_neg e, List.filter_cons_of_pos (by simpa using e)]; rfl
theorem woN_le (l : List Nat) (x : Nat) : (woN l x).length ≤ l.length := List.length_filter_le _ _
set_option maxHeartbeats 1000000 in
theorem rwo_any (v : Value) (l : List Nat) (x : Nat) (w : World) (h : Sl w natf v l) (hl : l.length ≤ 1000) :
    Calls Tryz.prog 97 #[v, .int .i64 (x : Int)] w fun e w' => ∃ o, e = .returned o ∧ Hid (Own w' w.heap.size 3 natf o (woN l x)) ∧ Below w.heap.size w w' := by
  obtain ⟨lo, lc, rfl⟩ := h.at_
  have HL := Lib.hid h
  clear h
  go_enter Tryz.func97, Tryz.ntmps97
  go_wp2_with fail
  go_loopw [5, 6] (fun o i wr => ∃ k : Nat, k ≤ l.length ∧ i = .int .i64 (k : Int) ∧ Below w.heap.size w wr ∧ Own wr w.heap.size 3 natf o (woN (l.take k) x)) (fun _ i _ => l.length - (intOf i).toNat)
  case atStart => exact ⟨0, Nat.zero_le _, rfl, Below.refl _ _, Own.nil _ _ _ _⟩
  case round =>
    obtain ⟨k, hk, rfl, hBr, hown⟩ := hrel
    have HB := Lib.hid hBr
    have HO := Lib.hid hown
    clear hBr hown
    by_cases hk2 : k < l.length
    · obtain ⟨y, hy⟩ : ∃ y, l[k]? = some y := ⟨_, List.getElem?_eq_getElem hk2⟩
      obtain ⟨lb, loff, rfl, hlb, g0⟩ := nats_get (Sl.below HL.out HB.out : Nats wr _ l) hy
      have HSN := Lib.hid (woN_snoc (x := x) hy)
      have hwl := woN_le (l.take k) x
      rw [List.length_take] at hwl
      by_cases hq : y = x
      · rw [if_pos hq, List.append_nil] at HSN
        have d1 : ((y : Int) != (x : Int)) = false := bne_no (by omega)
        clear hy hq
        go_wp2
        go_roundw
        case rel => exact ⟨k + 1, by omega, by go_num, HB.out, by rw [HSN.out]; exact HO.out⟩
        case measure => simp [intOf]; omega
      · rw [if_neg hq] at HSN
        have d1 : ((y : Int) != (x : Int)) = true := bne_yes (by omega)
        have hln : (woN (l.take k) x).length + 1 ≤ 1099511627776 := by omega
        have hb0 : w.heap.size ≤ wr.heap.size := HB.out.size
        obtain ⟨oo, oc, hoo⟩ := HO.out.shape
        subst hoo
        generalize hE1 : woN (l.take k) x = E1 at *
        clear hy hq hE1
        go_wp2_with (at_builtin; refine wpList_pushO wr wr.heap.size rfl rfl _ _ 24 rfl 3 8 elemInt w.heap.size natf _ _ y rfl HO.out rfl rfl hln (by omega) hb0 ?_; intro v' w' hown' hg' hat'; have HW9 := Lib.hid hown'; have HB9 := Lib.hid (HB.out.grown hg' hb0 (fun j hj => (HO.out.lt j hj).1)); clear hown' hg' hat')
        go_roundw
        case rel => exact ⟨k + 1, by omega, by go_num, HB9.out, by rw [HSN.out]; exact HW9.out⟩
        case measure => simp [intOf]; omega
    · obtain rfl : l.length = k := by omega
      rw [List.take_length] at HO
      obtain ⟨oo, oc, hoo⟩ := HO.out.shape
      subst hoo
      go_wp2
      go_ret
      exact ⟨_, rfl, HO.out, HB.out⟩
end
end Go.Proofs.YthmlejijfgbfbaaGreat
