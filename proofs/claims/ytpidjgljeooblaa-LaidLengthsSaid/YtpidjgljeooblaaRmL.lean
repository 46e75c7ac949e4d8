/-
  Small schedules and runs: the reference's test answers.
-/
import Derived.Test.YtpidjgljeooblaaRmK
namespace Go.Proofs.Ytpidjgljeooblaa
open Go.RowKit
set_option linter.unusedVariables false
set_option linter.unusedSimpArgs false

/-- Some Bool, and nothing that was there has turned. -/
def SomeB (w : World) (e : Ending) (w' : World) : Prop := ∃ q : Bool, e = .returned (.bool q) ∧ Below w.heap.size w w'

theorem rshort_any (x : BarD) (dv : Value) (w : World) (hd : Ints w dv x.dims) :
    Calls Try.prog 51 #[barv x dv] w (SomeB w) := by
  obtain ⟨ao, cap, rfl, hdx⟩ := hd
  clear hdx
  by_cases h1 : x.dims.length ≤ 8
  · have d1 : decide ((x.dims.length : Int) ≤ 8) = true := dec_yes (by omega)
    have h2 : (x.dims.length : Int) ≤ 8 := by omega
    clear h1
    go_enter Try.func51, Try.ntmps51
    go_wp2
    all_goals
      go_ret
      exact ⟨_, rfl, by go_grown⟩
  · have d1 : decide ((x.dims.length : Int) ≤ 8) = false := dec_no (by omega)
    have h2 : ¬ (x.dims.length : Int) ≤ 8 := by omega
    clear h1
    go_enter Try.func51, Try.ntmps51
    go_wp2
    all_goals
      go_ret
      exact ⟨_, rfl, by go_grown⟩

set_option maxHeartbeats 4000000 in
theorem rsmall_any (v vr : Value) (l : List BarD) (rs : List RunD) (mo : Int) (w : World) (hp : Bars w v l) (hr : Runs w vr rs) (hl : l.length ≤ 140737488355328) (hlr : rs.length ≤ 140737488355328) (hm0 : 0 ≤ mo) (hm1 : mo ≤ 60) :
    Calls Try.prog 26 #[v, vr, .int .i64 8, .int .i64 mo] w (SomeB w) := by
  obtain ⟨ao, cap, rfl⟩ := hp.at_
  obtain ⟨ro, rcap, rfl⟩ := hr.at_
  have HP := Lib.hid hp
  have HR := Lib.hid hr
  clear hp hr
  go_enter Try.func26, Try.ntmps26
  go_wp2_with fail
  all_goals try
    (go_ret; exact ⟨_, rfl, Below.refl _ _⟩)
  all_goals
    go_loopw [9] (fun i wr => ∃ k : Nat, k ≤ l.length ∧ i = .int .i64 k ∧ Below w.heap.size w wr) (fun i _ => l.length - (intOf i).toNat)
    case atStart => exact ⟨0, Nat.zero_le _, rfl, Below.refl _ _⟩
    case round =>
      obtain ⟨k, hk, rfl, hBr⟩ := hrel
      by_cases hk2 : k < l.length
      · obtain ⟨x, hy⟩ : ∃ y, l[k]? = some y := ⟨_, List.getElem?_eq_getElem hk2⟩
        have HPr := Lib.hid (HP.out.below hBr)
        obtain ⟨b, off, rfl, hbl, c0, c1, c2, c3, uo, uc, c4, hdim⟩ := bars_get HPr.out hy
        have HSH := Lib.hid (rshort_any x (.slice uo x.dims.length uc) wr hdim)
        have HB := Lib.hid hBr
        clear hy hdim hBr
        go_wp2_with fail
        refine HSH.out.mono ?_
        rintro e w9 ⟨q, rfl, hb9⟩
        have HB9 := Lib.hid (bstep HB.out hb9)
        clear hb9 c0 c1 c2 c3 c4
        cases q
        · go_wp2
          go_ret
          exact ⟨_, rfl, HB9.out⟩
        · go_wp2
          go_roundw
          case rel => exact ⟨k + 1, by omega, by go_num, HB9.out⟩
          case measure => simp [intOf]; omega
      · obtain rfl : k = l.length := by omega
        have HB := Lib.hid hBr
        clear hBr
        obtain ⟨wo, rfl⟩ : ∃ wo : World, wo = wr := ⟨_, rfl⟩
        go_wp2_with fail
        go_loop [10, 11] (fun t i => ∃ (k : Nat) (q : Int), k ≤ rs.length ∧ i = .int .i64 k ∧ t = .int .i64 q ∧ 0 ≤ q ∧ q ≤ k * 60) (fun _ i => rs.length - (intOf i).toNat)
        case atStart => exact ⟨0, 0, Nat.zero_le _, rfl, rfl, by omega, by omega⟩
        case round =>
          obtain ⟨k, q, hk, rfl, rfl, q0, q1⟩ := hrel
          by_cases hk2 : k < rs.length
          · obtain ⟨r, hy⟩ : ∃ y, rs[k]? = some y := ⟨_, List.getElem?_eq_getElem hk2⟩
            obtain ⟨b, off, rfl, hbl, c0, c1, c2, c3, c4, c5, c6, c7, c8, c9⟩ := runs_get (HR.out.below HB.out) hy
            clear hy c1 c2 c3 c4 c5 c6 c7 c8
            by_cases h1 : (60 : Int) < (r.mark.size : Int)
            · go_wp2
              go_ret
              exact ⟨_, rfl, HB.out⟩
            · by_cases h2 : mo < r.count
              · by_cases h3 : r.count ≤ 2000
                · have d1 : decide (mo < r.count) = true := dec_yes h2
                  have d2 : decide (r.count ≤ 2000) = true := dec_yes h3
                  go_wp2
                  go_ret
                  exact ⟨_, rfl, HB.out⟩
                · have d1 : decide (mo < r.count) = true := dec_yes h2
                  have d2 : decide (r.count ≤ 2000) = false := dec_no h3
                  have d3 : decide (0 < r.count) = true := dec_yes (by omega)
                  have d4 : decide (r.count ≤ mo) = false := dec_no (by omega)
                  have h4 : 0 < r.count := by omega
                  have h5 : ¬ r.count ≤ mo := by omega
                  go_wp2
                  go_round
                  case rel => exact ⟨k + 1, q, by omega, by go_num, rfl, q0, by omega⟩
                  case measure => simp [intOf]; omega
              · have d1 : decide (mo < r.count) = false := dec_no h2
                by_cases h4 : 0 < r.count
                · have d3 : decide (0 < r.count) = true := dec_yes h4
                  have d4 : decide (r.count ≤ mo) = true := dec_yes (by omega)
                  have h5 : r.count ≤ mo := by omega
                  go_wp2
                  go_round
                  case rel => exact ⟨k + 1, q + r.count, by omega, by go_num, rfl, by omega, by omega⟩
                  case measure => simp [intOf]; omega
                · have d3 : decide (0 < r.count) = false := dec_no h4
                  go_wp2
                  go_round
                  case rel => exact ⟨k + 1, q, by omega, by go_num, rfl, q0, by omega⟩
                  case measure => simp [intOf]; omega
          · obtain rfl : k = rs.length := by omega
            by_cases h1 : q ≤ mo
            · have d1 : decide (q ≤ mo) = true := dec_yes h1
              go_wp2
              go_ret
              exact ⟨_, rfl, HB.out⟩
            · have d1 : decide (q ≤ mo) = false := dec_no h1
              go_wp2
              go_ret
              exact ⟨_, rfl, HB.out⟩
end Go.Proofs.Ytpidjgljeooblaa
