/-
  Boxes that hold others; the size of a laid bar in the reference; what is near; Sweep; ContainsFunc over boxes.
-/
import Derived.Test.YtpiigmhbbcjamaaGreatBkI
namespace Go.Proofs.YtpiigmhbbcjamaaGreat
open Go.RowKit
set_option linter.unusedVariables false
set_option linter.unusedSimpArgs false
attribute [local go_sem ↓] Go.wp_at_zero Go.wp_at_succ

/-! ### ContainsFunc over boxes -/
def BoxPred (F : Nat) (caps : Array Value) (p : Bx → Bool) (l : List Bx) (w : World) : Prop :=
  (∀ (xs : Array Value) (W : World), (callFunc F xs).run Tryz.prog W = .ok (.enter F xs) W) ∧
  ∀ (x : Bx) (W : World), x ∈ l → Below w.heap.size w W → Calls Tryz.prog F (#[bxv x] ++ caps) W fun e w1 => e = .returned (.bool (p x)) ∧ Below W.heap.size W w1
set_option maxRecDepth 100000 in
set_option maxHeartbeats 1000000 in
theorem indexBx_any (F : Nat) (caps : Array Value) (p : Bx → Bool) (v : Value) (l : List Bx) (w : World) (hp : Bxs w v l) (hl : l.length ≤ 140737488355328) (hC : BoxPred F caps p l w) :
    Calls Tryz.prog 121 #[v, .func (.func F) #[] caps] w fun e w' => (∃ i : Int, e = .returned (.int .i64 i) ∧ decide (0 ≤ i) = l.any p) ∧ Below w.heap.size w w' := by
  obtain ⟨hF, hC⟩ := hC
  obtain ⟨ao, cap, rfl⟩ := hp.at_
  have HP := Lib.hid hp
  have HC := Lib.hid hC
  clear hp hC
  go_enter Tryz.func121, Tryz.ntmps121
  go_wp2
  go_loopw [5, 8] (fun _ i wr => ∃ k : Nat, k ≤ l.length ∧ i = .int .i64 k ∧ Below w.heap.size w wr ∧ Hid (∀ (j : Nat) y, j < k → l[j]? = some y → p y = false)) (fun _ i _ => l.length - (intOf i).toNat)
  case atStart => exact ⟨0, Nat.zero_le _, rfl, Below.refl _ _, fun j _ hj => by omega⟩
  case round =>
    obtain ⟨k, hk, rfl, hBr, hno⟩ := hrel
    by_cases hk2 : k < l.length
    · obtain ⟨x, hy⟩ : ∃ y, l[k]? = some y := ⟨_, List.getElem?_eq_getElem hk2⟩
      obtain ⟨b, off, rfl, hbl, c0, c1, c2, c3, c4, c5⟩ := bxs_get (HP.out.below hBr) hy
      have HK := Lib.hid (HC.out x wr (List.mem_of_getElem? hy) hBr)
      have HY := Lib.hid hy
      obtain ⟨q, hq⟩ : ∃ q, p x = q := ⟨_, rfl⟩
      rw [hq] at HK
      have HQ := Lib.hid hq
      clear hy hq
      cases q
      · go_wp2_with fail
        refine HK.out.mono ?_
        rintro e w9 ⟨rfl, hb9⟩
        have hB9 := bstep hBr hb9
        go_wp2
        go_roundw
        case rel => exact ⟨k + 1, by omega, by go_num, hB9, fun j z hj hz => by
          by_cases e : j = k
          · subst e; rw [HY.out] at hz; cases hz; exact HQ.out
          · exact hno j z (by omega) hz⟩
        case measure => simp [intOf]; omega
      · have HR := Lib.hid (show l.any p = true from List.any_eq_true.2 ⟨x, List.mem_of_getElem? HY.out, HQ.out⟩)
        go_wp2_with fail
        refine HK.out.mono ?_
        rintro e w9 ⟨rfl, hb9⟩
        have hB9 := bstep hBr hb9
        go_wp2
        go_ret
        exact ⟨⟨k, rfl, by rw [HR.out]; simp⟩, hB9⟩
    · have HR := Lib.hid (show l.any p = false from List.any_eq_false.2 fun x hx => by
        obtain ⟨j, hj, rfl⟩ := List.getElem_of_mem hx
        rw [hno j _ (by omega) (List.getElem?_eq_getElem hj)]
        simp)
      go_wp2
      go_ret
      exact ⟨⟨-1, rfl, by rw [HR.out]; rfl⟩, hBr⟩
theorem anyBx_any (F : Nat) (caps : Array Value) (p : Bx → Bool) (v : Value) (l : List Bx) (w : World) (hp : Bxs w v l) (hl : l.length ≤ 140737488355328) (hC : BoxPred F caps p l w) :
    Calls Tryz.prog 110 #[v, .func (.func F) #[] caps] w fun e w' => e = .returned (.bool (l.any p)) ∧ Below w.heap.size w w' := by
  have HI := Lib.hid (indexBx_any F caps p v l w hp hl hC)
  clear hC hp
  generalize l.any p = q at *
  go_enter Tryz.func110, Tryz.ntmps110
  go_wp2_with fail
  refine HI.out.mono ?_
  rintro e w9 ⟨⟨i, rfl, hi⟩, hb1⟩
  have HR := Lib.hid hi
  clear hi
  go_wp2
  go_ret
  exact ⟨ret_bool HR.out, hb1⟩

/-! ### Contains -/
def axI (a b : Bx) (k : Nat) : Prop := ax a.lo k ≤ ax b.lo k ∧ ax b.hi k ≤ ax a.hi k
def inclB (a b : Bx) : Bool := decide ((a.lo.x ≤ b.lo.x ∧ b.hi.x ≤ a.hi.x) ∧ (a.lo.y ≤ b.lo.y ∧ b.hi.y ≤ a.hi.y) ∧ (a.lo.z ≤ b.lo.z ∧ b.hi.z ≤ a.hi.z))
theorem inclB_no {a b : Bx} {k : Nat} (hk : k < 3) (h : ¬ axI a b k) : inclB a b = false := by
  unfold axI ax at h
  unfold inclB
  obtain rfl | rfl | rfl : k = 0 ∨ k = 1 ∨ k = 2 := by omega
  · exact dec_no (fun h2 => h h2.1)
  · exact dec_no (fun h2 => h h2.2.1)
  · exact dec_no (fun h2 => h h2.2.2)
theorem inclB_yes {a b : Bx} (h : ∀ k, k < 3 → axI a b k) : inclB a b = true := dec_yes ⟨h 0 (by omega), h 1 (by omega), h 2 (by omega)⟩
theorem incl_point {b : Bx} {p : Pt} (h : inBx b p) : inclB b ⟨p, p⟩ = true := dec_yes h
/-! ### Sweep of legs -/
/-! ### the size of a laid bar in the reference; what is near -/
theorem field_size (b : BarD) (dv : Value) (W : World) : (Instr.field 87 (barv b dv) 1).run Tryz.prog W = .ok (.int .i64 b.size) W := by kernel_rfl
theorem rbarS_any (v vr : Value) (l : List BarD) (rs : List RunD) (n : Nat) (w : World) (hp : Bars w v l) (hr : Runs w vr rs) (hl : l.length ≤ 140737488355328) (h : laidOk l rs = true) (hn : n < cumN rs) :
    Calls Tryz.prog 69 #[v, vr, .int .i64 (n : Int)] w fun e w' => ∃ b dv, e = .returned (barv b dv) ∧ b.size = (szsOf l rs).getD n 0 ∧ Below w.heap.size w w' := by
  obtain ⟨q, b', hF⟩ := laid_fact h hn
  obtain ⟨k, j, r, hk, hj, hij⟩ := cum_place hn
  obtain ⟨b, line, ok, turn, hat, c1, c2, hst, hpts⟩ := laid_place h hk hj
  obtain ⟨t, ht, hb, hbm⟩ := lineOf_some line
  obtain ⟨s1, s2, s3, s4, s5⟩ := laid_sum h
  obtain ⟨ao, cap, rfl⟩ := hp.at_
  obtain ⟨bb, off, rfl, hbl, x0, x1, x2, x3, uo, uc, x4, hdx⟩ := bars_get hp hb
  refine (rbar_any bb off cap vr l rs n k j r b uo uc t w hp hr hl s2 s3 hn (by omega) hk hj hij ht hb x4).mono fun e w' ⟨h1, h2⟩ => ⟨b, _, h1, ?_, h2⟩
  have hm : (laidMarks rs)[n]? = some r.mark := by rw [hij]; exact laidMarks_at hk hj
  have hm2 : b'.mark = r.mark := Option.some.inj (hF.mark.symm.trans hm)
  obtain ⟨t', ht', hb'⟩ := hF.find
  rw [hm2, ht] at ht'
  have : t = t' := by omega
  subst this
  rw [hb] at hb'
  cases hb'
  exact hF.sat.symm
end Go.Proofs.YtpiigmhbbcjamaaGreat
