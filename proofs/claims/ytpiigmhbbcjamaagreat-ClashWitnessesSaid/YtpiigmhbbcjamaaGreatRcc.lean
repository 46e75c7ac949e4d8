/-
  Reference 19: the legs of a laid bar, size.
-/
import Derived.Test.YtpiigmhbbcjamaaGreatRcb
import Derived.Test.YtpiigmhbbcjamaaGreatBkS
namespace Go.Proofs.YtpiigmhbbcjamaaGreat
section
open Go.RowKit
set_option linter.unusedVariables false
set_option linter.unusedSimpArgs false
attribute [local go_sem ↓] Go.wp_at_zero Go.wp_at_succ

theorem rlegs19_any (v vr : Value) (l : List BarD) (rs : List RunD) (i : Nat) (w : World) (hp : Bars w v l) (hr : Runs w vr rs) (hl : l.length ≤ 140737488355328) (h : laidOk l rs = true) (hi : i < cumN rs) :
    Calls Tryz.prog 41 #[v, vr, .int .i64 (i : Int)] w fun e w' => ∃ o, e = .returned o ∧ Hid (Bxs w' o (legsAt (lgsOf l rs) i)) ∧ Below w.heap.size w w' := by
  obtain ⟨q, b, hF⟩ := laid_fact h hi
  rw [hF.lat]
  exact (rlegs_any v vr l rs i q w hp hr hl h hi hF.pts).mono fun e w' ⟨o, h1, h2, h3⟩ => ⟨o, h1, OwnN.fl (fun _ => rfl) h2.out, h3⟩
theorem rsize19_any (v vr : Value) (l : List BarD) (rs : List RunD) (i : Nat) (w : World) (hp : Bars w v l) (hr : Runs w vr rs) (hl : l.length ≤ 140737488355328) (h : laidOk l rs = true) (hi : i < cumN rs) :
    Calls Tryz.prog 45 #[v, vr, .int .i64 (i : Int)] w fun e w' => e = .returned (.int .i64 ((szsOf l rs).getD i 0)) ∧ Below w.heap.size w w' := by
  have HB := Lib.hid (rbarS_any v vr l rs i w hp hr hl h hi)
  generalize (szsOf l rs).getD i 0 = z at *
  clear hp hr h hi
  go_enter Tryz.func45, Tryz.ntmps45
  go_wp2_with fail
  refine HB.out.mono ?_
  rintro e w1 ⟨b, dv, rfl, rfl, hb1⟩
  have HB1 := Lib.hid hb1
  have hfs := field_size b dv
  clear hb1 HB
  go_wp2
  go_ret
  exact ⟨rfl, HB1.out⟩
theorem rsquare19_any (v vr : Value) (l : List BarD) (rs : List RunD) (i k : Nat) (w : World) (hp : Bars w v l) (hr : Runs w vr rs) (hl : l.length ≤ 140737488355328) (h : laidOk l rs = true) (hi : i < cumN rs) (hk : k < cumN rs) :
    Calls Tryz.prog 15 #[v, vr, .int .i64 (i : Int), .int .i64 (k : Int)] w fun e w' => e = .returned (.int .i64 (sqAt (lgsOf l rs) i k).n) ∧ Below w.heap.size w w' := by
  have H1 := Lib.hid (fun W (hW : Below w.heap.size w W) => rlegs19_any v vr l rs i W (hp.below hW) (hr.below hW) hl h hi)
  have H2 := Lib.hid (fun W (hW : Below w.heap.size w W) => rlegs19_any v vr l rs k W (hp.below hW) (hr.below hW) hl h hk)
  have hz := lzOk_of h
  have LI := Lib.hid (hz.legs i (by rw [lgsOf_len]; exact hi))
  have LK := Lib.hid (hz.legs k (by rw [lgsOf_len]; exact hk))
  have HP := Lib.hid (fun o o' W (ha : Bxs W o (legsAt (lgsOf l rs) i)) (hb : Bxs W o' (legsAt (lgsOf l rs) k)) => rpoints19_any o o' (legsAt (lgsOf l rs) i) (legsAt (lgsOf l rs) k) W ha hb LI.out.2.1 LI.out.2.2 LK.out.2.1 LK.out.2.2)
  have HE : Hid (sqAt (lgsOf l rs) i k = allS (legsAt (lgsOf l rs) i) (legsAt (lgsOf l rs) k) (legsAt (lgsOf l rs) i).length) := rfl
  rw [HE.out]
  generalize allS (legsAt (lgsOf l rs) i) (legsAt (lgsOf l rs) k) (legsAt (lgsOf l rs) i).length = st at *
  obtain ⟨n, P, Q⟩ := st
  simp only at HP
  clear hp hr hz LI LK HE
  go_enter Tryz.func15, Tryz.ntmps15
  go_wp2_with fail
  refine (H1.out _ (Below.refl _ _)).mono ?_
  rintro e w1 ⟨o1, rfl, hx1, hb1⟩
  have HB1 := Lib.hid hb1
  clear hb1 H1
  go_wp2_with fail
  refine (H2.out _ HB1.out).mono ?_
  rintro e w2 ⟨o2, rfl, hx2, hb2⟩
  have HX1 := Lib.hid (Fl.below hx1.out hb2)
  have HB2 := Lib.hid (bstep HB1.out hb2)
  clear hb2 H2 hx1
  go_wp2_with fail
  refine (HP.out o1 o2 w2 HX1.out hx2.out).mono ?_
  rintro e w3 ⟨rfl, hb3⟩
  have HB3 := Lib.hid (bstep HB2.out hb3)
  have hsz := HB3.out.size
  clear hb3 HP
  go_wp2
  go_ret
  exact ⟨rfl, bstep HB3.out (by go_grown)⟩
end
end Go.Proofs.YtpiigmhbbcjamaaGreat
