/-
  yardAwake: the small example of the yard holds.
-/
import Derived.Test.YtejcgjdfajppgaaGreatDoorTpb
import Derived.Test.YtejcgjdfajppgaaGreatDoorTyp
namespace Go.Proofs.YtejcgjdfajppgaaGreatDoor
section
open Go.RowKit
set_option linter.unusedVariables false
set_option linter.unusedSimpArgs false
attribute [local go_sem ↓] Go.wp_at_zero Go.wp_at_succ

theorem yardL_ok : bunsOk yardL = true := by decide +kernel
theorem yardL_fit : FitU yardL := by
  intro b hb
  simp only [yardL, List.mem_cons, List.mem_nil_iff, or_false] at hb
  rcases hb with rfl | rfl | rfl <;> exact ⟨by decide, by decide⟩
theorem yardL_giv : givU yardL 4000 = 0 := by decide +kernel
theorem yard_two (a b c : Nat) (ha : a < 3) (hb : b < 3) (hc : c < 3) (hn : [a, b, c].Nodup) : (grd yardL 4000 [a, b, c]).1.length = 2 := by
  have h : ∀ a, a < 3 → ∀ b, b < 3 → ∀ c, c < 3 → [a, b, c].Nodup → (grd yardL 4000 [a, b, c]).1.length = 2 := by decide +kernel
  exact h a ha b hb c hc hn
theorem yard_loads {on : List Nat} {R : List (List Nat)} {M : List Int} (hp : on.Perm (List.range yardL.length)) (hg : GI yardL 4000 on on.length R M) : R.length = 2 ∧ YardOk yardL R := by
  have hlen : on.length = 3 := hp.length_eq
  have hnd : on.Nodup := hp.nodup_iff.2 List.nodup_range
  have hm : ∀ x ∈ on, x < 3 := fun x hx => by simpa [yardL] using hp.mem_iff.1 hx
  have heq := hg.eq
  rw [List.take_length] at heq
  refine ⟨?_, yardL_ok, by decide, yardL_fit, hg.perm.trans (by rw [List.take_length]; exact hp), by have := hg.few; rw [hlen] at this; exact this⟩
  match on, hlen with
  | [a, b, c], _ =>
    have := yard_two a b c (hm a (by simp)) (hm b (by simp)) (hm c (by simp)) hnd
    rw [← heq] at this
    exact this
theorem bars_yard (w : World) : Bars ((w.alloc (.cells #[.int .i64 1000] 3)).alloc (.cells #[.string ⟨#[97]⟩, .int .i64 12, .int .i64 5, .int .i64 0, .slice (some ⟨w.heap.size, 0, none⟩) 1 1] 42)) (.slice (some ⟨w.heap.size + 1, 0, none⟩) 1 1) [yardBar] := by
  obtain ⟨w0, hw0⟩ : ∃ w0, w.alloc (.cells #[.int .i64 1000] 3) = w0 := ⟨_, rfl⟩
  have hs : w0.heap.size = w.heap.size + 1 := by rw [← hw0]; simp
  have B0 : BlkIs w0 w.heap.size 3 #[.int .i64 1000] := by rw [← hw0]; exact BlkIs.new _ _ _
  rw [hw0]
  obtain ⟨w1, hw1⟩ : ∃ w1, w0.alloc (.cells #[.string ⟨#[97]⟩, .int .i64 12, .int .i64 5, .int .i64 0, .slice (some ⟨w.heap.size, 0, none⟩) 1 1] 42) = w1 := ⟨_, rfl⟩
  have B1 : BlkIs w1 (w.heap.size + 1) 42 #[.string ⟨#[97]⟩, .int .i64 12, .int .i64 5, .int .i64 0, .slice (some ⟨w.heap.size, 0, none⟩) 1 1] := by rw [← hw1, ← hs]; exact BlkIs.new _ _ _
  have B2 : BlkIs w1 w.heap.size 3 #[.int .i64 1000] := by rw [← hw1]; exact B0.alloc _
  rw [hw1]
  refine ⟨_, _, rfl, fun _ => ⟨w.heap.size + 1, 0, rfl, B1.lt, fun k x hk => ?_⟩⟩
  obtain rfl : k = 0 := by have := (List.getElem?_eq_some_iff.1 hk).1; simpa using this
  cases hk
  refine ⟨B1.cell 0, B1.cell 1, B1.cell 2, B1.cell 3, _, _, B1.cell 4, ?_⟩
  refine ⟨_, _, rfl, fun _ => ⟨w.heap.size, 0, rfl, B2.lt, fun j y hj => ?_⟩⟩
  have hj2 : ([1000] : List Int)[j]? = some y := hj
  obtain rfl : j = 0 := by have := (List.getElem?_eq_some_iff.1 hj2).1; simpa using this
  cases hj2
  exact B2.cell 0
set_option maxHeartbeats 2000000 in
set_option maxRecDepth 100000 in
theorem yardAwake_any (w : World) : Calls Tryz.prog 4 #[] w fun e w' => e = .returned (.bool true) ∧ Below w.heap.size w w' := by
  obtain ⟨w1, hw1⟩ : ∃ w1, (w.alloc (.cells #[.int .i64 1000] 3)).alloc (.cells #[.string ⟨#[97]⟩, .int .i64 12, .int .i64 5, .int .i64 0, .slice (some ⟨w.heap.size, 0, none⟩) 1 1] 42) = w1 := ⟨_, rfl⟩
  have HMK := Lib.hid (bmake_yard _ _ (bars_yard w))
  rw [hw1] at HMK
  have HB1 : Hid (Below w.heap.size w w1) := Lib.hid (by rw [← hw1]; exact (below_new w _).alloc (by simp) _)
  go_enter Tryz.func4, Tryz.ntmps4
  go_wp2_with fail
  refine HMK.out.mono ?_
  rintro e w2 ⟨o, rfl, ho, hb2⟩
  obtain ⟨oo, oc, rfl⟩ := ho.shape
  have HO2 : Hid (Buns w2 (.slice oo yardL.length oc) yardL) := Lib.hid (OwnN.fl bun_len ho)
  have HB2 := Lib.hid (bstep HB1.out hb2)
  have HG := Lib.hid (greedy_any _ yardL 4000 w2 HO2.out (by decide) yardL_fit)
  have hl3 : yardL.length = 3 := rfl
  rw [hl3] at HG ⊢
  clear ho hb2 HMK HB1 hw1
  go_wp2_with fail
  refine HG.out.mono ?_
  rintro e w3 ⟨o3, rfl, hb3, _, hG⟩
  rw [yardL_giv]
  obtain ⟨on, R, M, vals, base, hbase, hpm, hGI, hMV⟩ := hG yardL_giv
  obtain ⟨hR2, hY⟩ := yard_loads hpm hGI
  obtain ⟨Vo, Vc, rfl⟩ := hMV.2.1.shape
  have hv2 : vals.length = 2 := hMV.1.trans hR2
  rw [hv2]
  have HY := Lib.hid hY
  have HB3 := Lib.hid (bstep HB2.out hb3)
  have HO3 := Lib.hid (HO2.out.below hb3)
  have HN := Lib.hid (snew_good _ yardL mB w3 HO3.out (by decide) yardL_fit yardL_ok name_m sz_m)
  unfold mB at HN
  rw [hl3] at HN
  clear hG hpm hGI hMV hR2 hY hv2 hb3 HG HO2 hbase
  go_wp2_with fail
  refine HN.out.mono ?_
  rintro e w4 ⟨S, sb, rfl, hs1, hs2, hS, hb4⟩
  have HB4 := Lib.hid (bstep HB3.out hb4)
  have HS4 : Hid (SiteV w4 sb S (yard yardL R 0) (.slice none 0 0)) := Lib.hid (by rw [yard_zero]; exact hS)
  have HSB := Lib.hid hs2
  have HSL := Lib.hid (Nat.le_trans HB3.out.size hs1)
  have HAC := Lib.hid (saccount_any sb S (yard yardL R 0) w4 HS4.out.at_ (yardS_ok HY.out 0))
  have hwh : (yard yardL R 0).wh = [0, 0, 0] := by rw [yard_zero]; rfl
  rw [hwh] at HAC
  clear hS hb4 HN hs1 hs2 hwh
  go_wp2_with fail
  refine HAC.out.mono ?_
  rintro e w5 ⟨rfl, hb5⟩
  simp only [show (((List.count (0 : Int) [0, 0, 0] : Nat)) : Int) = 3 by decide, show (((List.count (1 : Int) [0, 0, 0] : Nat)) : Int) = 0 by decide, show (((List.count (2 : Int) [0, 0, 0] : Nat)) : Int) = 0 by decide]
  have HB5 := Lib.hid (bstep HB4.out hb5)
  have HS5 : Hid (SiteV w5 sb S (yard yardL R 0) (.slice none 0 0)) := Lib.hid (by
    obtain ⟨tv, wv, mo, h⟩ := HS4.out
    exact ⟨tv, wv, mo, h.below hb5⟩)
  have HSB5 := Lib.hid (Nat.le_trans HSB.out hb5.size)
  have HD1 := Lib.hid (sdo_any sb S (yard yardL R 0) (yard yardL R 0) (.slice none 0 0) ⟨0, 5, mB⟩ 24 w5 HS5.out ⟨yardS_ok HY.out 0, ⟨by decide, by decide, by decide, by decide, name_m, sz_m⟩, rfl, fun y hy => by simp [yard] at hy⟩ HSB5.out (yard_no HY.out (by decide) 0))
  unfold entv mB at HD1
  simp only at HD1
  clear hb5 HAC HS4 HSB
  go_wp2_with fail
  refine HD1.out.mono ?_
  rintro e w6 ⟨rfl, hb6, hd⟩
  have HB6 := Lib.hid (HB5.out.trans (hb6.mono HSL.out))
  have HSB6 := Lib.hid (Nat.le_trans HSB5.out hb6.size)
  have HS6 : Hid (SiteV w6 sb S (yard yardL R 0) (.slice none 0 0)) := Lib.hid (by
    rcases hd with ⟨_, h, _⟩ | ⟨h, _⟩
    · exact h
    · exact absurd h (by decide))
  have HD2 := Lib.hid (sdo_any sb S (yard yardL R 0) (moveD (yard yardL R 0) 0 0 1) (.slice none 0 0) ⟨0, 1, ⟨#[116, 49]⟩⟩ 0 w6 HS6.out ⟨yardS_ok HY.out 0, ⟨by decide, by decide, by decide, by decide, by decide, by decide⟩, rfl, fun y hy => by simp [yard] at hy⟩ HSB6.out
    ⟨.inl ⟨0, by simp [yard, yardL], .inl ⟨rfl, by unfold moveE; rw [yard_zero, if_pos (by decide)], rfl⟩⟩⟩)
  unfold entv at HD2
  simp only at HD2
  clear hb6 hd HD1
  go_wp2_with fail
  refine HD2.out.mono ?_
  rintro e w7 ⟨rfl, hb7, _⟩
  have HB7 := Lib.hid (HB6.out.trans (hb7.mono HSL.out))
  clear hb7 HD2
  go_wp2
  go_ret
  exact ⟨rfl, HB7.out⟩
end
end Go.Proofs.YtejcgjdfajppgaaGreatDoor
