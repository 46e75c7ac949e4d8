/-
  The walk of BlockShows: its text.
-/
import Derived.Test.YtnlloecbjohfdaaBkR
namespace Go.Proofs.Ytnlloecbjohfdaa
open Go.RowKit
set_option linter.unusedVariables false
set_option linter.unusedSimpArgs false
attribute [local go_sem ↓] Go.wp_at_zero Go.wp_at_succ

structure ShW (w : World) (v vr : Value) (i k : Int) (W : World) : Prop where
  below : Below w.heap.size w W
  b0 : BlkIs W w.heap.size 22 #[v]
  b1 : BlkIs W (w.heap.size + 1) 23 #[vr]
  b2 : BlkIs W (w.heap.size + 2) 3 #[.int .i64 i]
  b3 : BlkIs W (w.heap.size + 3) 3 #[.int .i64 k]
section
variable {w W W' : World} {v vr : Value} {i k : Int}
theorem ShW.after (h : ShW w v vr i k W) (hb : Below W.heap.size W W') : ShW w v vr i k W' := ⟨bstep h.below hb, h.b0.below hb, h.b1.below hb, h.b2.below hb, h.b3.below hb⟩
theorem ShW.alloc (h : ShW w v vr i k W) (o : Obj) : ShW w v vr i k (W.alloc o) := h.after (below_new W o)
theorem ShW.start (w : World) (v vr : Value) (i k : Int) : ShW w v vr i k ((((w.alloc (.cells #[v] 22)).alloc (.cells #[vr] 23)).alloc (.cells #[.int .i64 i] 3)).alloc (.cells #[.int .i64 k] 3)) := by
  have h2 := (BlkIs.new1 (w.alloc (.cells #[v] 22)) (.cells #[vr] 23) #[.int .i64 i] 3).alloc (.cells #[.int .i64 k] 3)
  have h3 := BlkIs.new1 ((w.alloc (.cells #[v] 22)).alloc (.cells #[vr] 23)) (.cells #[.int .i64 i] 3) #[.int .i64 k] 3
  simp only [World.size_alloc] at h2 h3
  exact ⟨by go_grown, (((BlkIs.new w _ _).alloc _).alloc _).alloc _, ((BlkIs.new1 w _ _ _).alloc _).alloc _, h2, h3⟩
/-- The cells, as the walk spells their addresses. -/
structure ShC (w : World) (v vr : Value) (i k : Int) (W : World) : Prop where
  c0 : W.cell? ⟨w.heap.size, 0, none⟩ = some v
  c1 : W.cell? ⟨w.heap.size + 1, 0, none⟩ = some vr
  c2 : W.cell? ⟨w.heap.size + 2, 0, none⟩ = some (.int .i64 i)
  c3 : W.cell? ⟨w.heap.size + 3, 0, none⟩ = some (.int .i64 k)
  d2 : W.cell? ⟨w.heap.size + 1 + 1, 0, none⟩ = some (.int .i64 i)
  d3 : W.cell? ⟨w.heap.size + 1 + 1 + 1, 0, none⟩ = some (.int .i64 k)
  z : w.heap.size + 3 < W.heap.size
  y : w.heap.size + 1 + 1 + 1 < W.heap.size
  z0 : w.heap.size < W.heap.size
  z1 : w.heap.size + 1 < W.heap.size
  z2 : w.heap.size + 1 + 1 < W.heap.size
theorem ShW.cells (h : ShW w v vr i k W) : ShC w v vr i k W := ⟨h.b0.cell 0, h.b1.cell 0, h.b2.cell 0, h.b3.cell 0, h.b2.cell 0, h.b3.cell 0, h.b3.lt, h.b3.lt, h.b0.lt, h.b1.lt, h.b2.lt⟩
end
theorem eq_pt0 (W : World) : (Op.equalIn 10000 35 (.agg #[.int .i64 0, .int .i64 0, .int .i64 0]) (.agg #[.int .i64 0, .int .i64 0, .int .i64 0])).run Try.prog W = .ok true W := by
  have := run_eq_pt ⟨0, 0, 0⟩ ⟨0, 0, 0⟩ W
  rw [dec_yes rfl] at this
  exact this
set_option maxRecDepth 100000 in
set_option maxHeartbeats 16000000 in
theorem blockShows_walk (w : World) (v : Value) (l : List BarD) (hp : Bars w v l) (hf : FitB l) (hl : l.length * 64 ≤ 140737488351232) (vr : Value) (rs : List RunD) (hr : Runs w vr rs) (hm : ∀ r ∈ rs, r.mark.size ≤ maxLen) (hlr : rs.length * 88 ≤ 140737488351232)
    (i : Int) (wi : (Lit.int .i64 i).wf = true) (k : Int) (wk : (Lit.int .i64 k).wf = true) (x : Int) (wx : (Lit.int .i64 x).wf = true) :
    Calls Try.prog 5 #[v, vr, .int .i64 i, .int .i64 k, .int .i64 x] w fun e w' => e = .returned (.bool true) ∧ Below w.heap.size w w' := by
  have hl2 : l.length ≤ 140737488355328 := by omega
  have hlr2 : rs.length ≤ 140737488355328 := by omega
  have HFW := Lib.hid (fun W (hW : Below w.heap.size w W) => few_any v vr l rs W (hp.below hW) (hr.below hW) hl2 hlr2)
  obtain ⟨ao, ac, rfl⟩ := hp.at_
  obtain ⟨ro, rc, rfl⟩ := hr.at_
  have HP := Lib.hid hp
  have HR := Lib.hid hr
  have HFI := Lib.hid hf
  have HS0 := Lib.hid (ShW.start w (.slice ao l.length ac) (.slice ro rs.length rc) i k)
  clear hp hr hf hl hlr hm wi wk wx
  obtain ⟨p, c, HWI, HPC⟩ : ∃ (p : Pt) (c : Int), Hid (∀ W (hW : Below w.heap.size w W), Calls Try.prog 17 #[.slice ao l.length ac, .slice ro rs.length rc, .int .i64 i, .int .i64 k, .int .i64 x] W fun e w' => e = .returned (.tuple #[ptv p, .int .i64 c]) ∧ Below W.heap.size W w') ∧
      Hid ((c ≠ 0 → p = pt0) ∧ (c = 0 → laidOk l rs = true ∧ pairE (lgsOf l rs).length i k x = 0 ∧ witAt (lgsOf l rs) (szsOf l rs) x i.toNat k.toNat = some p)) := by
    cases hok : laidOk l rs with
    | false => exact ⟨pt0, 1, fun W hW => witnessI_bad _ _ i k x l rs W (HP.out.below hW) (HR.out.below hW) hl2 hlr2 HFI.out hok, fun _ => rfl, fun h => by omega⟩
    | true =>
      refine ⟨witV (lgsOf l rs) (szsOf l rs) i k x, witE (lgsOf l rs) (szsOf l rs) i k x, fun W hW => witnessI_good _ _ i k x l rs W (HP.out.below hW) (HR.out.below hW) hl2 hlr2 HFI.out hok, fun h => witV_err h, fun h => ?_⟩
      obtain ⟨h1, q, h2, h3⟩ := witE_zero h
      rw [h3]
      exact ⟨rfl, h1, h2⟩
  have hq0 := eq_pt0
  go_enter Try.func5, Try.ntmps5
  go_wp2_with fail
  refine (bawake_any _).mono ?_
  rintro e w1 ⟨rfl, hb1⟩
  have HS1 := Lib.hid (HS0.out.after hb1)
  obtain ⟨c0, c1, c2, c3, d2, d3, z, y, z0, z1, z2⟩ := HS1.out.cells
  clear hb1 HS0
  go_wp2_with fail
  refine (HFW.out _ HS1.out.below).mono ?_
  rintro e w2 ⟨q, rfl, hb2, hq⟩
  have HS2 := Lib.hid (HS1.out.after hb2)
  clear hb2 hq HS1 HFW c0 c1 c2 c3 d2 d3 z y z0 z1 z2
  obtain ⟨c0, c1, c2, c3, d2, d3, z, y, z0, z1, z2⟩ := HS2.out.cells
  cases q
  · go_wp2
    go_ret
    exact ⟨rfl, HS2.out.below⟩
  · go_wp2_with fail
    refine (HWI.out _ HS2.out.below).mono ?_
    rintro e w3 ⟨rfl, hb3⟩
    have HS3 := Lib.hid ((HS2.out.after hb3).alloc (.cells #[.int .i64 p.x, .int .i64 p.y, .int .i64 p.z] 35))
    have HX3 := Lib.hid (BlkIs.new w3 #[.int .i64 p.x, .int .i64 p.y, .int .i64 p.z] 35)
    have HS3b := Lib.hid (HS2.out.after hb3)
    clear hb3 HS2 HWI c0 c1 c2 c3 d2 d3 z y z0 z1 z2
    by_cases hc : c = 0
    · subst hc
      obtain ⟨hok, hpe, hwit⟩ := HPC.out.2 rfl
      obtain ⟨⟨i0, i1⟩, ⟨k0, k1⟩, hx, hne⟩ := pairE_zero hpe
      obtain ⟨i, rfl⟩ : ∃ n : Nat, i = (n : Int) := ⟨i.toNat, by omega⟩
      obtain ⟨k, rfl⟩ : ∃ n : Nat, k = (n : Int) := ⟨k.toNat, by omega⟩
      rw [Int.toNat_natCast, Int.toNat_natCast] at hwit
      have hz := lzOk_of hok
      have hin : i < (lgsOf l rs).length := by omega
      have hkn : k < (lgsOf l rs).length := by omega
      obtain ⟨i2, i3, i4⟩ := hz.legs i hin
      obtain ⟨k2, k3, k4⟩ := hz.legs k hkn
      have hA := List.all_eq_true.1 i4
      have hB := List.all_eq_true.1 k4
      obtain ⟨a, ha, b, hb, hlt, hq⟩ := wit_some hwit
      have hpin : inBx b p := by rw [hq]; exact nearQ_in (wayB_ok (hA a ha) x) (hB b hb)
      have hpok : bxOk ⟨p, p⟩ = true := by
        have h1 := bxOk_dec.1 (hB b hb)
        obtain ⟨⟨p1, p2⟩, ⟨p3, p4⟩, p5, p6⟩ := hpin
        rw [bxOk_dec]
        refine ⟨⟨?_, ?_, ?_⟩, ⟨?_, ?_, ?_⟩, ?_, ?_, ?_⟩ <;> simp only <;> omega
      have hlt2 : tooNear (((szsOf l rs).getD i 0 + (szsOf l rs).getD k 0) * ((szsOf l rs).getD i 0 + (szsOf l rs).getD k 0)) (wayB a x) ⟨p, p⟩ = true := by
        have h1 := point_near (wayB_ok (hA a ha) x) (hB b hb)
        rw [← hq] at h1
        exact dec_yes (by omega)
      have HL := Lib.hid (fun (n : Nat) (hn : n < (lgsOf l rs).length) W (hW : Below w.heap.size w W) => legsI_good (.slice ao l.length ac) (.slice ro rs.length rc) l rs n W (HP.out.below hW) (HR.out.below hW) hl2 hlr2 HFI.out hok hn)
      have HSW := Lib.hid (fun ov W (h : Bxs W ov ((lgsOf l rs).getD i [])) => sweepI_good ov ((lgsOf l rs).getD i []) x W h (by omega) i4 hx)
      have HON := Lib.hid (fun ov g W (h : Bxs W ov ((lgsOf l rs).getD k [])) (hg : BlkIs W g 39 (bxCellsA ⟨p, p⟩)) => anyBx_any 20 #[.pointer (some ⟨g, 0, none⟩)] (fun u => inclB u ⟨p, p⟩) ov ((lgsOf l rs).getD k []) W h (by omega) ⟨fun xs W => by rfl, fun u V hu hV => shows1_any g p u V (hg.below hV) (hB u hu) hpok⟩)
      have hon : ((lgsOf l rs).getD k []).any (fun u => inclB u ⟨p, p⟩) = true := List.any_eq_true.2 ⟨b, hb, incl_point hpin⟩
      rw [hon] at HON
      have HWY := Lib.hid (fun ov g W (hS : ShW w (.slice ao l.length ac) (.slice ro rs.length rc) (i : Int) (k : Int) W) (h : Bxs W ov (((lgsOf l rs).getD i []).map fun u => wayB u x)) (hg : BlkIs W g 39 (bxCellsA ⟨p, p⟩)) => anyBx_any 22 #[.pointer (some ⟨w.heap.size, 0, none⟩), .pointer (some ⟨w.heap.size + 1, 0, none⟩), .pointer (some ⟨w.heap.size + 2, 0, none⟩), .pointer (some ⟨w.heap.size + 3, 0, none⟩), .pointer (some ⟨g, 0, none⟩)] (fun u => tooNear (((szsOf l rs).getD i 0 + (szsOf l rs).getD k 0) * ((szsOf l rs).getD i 0 + (szsOf l rs).getD k 0)) u ⟨p, p⟩) ov _ W h (by rw [List.length_map]; omega)
        ⟨fun xs W => by rfl, fun u V hu hV => by
          obtain ⟨u', hu', rfl⟩ := List.mem_map.1 hu
          exact shows2_any w.heap.size (w.heap.size + 1) (w.heap.size + 2) (w.heap.size + 3) g _ _ l rs i k p _ V (hg.below hV) (hS.b0.below hV) (hS.b1.below hV) (hS.b2.below hV) (hS.b3.below hV) (wayB_ok (hA u' hu') x) hpok (HP.out.below (bstep hS.below hV)) (HR.out.below (bstep hS.below hV)) hl2 hok hin hkn⟩)
      have hwy : (((lgsOf l rs).getD i []).map fun u => wayB u x).any (fun u => tooNear (((szsOf l rs).getD i 0 + (szsOf l rs).getD k 0) * ((szsOf l rs).getD i 0 + (szsOf l rs).getD k 0)) u ⟨p, p⟩) = true := List.any_eq_true.2 ⟨_, List.mem_map.2 ⟨a, ha, rfl⟩, hlt2⟩
      rw [hwy] at HWY
      have HIN := Lib.hid (And.intro hin hkn)
      clear hok hpe hwit hz i2 i3 i4 k2 k3 k4 hA hB ha hb hlt hq hpin hpok hlt2 hon hwy hin hkn hx hne HPC
      generalize lgsOf l rs = L at *
      generalize szsOf l rs = Z at *
      obtain ⟨c0, c1, c2, c3, d2, d3, z, y, z0, z1, z2⟩ := HS3b.out.cells
      go_wp2_with fail
      refine (HL.out i HIN.out.1 _ HS3.out.below).mono ?_
      rintro e w4 ⟨o4, rfl, ho4, hb4⟩
      obtain ⟨a4, n4, rfl⟩ := OwnN.shape ho4
      have HS4 := Lib.hid (HS3.out.after hb4)
      have HX4 := Lib.hid (HX3.out.below hb4)
      have HI4 := Lib.hid (OwnN.fl bx_len ho4)
      clear hb4 ho4 HS3 HX3 HS3b c0 c1 c2 c3 d2 d3 z y z0 z1 z2
      obtain ⟨c0, c1, c2, c3, d2, d3, z, y, z0, z1, z2⟩ := HS4.out.cells
      go_wp2_with fail
      refine (HL.out k HIN.out.2 _ HS4.out.below).mono ?_
      rintro e w5 ⟨o5, rfl, ho5, hb5⟩
      obtain ⟨a5, n5, rfl⟩ := OwnN.shape ho5
      have HS5 := Lib.hid (HS4.out.after hb5)
      have HX5 := Lib.hid (HX4.out.below hb5)
      have HI5 := Lib.hid (HI4.out.below hb5)
      have HK5 := Lib.hid (OwnN.fl bx_len ho5)
      clear hb5 ho5 HS4 HX4 HI4 c0 c1 c2 c3 d2 d3 z y z0 z1 z2
      go_wp2_with fail
      refine (HSW.out _ _ HI5.out).mono ?_
      rintro e w6 ⟨o6, rfl, ho6, hb6⟩
      obtain ⟨a6, n6, hv6⟩ := OwnN.shape ho6
      rw [List.length_map] at hv6
      subst hv6
      have HS6 := Lib.hid (HS5.out.after hb6)
      have HX6 := Lib.hid (HX5.out.below hb6)
      have HK6 := Lib.hid (HK5.out.below hb6)
      have HW6 := Lib.hid (OwnN.fl bx_len ho6)
      have p0 := HX6.out.cell 0
      have p1 := HX6.out.cell 1
      have p2 := HX6.out.cell 2
      have pz := HX6.out.lt
      have HON6 := Lib.hid (HON.out _ w6.heap.size (w6.alloc (.cells (bxCellsA ⟨p, p⟩) 39)) (HK6.out.below (below_new _ _)) (BlkIs.new _ _ _))
      clear hb6 ho6 HS5 HX5 HK5 HI5 HL HSW HON
      go_wp2_with fail
      refine HON6.out.mono ?_
      rintro e w7 ⟨rfl, hb7⟩
      have hbb := bstep (below_new w6 (.cells (bxCellsA ⟨p, p⟩) 39)) hb7
      have HS7 := Lib.hid (HS6.out.after hbb)
      have HWY7 := Lib.hid (HWY.out _ w6.heap.size w7 HS7.out (HW6.out.below hbb) ((BlkIs.new w6 (bxCellsA ⟨p, p⟩) 39).below hb7))
      clear hb7 hbb HON6 HK6 HW6 HS6 p0 p1 p2 pz HX6 HWY
      have hbq : (((L.getD i []).length : Int) == ((L.getD i []).length : Int)) = true := beq_yes rfl
      go_wp2_with fail
      refine HWY7.out.mono ?_
      rintro e w8 ⟨rfl, hb8⟩
      have HB8 := Lib.hid (bstep HS7.out.below hb8)
      clear hb8
      go_wp2
      go_ret
      exact ⟨rfl, HB8.out⟩
    · have hcb : (c != 0) = true := bne_yes hc
      obtain rfl := HPC.out.1 hc
      clear hc HPC
      have p0 := HX3.out.cell 0
      have p1 := HX3.out.cell 1
      have p2 := HX3.out.cell 2
      go_wp2
      go_ret
      exact ⟨rfl, HS3.out.below⟩
end Go.Proofs.Ytnlloecbjohfdaa
