/-
  Base texts, shaken by wip/shake.py: Rnd Rne Rnf Rnk.
-/
import Derived.Test.YtamogedpgkofjaaGreatKna
import Derived.Test.YtamogedpgkofjaaGreatKba
import Derived.Test.YtamogedpgkofjaaGreatKbw
import Derived.Test.YtamogedpgkofjaaGreatKbk
import Derived.Test.YtamogedpgkofjaaGreatKqb
namespace Go.Proofs.YtamogedpgkofjaaGreat
section
section
open Go.RowKit
set_option linter.unusedVariables false
set_option linter.unusedSimpArgs false
attribute [local go_sem ↓] Go.wp_at_zero Go.wp_at_succ

theorem raxis38_any (x : Int) (w : World) : Calls Tryz.prog 85 #[.int .i64 x] w fun e w' => e = .returned (.bool (axB x)) ∧ w' = w := by
  by_cases h0 : x = 0
  · subst h0
    have HE : Hid (axB 0 = false) := rfl
    rw [HE.out]
    go_enter Tryz.func85, Tryz.ntmps85
    go_wp2
    go_ret
    exact ⟨rfl, rfl⟩
  · by_cases h1 : -3 ≤ x
    · by_cases h2 : x ≤ 3
      · have HE : Hid (axB x = true) := by unfold Hid axB; exact dec_yes (by omega)
        rw [HE.out]
        go_enter Tryz.func85, Tryz.ntmps85
        go_wp2
        go_ret
        exact ⟨ret_bool (bne_yes h0), rfl⟩
      · have HE : Hid (axB x = false) := by unfold Hid axB; exact dec_no (by omega)
        rw [HE.out]
        go_enter Tryz.func85, Tryz.ntmps85
        go_wp2
        go_ret
        exact ⟨rfl, rfl⟩
    · have HE : Hid (axB x = false) := by unfold Hid axB; exact dec_no (by omega)
      rw [HE.out]
      go_enter Tryz.func85, Tryz.ntmps85
      go_wp2
      go_ret
      exact ⟨rfl, rfl⟩
set_option maxHeartbeats 1000000 in
theorem rnear38_any (a b : Bx) (d e : Int) (w : World) (ha : bxOk a = true) (hb : bxOk b = true) (hd : 0 ≤ d ∧ d ≤ 10000) (he : 0 ≤ e ∧ e ≤ 10000) :
    Calls Tryz.prog 142 #[bxv a, bxv b, .int .i64 d, .int .i64 e] w fun en w' => en = .returned (.bool (tooNear ((d + e) * (d + e)) a b)) ∧ Below w.heap.size w w' := by
  have HS := Lib.hid (fun W => rsquare_any a b W ha hb)
  obtain ⟨s0, s1⟩ := sqN_bd ha hb 3 (by omega)
  obtain ⟨q0, q1⟩ := sq_bd (n := d + e) (by omega) (by omega)
  have hw : IntKind.i64.wrap (d + e) = d + e := IntWalk.i64_in _ (by omega)
  have HT : Hid (tooNear ((d + e) * (d + e)) a b = decide (4 * sqN a b 3 < (d + e) * (d + e))) := rfl
  generalize tooNear ((d + e) * (d + e)) a b = q at *
  generalize sqN a b 3 = s at *
  obtain ⟨t, ht⟩ : ∃ t, d + e = t := ⟨_, rfl⟩
  rw [ht] at hw HT q0 q1
  obtain ⟨m, hm⟩ : ∃ m, t * t = m := ⟨_, rfl⟩
  rw [hm] at HT q0 q1
  have hw2 : IntKind.i64.wrap m = m := IntWalk.i64_in _ (by omega)
  have hw4 : IntKind.i64.wrap (4 * s) = 4 * s := IntWalk.i64_in _ (by omega)
  clear ha hb
  go_enter Tryz.func142, Tryz.ntmps142
  go_wp2_with fail
  refine (HS.out _).mono ?_
  rintro en w1 ⟨rfl, hb1⟩
  have HB1 := Lib.hid (bstep (by go_grown) hb1 : Below w.heap.size w w1)
  clear hb1
  by_cases hlt : 4 * s < m
  all_goals
    go_wp2
    go_ret
    exact ⟨ret_bool (by first | exact HT.out.symm | exact (HT.out.trans (dec_yes hlt)).symm | exact (HT.out.trans (dec_no hlt)).symm), HB1.out⟩
end
end
section
section
open Go.RowKit
set_option linter.unusedVariables false
set_option linter.unusedSimpArgs false
attribute [local go_sem ↓] Go.wp_at_zero Go.wp_at_succ

set_option maxHeartbeats 2000000 in
theorem rway_any (b : Bx) (x : Int) (w : World) (hx : axB x = true) :
    Calls Tryz.prog 176 #[bxv b, .int .i64 x] w fun e w' => e = .returned (bxv (wayB b x)) ∧ Below w.heap.size w w' := by
  obtain ⟨⟨lx, ly, lz⟩, ⟨ux, uy, uz⟩⟩ := b
  rcases ax_cases hx with rfl | rfl | rfl | rfl | rfl | rfl
  all_goals
    clear hx
    go_enter Tryz.func176, Tryz.ntmps176
    go_wp2
    exact bodyPost_ret (v := bxv (wayB ⟨⟨lx, ly, lz⟩, ⟨ux, uy, uz⟩⟩ _)) (by simp [results, Tryz.results176, go_sem, wayB]) rfl ⟨rfl, by go_grown⟩
end
end
section
section
open Go.RowKit
set_option linter.unusedVariables false
set_option linter.unusedSimpArgs false
attribute [local go_sem ↓] Go.wp_at_zero Go.wp_at_succ

set_option maxRecDepth 100000 in
set_option maxHeartbeats 1000000 in
theorem rsweep_any (v : Value) (l : List Bx) (x : Int) (w : World) (hp : Bxs w v l) (hl : l.length ≤ 1000000) (hx : axB x = true) :
    Calls Tryz.prog 139 #[v, .int .i64 x] w fun e w' => ∃ o, e = .returned o ∧ Hid (OwnBxs w' w.heap.size o (l.map fun b => wayB b x)) ∧ Below w.heap.size w w' := by
  obtain ⟨ao, cap, rfl⟩ := hp.at_
  have HP := Lib.hid hp
  have HX := Lib.hid hx
  clear hp hx
  go_enter Tryz.func139, Tryz.ntmps139
  go_wp2
  go_loopw [5, 6] (fun o i wr => ∃ k : Nat, k ≤ l.length ∧ i = .int .i64 k ∧ Below w.heap.size w wr ∧ OwnBxs wr w.heap.size o ((l.take k).map fun b => wayB b x)) (fun _ i _ => l.length - (intOf i).toNat)
  case atStart => exact ⟨0, Nat.zero_le _, rfl, Below.refl _ _, OwnN.nil _ _ _ _ _⟩
  case round =>
    obtain ⟨k, hk, rfl, hBr, hown⟩ := hrel
    by_cases hk2 : k < l.length
    · obtain ⟨p, hy⟩ : ∃ y, l[k]? = some y := ⟨_, List.getElem?_eq_getElem hk2⟩
      obtain ⟨b, off, rfl, hbl, c0, c1, c2, c3, c4, c5⟩ := bxs_get (HP.out.below hBr) hy
      have HM := Lib.hid (snoc_map (fun b => wayB b x) hy)
      have HB := Lib.hid hBr
      have HO := Lib.hid hown
      have HW := Lib.hid (fun W => rway_any p x W HX.out)
      have hl2 : ((l.take k).map fun b => wayB b x).length + 1 ≤ 1099511627776 := by simp; omega
      clear hy hBr hown
      go_wp2_with fail
      refine (HW.out _).mono ?_
      rintro e w9 ⟨rfl, hb9⟩
      have HB9 := Lib.hid (bstep HB.out hb9)
      have HO9 := Lib.hid (OwnN.below HO.out hb9)
      have hbase : w.heap.size ≤ w9.heap.size := HB9.out.size
      clear hb9
      generalize wayB p x = q at *
      go_wp2_with (at_builtin; refine wpList_pushAt _ w9.heap.size (by simp) rfl _ _ 71 rfl 134 6 48 elemBx w.heap.size bxCells _ _ q _ rfl rfl (bx_one _) HO9.out rfl rfl hl2 (by omega) hbase ?_; intro v' w' hown' hg' hat'; have HO8 := Lib.hid hown'; have HB8 := Lib.hid (HB9.out.grown hg' HB9.out.size (fun j hj => (HO9.out.lt j hj).1)); clear hown' hg' hat')
      go_roundw
      case rel => exact ⟨k + 1, by omega, by go_num, HB8.out, by rw [HM.out]; exact HO8.out⟩
      case measure => simp [intOf]; omega
    · obtain rfl : k = l.length := by omega
      rw [List.take_length] at hown
      have HO := Lib.hid hown
      have HB := Lib.hid hBr
      clear hown hBr
      obtain ⟨oo, oc, rfl⟩ := OwnN.shape HO.out
      go_wp2
      go_ret
      exact ⟨_, rfl, HO.out, HB.out⟩
end
end
section
section
open Go.RowKit
set_option linter.unusedVariables false
set_option linter.unusedSimpArgs false
attribute [local go_sem ↓] Go.wp_at_zero Go.wp_at_succ

/-- The reference's legs of a laid bar, by the list of all. -/
theorem rlegsL_any (v vr : Value) (l : List BarD) (rs : List RunD) (i : Nat) (w : World) (hp : Bars w v l) (hr : Runs w vr rs) (hl : l.length ≤ 140737488355328) (h : laidOk l rs = true) (hi : i < (lgsOf l rs).length) :
    Calls Tryz.prog 140 #[v, vr, .int .i64 (i : Int)] w fun e w' => ∃ o, e = .returned o ∧ Hid (OwnBxs w' w.heap.size o ((lgsOf l rs).getD i [])) ∧ Below w.heap.size w w' := by
  rw [lgsOf_len] at hi
  obtain ⟨q, b, hF⟩ := laid_fact h hi
  have hlat := hF.lat
  unfold legsAt at hlat
  rw [hlat]
  exact rlegs_any v vr l rs i q w hp hr hl h hi hF.pts

/-- What is around the loops of Witness: the point returned, the ways, the legs. -/
structure RwW (w : World) (W V : List Bx) (wv lv : Value) (wr : World) : Prop where
  below : Below w.heap.size w wr
  res : BlkIs wr w.heap.size 88 #[.int .i64 0, .int .i64 0, .int .i64 0]
  ways : Bxs wr wv W
  legs : Bxs wr lv V
theorem RwW.after {w wr w' : World} {W V : List Bx} {wv lv : Value} (h : RwW w W V wv lv wr) (hb : Below wr.heap.size wr w') : RwW w W V wv lv w' :=
  ⟨bstep h.below hb, h.res.below hb, h.ways.below hb, h.legs.below hb⟩
abbrev SixBx (b o : Nat) (p : Bx) (W : World) : Prop :=
  W.cell? ⟨b, o, none⟩ = some (.int .i64 p.lo.x) ∧ W.cell? ⟨b, o + 1, none⟩ = some (.int .i64 p.lo.y) ∧ W.cell? ⟨b, o + 2, none⟩ = some (.int .i64 p.lo.z) ∧ W.cell? ⟨b, o + 3, none⟩ = some (.int .i64 p.hi.x) ∧ W.cell? ⟨b, o + 4, none⟩ = some (.int .i64 p.hi.y) ∧ W.cell? ⟨b, o + 5, none⟩ = some (.int .i64 p.hi.z)
abbrev TwoBx (b o b' o' : Nat) (p p' : Bx) (W : World) : Prop := SixBx b o p W ∧ SixBx b' o' p' W
theorem bxs_six {W : World} {b off len cap k : Nat} {l : List Bx} {p : Bx} (h : Bxs W (.slice (some ⟨b, off, none⟩) len cap) l) (hk : l[k]? = some p) : SixBx b (off + k * 6) p W := by
  obtain ⟨b', off', he, _, h0, h1, h2, h3, h4, h5⟩ := bxs_get h hk
  cases he
  exact ⟨h0, h1, h2, h3, h4, h5⟩
theorem bxs_other {W W' : World} {b off len cap g : Nat} {l : List Bx} (h : Bxs W (.slice (some ⟨b, off, none⟩) len cap) l) (hg : W.grownBy W' (some g)) (hne : b ≠ g) : Bxs W' (.slice (some ⟨b, off, none⟩) len cap) l :=
  Fl.keep h hg.size fun b' o hb ⟨_, _, _, e⟩ => by cases e; exact grown_cell hg hb hne
theorem RwW.other {w wr w' : World} {W V : List Bx} {b off len cap b' off' len' cap' g : Nat} (h : RwW w W V (.slice (some ⟨b, off, none⟩) len cap) (.slice (some ⟨b', off', none⟩) len' cap') wr) (hg : wr.grownBy w' (some g)) (h0 : w.heap.size < g) (h1 : b < g) (h2 : b' < g) :
    RwW w W V (.slice (some ⟨b, off, none⟩) len cap) (.slice (some ⟨b', off', none⟩) len' cap') w' :=
  ⟨h.below.grown hg h.below.size (fun j hj => by cases hj; omega), h.res.else_ hg (fun e => by cases e; omega), bxs_other h.ways hg (by omega), bxs_other h.legs hg (by omega)⟩

set_option maxRecDepth 100000 in
set_option maxHeartbeats 16000000 in
theorem rwit_any (v vr : Value) (i k : Nat) (x : Int) (l : List BarD) (rs : List RunD) (w : World) (hp : Bars w v l) (hr : Runs w vr rs) (hl : l.length ≤ 140737488355328) (h : laidOk l rs = true) (hi : i < (lgsOf l rs).length) (hk : k < (lgsOf l rs).length) (hx : axB x = true) :
    Calls Tryz.prog 112 #[v, vr, .int .i64 (i : Int), .int .i64 (k : Int), .int .i64 x] w fun e w' => e = .returned (.tuple #[ptv ((witAt (lgsOf l rs) (szsOf l rs) x i k).getD pt0), .bool (witAt (lgsOf l rs) (szsOf l rs) x i k).isSome]) ∧ Below w.heap.size w w' := by
  have HLI := Lib.hid (fun W (hW : Below w.heap.size w W) => rlegsL_any v vr l rs i W (hp.below hW) (hr.below hW) hl h hi)
  have HLK := Lib.hid (fun W (hW : Below w.heap.size w W) => rlegsL_any v vr l rs k W (hp.below hW) (hr.below hW) hl h hk)
  have HBI := Lib.hid (fun W (hW : Below w.heap.size w W) => rbarS_any v vr l rs i W (hp.below hW) (hr.below hW) hl h (by rwa [lgsOf_len] at hi))
  have HBK := Lib.hid (fun W (hW : Below w.heap.size w W) => rbarS_any v vr l rs k W (hp.below hW) (hr.below hW) hl h (by rwa [lgsOf_len] at hk))
  have HLZ := lzOk_of h
  obtain ⟨p1, p2, p3⟩ := HLZ.legs i hi
  obtain ⟨q1, q2, q3⟩ := HLZ.legs k hk
  obtain ⟨d0, d1⟩ := HLZ.size i hi
  obtain ⟨e0, e1⟩ := HLZ.size k hk
  have HWT : Hid (witAt (lgsOf l rs) (szsOf l rs) x i k = witP ((lgsOf l rs).getD i []) ((lgsOf l rs).getD k []) x (((szsOf l rs).getD i 0 + (szsOf l rs).getD k 0) * ((szsOf l rs).getD i 0 + (szsOf l rs).getD k 0))) := rfl
  rw [HWT.out]
  clear HWT HLZ hi hk
  generalize (szsOf l rs).getD i 0 = d at *
  generalize (szsOf l rs).getD k 0 = e at *
  generalize (lgsOf l rs).getD i [] = A at *
  generalize (lgsOf l rs).getD k [] = B at *
  obtain ⟨ii, hii⟩ : ∃ z, (i : Int) = z := ⟨_, rfl⟩
  obtain ⟨kk, hkk⟩ : ∃ z, (k : Int) = z := ⟨_, rfl⟩
  rw [hii] at HLI HBI
  rw [hkk] at HLK HBK
  rw [hii, hkk]
  clear hii hkk
  obtain ⟨need, hneed⟩ : ∃ n, (d + e) * (d + e) = n := ⟨_, rfl⟩
  have HNR := Lib.hid (fun (a b : Bx) W (h1 : bxOk a = true) (h2 : bxOk b = true) => rnear38_any a b d e W h1 h2 ⟨d0, d1⟩ ⟨e0, e1⟩)
  rw [hneed] at HNR ⊢
  have HNE := Lib.hid (fun (a b : Bx) W (h1 : bxOk a = true) (h2 : bxOk b = true) => rnearest_any a b W h1 h2)
  have HSW := Lib.hid (fun (o : Value) W (ho : Bxs W o A) => rsweep_any o A x W ho (by omega) hx)
  have HOA := Lib.hid (fun a (ha : a ∈ A) => wayB_ok (List.all_eq_true.1 p3 a ha) x)
  have HOB := Lib.hid (List.all_eq_true.1 q3)
  have hb0 := below_new w (.cells #[.int .i64 0, .int .i64 0, .int .i64 0] 88)
  have HX0 := Lib.hid (BlkIs.new w #[.int .i64 0, .int .i64 0, .int .i64 0] 88)
  have HB0 := Lib.hid hb0
  clear hp hr h hx hb0 p1 p3 q1 q3 hneed
  go_enter Tryz.func112, Tryz.ntmps112
  go_wp2_with fail
  refine (HLI.out _ HB0.out).mono ?_
  rintro en w1 ⟨o1, rfl, HO1, hb1⟩
  have HB1 := Lib.hid (bstep HB0.out hb1)
  have HX1 := Lib.hid (HX0.out.below hb1)
  have HA1 := Lib.hid (OwnN.fl bx_len HO1.out)
  clear hb1 HB0 HX0 HO1
  go_wp2_with fail
  refine (HSW.out _ _ HA1.out).mono ?_
  rintro en w2 ⟨wv, rfl, HO2, hb2⟩
  have HB2 := Lib.hid (bstep HB1.out hb2)
  have HX2 := Lib.hid (HX1.out.below hb2)
  have HA2 := Lib.hid (OwnN.fl bx_len HO2.out)
  clear hb2 HB1 HX1 HO2 HA1
  go_wp2_with fail
  refine (HLK.out _ HB2.out).mono ?_
  rintro en w3 ⟨lv, rfl, HO3, hb3⟩
  have HW3 : Hid (RwW w (A.map fun b => wayB b x) B wv lv w3) := ⟨bstep HB2.out hb3, HX2.out.below hb3, HA2.out.below hb3, OwnN.fl bx_len HO3.out⟩
  clear hb3 HB2 HX2 HO3 HA2
  go_wp2_with fail
  refine (HBI.out _ HW3.out.below).mono ?_
  rintro en w4 ⟨bi, di, rfl, hdi, hb4⟩
  have HW4 := Lib.hid (HW3.out.after hb4)
  have hfi := fun W => field_size bi di W
  rw [hdi] at hfi
  clear hb4 hdi
  go_wp2_with fail
  refine (HBK.out _ HW4.out.below).mono ?_
  rintro en w5 ⟨bk, dk, rfl, hdk, hb5⟩
  have HW5 := Lib.hid (HW4.out.after hb5)
  have hfk := fun W => field_size bk dk W
  rw [hdk] at hfk
  clear hb5 hdk HW3 HW4
  obtain ⟨wo, wc, rfl⟩ := HW5.out.ways.at_
  obtain ⟨lo, lc, rfl⟩ := HW5.out.legs.at_
  have hwl : (A.map fun b => wayB b x).length = A.length := List.length_map _
  rw [hwl] at HW5 ⊢
  clear hwl
  go_wp2_with fail
  go_loopw [16] (fun i wr => ∃ n : Nat, n ≤ A.length ∧ i = .int .i64 (n : Int) ∧ RwW w (A.map fun b => wayB b x) B (.slice wo A.length wc) (.slice lo B.length lc) wr ∧ Hid (NoHit A B x need n 0)) (fun i _ => A.length - (intOf i).toNat)
  case atStart => exact ⟨0, Nat.zero_le _, rfl, HW5.out, fun i' k' a b hc _ _ => by omega⟩
  case round =>
    clear HW5 hfi hfk
    obtain ⟨n, hn, rfl, hRW, HNH⟩ := hrel
    have HRo := Lib.hid hRW
    clear hRW
    obtain ⟨wo_, rfl⟩ : ∃ wo : World, wo = wr := ⟨_, rfl⟩
    by_cases hn2 : n < A.length
    · obtain ⟨a, ha⟩ : ∃ y, A[n]? = some y := ⟨_, List.getElem?_eq_getElem hn2⟩
      have HAW : Hid ((A.map fun b => wayB b x)[n]? = some (wayB a x)) := by unfold Hid; rw [List.getElem?_map, ha]; rfl
      have HAOK := Lib.hid (HOA.out a (List.mem_of_getElem? ha))
      have HAT := Lib.hid ha
      obtain ⟨b0, off0, rfl, hbl0, _, _, _, _, _, _⟩ := bxs_get HRo.out.ways HAW.out
      generalize hq : wayB a x = q at *
      have HQ := Lib.hid hq
      generalize (A.map fun b => wayB b x) = WL at *
      clear ha hbl0 hq
      go_wp2_with fail
      go_loopw [17] (fun i wr => ∃ k : Nat, k ≤ B.length ∧ i = .int .i64 (k : Int) ∧ RwW w WL B (.slice (some ⟨b0, off0, none⟩) A.length wc) (.slice lo B.length lc) wr ∧ Hid (NoHit A B x need n k)) (fun i _ => B.length - (intOf i).toNat)
      case atStart => exact ⟨0, Nat.zero_le _, rfl, HRo.out, HNH⟩
      case round =>
        clear HRo HNH
        obtain ⟨k, hk, rfl, hRW, HNH⟩ := hrel
        have HW := Lib.hid hRW
        clear hRW
        by_cases hk2 : k < B.length
        · obtain ⟨b, hb⟩ : ∃ y, B[k]? = some y := ⟨_, List.getElem?_eq_getElem hk2⟩
          obtain ⟨b1, off1, rfl, hbl1, d0, d1, d2, d3, d4, d5⟩ := bxs_get HW.out.legs hb
          obtain ⟨b0', off0', he, hbl0, c0, c1, c2, c3, c4, c5⟩ := bxs_get HW.out.ways HAW.out
          cases he
          have HBOK := Lib.hid (HOB.out b (List.mem_of_getElem? hb))
          have HS := Lib.hid (fun W => HNR.out q b W HAOK.out HBOK.out)
          have HNB := Lib.hid (fun W => HNE.out q b W HAOK.out HBOK.out)
          have HBT := Lib.hid hb
          have HTN : Hid (tooNear need (wayB a x) b = tooNear need q b) := by rw [HQ.out]; rfl
          have n0 : (0 : Int) ≤ (n : Int) := by omega
          have n1 : (n : Int) < (A.length : Int) := by omega
          have k0 : (0 : Int) ≤ (k : Int) := by omega
          have k1 : (k : Int) < (B.length : Int) := by omega
          have HLT : Hid (b0 < wr.heap.size ∧ b1 < wr.heap.size ∧ w.heap.size < wr.heap.size) := ⟨hbl0, hbl1, HW.out.res.lt⟩
          have c0 := fun d os => cell_regrown c0 d os
          have c1 := fun d os => cell_regrown c1 d os
          have c2 := fun d os => cell_regrown c2 d os
          have c3 := fun d os => cell_regrown c3 d os
          have c4 := fun d os => cell_regrown c4 d os
          have c5 := fun d os => cell_regrown c5 d os
          have d0 := fun d os => cell_regrown d0 d os
          have d1 := fun d os => cell_regrown d1 d os
          have d2 := fun d os => cell_regrown d2 d os
          have d3 := fun d os => cell_regrown d3 d os
          have d4 := fun d os => cell_regrown d4 d os
          have d5 := fun d os => cell_regrown d5 d os
          obtain ⟨tn, htn⟩ : ∃ z, tooNear need q b = z := ⟨_, rfl⟩
          rw [htn] at HS HTN
          clear hb hbl0 hbl1 htn
          go_wp2_with fail
          refine wp_region_quiet_below (by kernel_rfl) (by kernel_rfl) ?_
          repeat (go_big_quiet_step ((first
            | (go_at_call 142; exact Calls.regrown_of (HS.out _)))))
          refine wpQuiet_nil ?_
          intro _ hw'
          obtain ⟨⟨nq, osq⟩, hw''⟩ := hw'
          subst hw''
          have HW2 := Lib.hid (HW.out.after (below_regrown wr nq osq))
          have HLT2 : Hid (b0 < (Go.Sort.grow (redrawn wr nq) osq).heap.size ∧ b1 < (Go.Sort.grow (redrawn wr nq) osq).heap.size ∧ w.heap.size < (Go.Sort.grow (redrawn wr nq) osq).heap.size) := by
            have h1 := (below_regrown wr nq osq).size
            have h2 := HLT.out
            exact ⟨by omega, by omega, by omega⟩
          clear c0 c1 c2 c3 c4 c5 d0 d1 d2 d3 d4 d5 HS HW HLT
          generalize Go.Sort.grow (redrawn wr nq) osq = y0 at *
          cases tn
          · have HNX := Lib.hid (noHit_step HNH.out HAT.out HBT.out HTN.out)
            go_wp2
            go_roundw
            case rel => exact ⟨k + 1, by omega, by go_num, HW2.out, HNX.out⟩
            case measure => simp [intOf]; omega
          · have HHIT := Lib.hid (wit_first HNH.out HAT.out HBT.out HTN.out)
            rw [HQ.out] at HHIT
            generalize nearP q b = P at *
            generalize nearQ q b = Q at *
            go_wp2_with fail
            refine wp_region_held_drew (S := fun W => TwoBx b0 (off0 + n * 6) b1 (off1 + k * 6) q b W) (by kernel_rfl) ⟨bxs_six HW2.out.ways HAW.out, bxs_six HW2.out.legs HBT.out⟩ (fun hS => ?_)
            have HX0 : Hid (RwW w WL B (.slice (some ⟨b0, off0, none⟩) A.length wc) (.slice (some ⟨b1, off1, none⟩) B.length lc) y0.drew) := HW2.out.after (Below.refl _ _).drew
            have HZ0 : Hid (b0 < y0.drew.heap.size ∧ b1 < y0.drew.heap.size ∧ w.heap.size < y0.drew.heap.size) := HLT2.out
            clear HW2 HLT2
            refine wpAnyH_takeV (i := 0) (some 64) (.slice (some ⟨b0, off0, none⟩) A.length wc) rfl rfl (by kernel_rfl) (fun _ _ _ h => h) (Or.inl ⟨by rfl, (fun W _ => by rfl)⟩) hS ?_
            simp only [Act.put, List.setIfInBounds_toArray, List.set_cons_zero, List.set_cons_succ]
            refine wpAnyH_takeV (i := 1) (some 65) (.int .i64 (n : Int)) rfl rfl (by kernel_rfl) (fun _ _ _ h => h) (Or.inl ⟨by rfl, (fun W _ => by rfl)⟩) hS ?_
            simp only [Act.put, List.setIfInBounds_toArray, List.set_cons_zero, List.set_cons_succ]
            refine wpAnyH_takeV (i := 2) (some 66) (.pointer (some ⟨b0, off0 + n * 6, none⟩)) rfl rfl (by kernel_rfl) (fun _ _ _ h => h) (Or.inl ⟨by rfl, (by intro W hW; obtain ⟨⟨x0, x1, x2, x3, x4, x5⟩, y0, y1, y2, y3, y4, y5⟩ := hW; go_simp)⟩) hS ?_
            simp only [Act.put, List.setIfInBounds_toArray, List.set_cons_zero, List.set_cons_succ]
            refine wpAnyH_takeV (i := 3) (some 67) (.agg #[.int .i64 q.lo.x, .int .i64 q.lo.y, .int .i64 q.lo.z, .int .i64 q.hi.x, .int .i64 q.hi.y, .int .i64 q.hi.z]) rfl rfl (by kernel_rfl) (fun _ _ _ h => h) (Or.inl ⟨by rfl, (by intro W hW; obtain ⟨⟨x0, x1, x2, x3, x4, x5⟩, y0, y1, y2, y3, y4, y5⟩ := hW; go_simp)⟩) hS ?_
            simp only [Act.put, List.setIfInBounds_toArray, List.set_cons_zero, List.set_cons_succ]
            refine wpAnyH_takeV (i := 4) (some 68) (.slice (some ⟨b1, off1, none⟩) B.length lc) rfl rfl (by kernel_rfl) (fun _ _ _ h => h) (Or.inl ⟨by rfl, (fun W _ => by rfl)⟩) hS ?_
            simp only [Act.put, List.setIfInBounds_toArray, List.set_cons_zero, List.set_cons_succ]
            refine wpAnyH_takeV (i := 5) (some 69) (.int .i64 (k : Int)) rfl rfl (by kernel_rfl) (fun _ _ _ h => h) (Or.inl ⟨by rfl, (fun W _ => by rfl)⟩) hS ?_
            simp only [Act.put, List.setIfInBounds_toArray, List.set_cons_zero, List.set_cons_succ]
            refine wpAnyH_takeV (i := 6) (some 70) (.pointer (some ⟨b1, off1 + k * 6, none⟩)) rfl rfl (by kernel_rfl) (fun _ _ _ h => h) (Or.inl ⟨by rfl, (by intro W hW; obtain ⟨⟨x0, x1, x2, x3, x4, x5⟩, y0, y1, y2, y3, y4, y5⟩ := hW; go_simp)⟩) hS ?_
            simp only [Act.put, List.setIfInBounds_toArray, List.set_cons_zero, List.set_cons_succ]
            refine wpAnyH_takeV (i := 7) (some 71) (.agg #[.int .i64 b.lo.x, .int .i64 b.lo.y, .int .i64 b.lo.z, .int .i64 b.hi.x, .int .i64 b.hi.y, .int .i64 b.hi.z]) rfl rfl (by kernel_rfl) (fun _ _ _ h => h) (Or.inl ⟨by rfl, (by intro W hW; obtain ⟨⟨x0, x1, x2, x3, x4, x5⟩, y0, y1, y2, y3, y4, y5⟩ := hW; go_simp)⟩) hS ?_
            simp only [Act.put, List.setIfInBounds_toArray, List.set_cons_zero, List.set_cons_succ]
            clear hS
            refine wpAnyH_ready (rs := [8, 12, 13]) (by kernel_rfl) (by simp) ?_
            refine (AllReadyH.cons (o := _) rfl (fun K' HK => ?_) (AllReadyH.cons (o := _) rfl (fun K' HK => ?_) (AllReadyH.cons (o := _) rfl (fun K' HK => ?_) AllReadyH.nil)))
            · skip
              refine step_callA rfl (some 72) rfl 143 #[bxv q, bxv b] (by go_simp) (fun v W => v = .tuple #[ptv P, ptv Q] ∧ Below y0.drew.heap.size y0.drew W) ((HNB.out _).mono fun e w' h => ⟨_, h.1, rfl, h.2⟩) ?_
              rintro v9 y1 ⟨rfl, hb9⟩
              have HX1 := Lib.hid (HX0.out.after hb9)
              have HZ1 : Hid (b0 < y1.heap.size ∧ b1 < y1.heap.size ∧ w.heap.size < y1.heap.size) := by
                have h1 := hb9.size
                have h2 := HZ0.out
                exact ⟨by omega, by omega, by omega⟩
              clear hb9
              refine HK.out _ _ ⟨bxs_six HX1.out.ways HAW.out, bxs_six HX1.out.legs HBT.out⟩ (fun hS => ?_)
              clear HK K'
              simp only [Act.put, List.setIfInBounds_toArray, List.set_cons_zero, List.set_cons_succ]
              refine wpAnyH_takeV (i := 9) (some 63) (.tuple #[ptv P, ptv Q]) rfl rfl (by kernel_rfl) (fun _ _ _ h => h) (Or.inl ⟨by rfl, (fun W _ => by rfl)⟩) hS ?_
              simp only [Act.put, List.setIfInBounds_toArray, List.set_cons_zero, List.set_cons_succ]
              refine wpAnyH_takeV (i := 10) (some 73) (ptv P) rfl rfl (by kernel_rfl) (fun _ _ _ h => h) (Or.inl ⟨by rfl, (fun W _ => by rfl)⟩) hS ?_
              simp only [Act.put, List.setIfInBounds_toArray, List.set_cons_zero, List.set_cons_succ]
              refine wpAnyH_takeV (i := 11) (some 74) (ptv Q) rfl rfl (by kernel_rfl) (fun _ _ _ h => h) (Or.inl ⟨by rfl, (fun W _ => by rfl)⟩) hS ?_
              simp only [Act.put, List.setIfInBounds_toArray, List.set_cons_zero, List.set_cons_succ]
              clear hS
              refine wpAnyH_ready (rs := [12, 13]) (by kernel_rfl) (by simp) ?_
              refine (AllReadyH.cons (o := _) rfl (fun K' HK => ?_) (AllReadyH.cons (o := _) rfl (fun K' HK => ?_) AllReadyH.nil))
              · skip
                refine step_allocA rfl _ rfl (some 18) rfl _ (run_alloc_pt _) ?_
                intro g2 y2 hge hbk hb9
                have HX2 := Lib.hid (HX1.out.after hb9)
                have HZ2 : Hid (b0 < y2.heap.size ∧ b1 < y2.heap.size ∧ w.heap.size < y2.heap.size) := by
                  have h1 := hb9.size
                  have h2 := HZ1.out
                  exact ⟨by omega, by omega, by omega⟩
                have HB2 := Lib.hid hbk
                have HG2 : Hid (b0 < g2 ∧ b1 < g2 ∧ w.heap.size < g2) := by
                  have h2 := HZ1.out
                  exact ⟨by omega, by omega, by omega⟩
                clear hge hbk hb9
                refine HK.out _ _ ⟨bxs_six HX2.out.ways HAW.out, bxs_six HX2.out.legs HBT.out⟩ (fun hS => ?_)
                clear HK K'
                simp only [Act.put, List.setIfInBounds_toArray, List.set_cons_zero, List.set_cons_succ]
                clear hS
                refine wpAnyH_ready (rs := [13]) (by kernel_rfl) (by simp) ?_
                refine (AllReadyH.cons (o := _) rfl (fun K' HK => ?_) AllReadyH.nil)
                · skip
                  refine step_allocA rfl _ rfl (some 19) rfl _ (run_alloc_pt _) ?_
                  intro g3 y3 hge hbk hb9
                  have HX3 := Lib.hid (HX2.out.after hb9)
                  have HZ3 : Hid (b0 < y3.heap.size ∧ b1 < y3.heap.size ∧ w.heap.size < y3.heap.size) := by
                    have h1 := hb9.size
                    have h2 := HZ2.out
                    exact ⟨by omega, by omega, by omega⟩
                  have HB3q18 := Lib.hid (HB2.out.below hb9)
                  have HB3 := Lib.hid hbk
                  have HG3 : Hid (b0 < g3 ∧ b1 < g3 ∧ w.heap.size < g3) := by
                    have h2 := HZ2.out
                    exact ⟨by omega, by omega, by omega⟩
                  have HNEQ3 : Hid (g3 ≠ g2) := by
                    have h3 := HB2.out.lt
                    unfold Hid; omega
                  clear hge hbk hb9
                  refine HK.out _ _ ⟨bxs_six HX3.out.ways HAW.out, bxs_six HX3.out.legs HBT.out⟩ (fun hS => ?_)
                  clear HK K'
                  simp only [Act.put, List.setIfInBounds_toArray, List.set_cons_zero, List.set_cons_succ]
                  clear hS
                  refine wpAnyH_ready (rs := [14]) (by kernel_rfl) (by simp) ?_
                  refine (AllReadyH.cons (o := _) rfl (fun K' HK => ?_) AllReadyH.nil)
                  · skip
                    refine step_storeA rfl _ (.tmp 18) (.tmp 73) rfl rfl g2 88 _ #[.int .i64 P.x, .int .i64 P.y, .int .i64 P.z] HB3q18.out rfl rfl rfl (by kernel_rfl) (by kernel_rfl) ?_
                    intro y4 hbk hg9
                    have HX4 := Lib.hid (HX3.out.other hg9 HG2.out.2.2 HG2.out.1 HG2.out.2.1)
                    have HB4 := Lib.hid hbk
                    have HB4o := Lib.hid (HB3.out.else_ hg9 (fun e => HNEQ3.out (Option.some.inj e)))
                    have HZ4 : Hid (b0 < y4.heap.size ∧ b1 < y4.heap.size ∧ w.heap.size < y4.heap.size) := by
                      have h1 := hg9.size
                      have h2 := HZ3.out
                      exact ⟨by omega, by omega, by omega⟩
                    clear hbk hg9
                    refine HK.out _ _ ⟨bxs_six HX4.out.ways HAW.out, bxs_six HX4.out.legs HBT.out⟩ (fun hS => ?_)
                    clear HK K'
                    clear hS
                    refine wpAnyH_ready (rs := [15]) (by kernel_rfl) (by simp) ?_
                    refine (AllReadyH.cons (o := _) rfl (fun K' HK => ?_) AllReadyH.nil)
                    · skip
                      refine step_storeA rfl _ (.tmp 19) (.tmp 74) rfl rfl g3 88 _ #[.int .i64 Q.x, .int .i64 Q.y, .int .i64 Q.z] HB4o.out rfl rfl rfl (by kernel_rfl) (by kernel_rfl) ?_
                      intro y5 hbk hg9
                      have HX5 := Lib.hid (HX4.out.other hg9 HG3.out.2.2 HG3.out.1 HG3.out.2.1)
                      have HB5 := Lib.hid hbk
                      have HB5o := Lib.hid (HB4.out.else_ hg9 (fun e => HNEQ3.out (Option.some.inj e).symm))
                      have HZ5 : Hid (b0 < y5.heap.size ∧ b1 < y5.heap.size ∧ w.heap.size < y5.heap.size) := by
                        have h1 := hg9.size
                        have h2 := HZ4.out
                        exact ⟨by omega, by omega, by omega⟩
                      clear hbk hg9
                      refine HK.out _ _ ⟨bxs_six HX5.out.ways HAW.out, bxs_six HX5.out.legs HBT.out⟩ (fun hS => ?_)
                      clear HK K'
                      clear hS
                      refine wpAnyH_done (by kernel_rfl) ?_ _
                      have e0 := HX5.out.res.cell 0
                      have e1 := HX5.out.res.cell 1
                      have e2 := HX5.out.res.cell 2
                      have ef := HX5.out.res.free
                      have ez := HX5.out.res.lt
                      have p0 := HB5.out.cell 0
                      have p1 := HB5.out.cell 1
                      have p2 := HB5.out.cell 2
                      go_wp2
                      (try rw [Exit.noGoto_ret])
                      refine bodyPost_ret (v := .tuple #[ptv Q, .bool true]) (by simp [results, Tryz.results112, go_sem, e0, e1, e2, ef, ez]) rfl ⟨by rw [HHIT.out]; rfl, ?_⟩
                      exact ((HX5.out.below.setCell (p := ⟨w.heap.size, 0, none⟩) (Nat.le_refl _) _).setCell (p := ⟨w.heap.size, 1, none⟩) (Nat.le_refl _) _).setCell (p := ⟨w.heap.size, 2, none⟩) (Nat.le_refl _) _
              · skip
                refine step_allocA rfl _ rfl (some 19) rfl _ (run_alloc_pt _) ?_
                intro g6 y6 hge hbk hb9
                have HX6 := Lib.hid (HX1.out.after hb9)
                have HZ6 : Hid (b0 < y6.heap.size ∧ b1 < y6.heap.size ∧ w.heap.size < y6.heap.size) := by
                  have h1 := hb9.size
                  have h2 := HZ1.out
                  exact ⟨by omega, by omega, by omega⟩
                have HB6 := Lib.hid hbk
                have HG6 : Hid (b0 < g6 ∧ b1 < g6 ∧ w.heap.size < g6) := by
                  have h2 := HZ1.out
                  exact ⟨by omega, by omega, by omega⟩
                clear hge hbk hb9
                refine HK.out _ _ ⟨bxs_six HX6.out.ways HAW.out, bxs_six HX6.out.legs HBT.out⟩ (fun hS => ?_)
                clear HK K'
                simp only [Act.put, List.setIfInBounds_toArray, List.set_cons_zero, List.set_cons_succ]
                clear hS
                refine wpAnyH_ready (rs := [12]) (by kernel_rfl) (by simp) ?_
                refine (AllReadyH.cons (o := _) rfl (fun K' HK => ?_) AllReadyH.nil)
                · skip
                  refine step_allocA rfl _ rfl (some 18) rfl _ (run_alloc_pt _) ?_
                  intro g7 y7 hge hbk hb9
                  have HX7 := Lib.hid (HX6.out.after hb9)
                  have HZ7 : Hid (b0 < y7.heap.size ∧ b1 < y7.heap.size ∧ w.heap.size < y7.heap.size) := by
                    have h1 := hb9.size
                    have h2 := HZ6.out
                    exact ⟨by omega, by omega, by omega⟩
                  have HB7q19 := Lib.hid (HB6.out.below hb9)
                  have HB7 := Lib.hid hbk
                  have HG7 : Hid (b0 < g7 ∧ b1 < g7 ∧ w.heap.size < g7) := by
                    have h2 := HZ6.out
                    exact ⟨by omega, by omega, by omega⟩
                  have HNEQ7 : Hid (g7 ≠ g6) := by
                    have h3 := HB6.out.lt
                    unfold Hid; omega
                  clear hge hbk hb9
                  refine HK.out _ _ ⟨bxs_six HX7.out.ways HAW.out, bxs_six HX7.out.legs HBT.out⟩ (fun hS => ?_)
                  clear HK K'
                  simp only [Act.put, List.setIfInBounds_toArray, List.set_cons_zero, List.set_cons_succ]
                  clear hS
                  refine wpAnyH_ready (rs := [14]) (by kernel_rfl) (by simp) ?_
                  refine (AllReadyH.cons (o := _) rfl (fun K' HK => ?_) AllReadyH.nil)
                  · skip
                    refine step_storeA rfl _ (.tmp 18) (.tmp 73) rfl rfl g7 88 _ #[.int .i64 P.x, .int .i64 P.y, .int .i64 P.z] HB7.out rfl rfl rfl (by kernel_rfl) (by kernel_rfl) ?_
                    intro y8 hbk hg9
                    have HX8 := Lib.hid (HX7.out.other hg9 HG7.out.2.2 HG7.out.1 HG7.out.2.1)
                    have HB8 := Lib.hid hbk
                    have HB8o := Lib.hid (HB7q19.out.else_ hg9 (fun e => HNEQ7.out (Option.some.inj e).symm))
                    have HZ8 : Hid (b0 < y8.heap.size ∧ b1 < y8.heap.size ∧ w.heap.size < y8.heap.size) := by
                      have h1 := hg9.size
                      have h2 := HZ7.out
                      exact ⟨by omega, by omega, by omega⟩
                    clear hbk hg9
                    refine HK.out _ _ ⟨bxs_six HX8.out.ways HAW.out, bxs_six HX8.out.legs HBT.out⟩ (fun hS => ?_)
                    clear HK K'
                    clear hS
                    refine wpAnyH_ready (rs := [15]) (by kernel_rfl) (by simp) ?_
                    refine (AllReadyH.cons (o := _) rfl (fun K' HK => ?_) AllReadyH.nil)
                    · skip
                      refine step_storeA rfl _ (.tmp 19) (.tmp 74) rfl rfl g6 88 _ #[.int .i64 Q.x, .int .i64 Q.y, .int .i64 Q.z] HB8o.out rfl rfl rfl (by kernel_rfl) (by kernel_rfl) ?_
                      intro y9 hbk hg9
                      have HX9 := Lib.hid (HX8.out.other hg9 HG6.out.2.2 HG6.out.1 HG6.out.2.1)
                      have HB9 := Lib.hid hbk
                      have HB9o := Lib.hid (HB8.out.else_ hg9 (fun e => HNEQ7.out (Option.some.inj e)))
                      have HZ9 : Hid (b0 < y9.heap.size ∧ b1 < y9.heap.size ∧ w.heap.size < y9.heap.size) := by
                        have h1 := hg9.size
                        have h2 := HZ8.out
                        exact ⟨by omega, by omega, by omega⟩
                      clear hbk hg9
                      refine HK.out _ _ ⟨bxs_six HX9.out.ways HAW.out, bxs_six HX9.out.legs HBT.out⟩ (fun hS => ?_)
                      clear HK K'
                      clear hS
                      refine wpAnyH_done (by kernel_rfl) ?_ _
                      have e0 := HX9.out.res.cell 0
                      have e1 := HX9.out.res.cell 1
                      have e2 := HX9.out.res.cell 2
                      have ef := HX9.out.res.free
                      have ez := HX9.out.res.lt
                      have p0 := HB9.out.cell 0
                      have p1 := HB9.out.cell 1
                      have p2 := HB9.out.cell 2
                      go_wp2
                      (try rw [Exit.noGoto_ret])
                      refine bodyPost_ret (v := .tuple #[ptv Q, .bool true]) (by simp [results, Tryz.results112, go_sem, e0, e1, e2, ef, ez]) rfl ⟨by rw [HHIT.out]; rfl, ?_⟩
                      exact ((HX9.out.below.setCell (p := ⟨w.heap.size, 0, none⟩) (Nat.le_refl _) _).setCell (p := ⟨w.heap.size, 1, none⟩) (Nat.le_refl _) _).setCell (p := ⟨w.heap.size, 2, none⟩) (Nat.le_refl _) _
            · skip
              refine step_allocA rfl _ rfl (some 18) rfl _ (run_alloc_pt _) ?_
              intro g10 y10 hge hbk hb9
              have HX10 := Lib.hid (HX0.out.after hb9)
              have HZ10 : Hid (b0 < y10.heap.size ∧ b1 < y10.heap.size ∧ w.heap.size < y10.heap.size) := by
                have h1 := hb9.size
                have h2 := HZ0.out
                exact ⟨by omega, by omega, by omega⟩
              have HB10 := Lib.hid hbk
              have HG10 : Hid (b0 < g10 ∧ b1 < g10 ∧ w.heap.size < g10) := by
                have h2 := HZ0.out
                exact ⟨by omega, by omega, by omega⟩
              clear hge hbk hb9
              refine HK.out _ _ ⟨bxs_six HX10.out.ways HAW.out, bxs_six HX10.out.legs HBT.out⟩ (fun hS => ?_)
              clear HK K'
              simp only [Act.put, List.setIfInBounds_toArray, List.set_cons_zero, List.set_cons_succ]
              clear hS
              refine wpAnyH_ready (rs := [8, 13]) (by kernel_rfl) (by simp) ?_
              refine (AllReadyH.cons (o := _) rfl (fun K' HK => ?_) (AllReadyH.cons (o := _) rfl (fun K' HK => ?_) AllReadyH.nil))
              · skip
                refine step_callA rfl (some 72) rfl 143 #[bxv q, bxv b] (by go_simp) (fun v W => v = .tuple #[ptv P, ptv Q] ∧ Below y10.heap.size y10 W) ((HNB.out _).mono fun e w' h => ⟨_, h.1, rfl, h.2⟩) ?_
                rintro v9 y11 ⟨rfl, hb9⟩
                have HX11 := Lib.hid (HX10.out.after hb9)
                have HZ11 : Hid (b0 < y11.heap.size ∧ b1 < y11.heap.size ∧ w.heap.size < y11.heap.size) := by
                  have h1 := hb9.size
                  have h2 := HZ10.out
                  exact ⟨by omega, by omega, by omega⟩
                have HB11q18 := Lib.hid (HB10.out.below hb9)
                clear hb9
                refine HK.out _ _ ⟨bxs_six HX11.out.ways HAW.out, bxs_six HX11.out.legs HBT.out⟩ (fun hS => ?_)
                clear HK K'
                simp only [Act.put, List.setIfInBounds_toArray, List.set_cons_zero, List.set_cons_succ]
                refine wpAnyH_takeV (i := 9) (some 63) (.tuple #[ptv P, ptv Q]) rfl rfl (by kernel_rfl) (fun _ _ _ h => h) (Or.inl ⟨by rfl, (fun W _ => by rfl)⟩) hS ?_
                simp only [Act.put, List.setIfInBounds_toArray, List.set_cons_zero, List.set_cons_succ]
                refine wpAnyH_takeV (i := 10) (some 73) (ptv P) rfl rfl (by kernel_rfl) (fun _ _ _ h => h) (Or.inl ⟨by rfl, (fun W _ => by rfl)⟩) hS ?_
                simp only [Act.put, List.setIfInBounds_toArray, List.set_cons_zero, List.set_cons_succ]
                refine wpAnyH_takeV (i := 11) (some 74) (ptv Q) rfl rfl (by kernel_rfl) (fun _ _ _ h => h) (Or.inl ⟨by rfl, (fun W _ => by rfl)⟩) hS ?_
                simp only [Act.put, List.setIfInBounds_toArray, List.set_cons_zero, List.set_cons_succ]
                clear hS
                refine wpAnyH_ready (rs := [13]) (by kernel_rfl) (by simp) ?_
                refine (AllReadyH.cons (o := _) rfl (fun K' HK => ?_) AllReadyH.nil)
                · skip
                  refine step_allocA rfl _ rfl (some 19) rfl _ (run_alloc_pt _) ?_
                  intro g12 y12 hge hbk hb9
                  have HX12 := Lib.hid (HX11.out.after hb9)
                  have HZ12 : Hid (b0 < y12.heap.size ∧ b1 < y12.heap.size ∧ w.heap.size < y12.heap.size) := by
                    have h1 := hb9.size
                    have h2 := HZ11.out
                    exact ⟨by omega, by omega, by omega⟩
                  have HB12q18 := Lib.hid (HB11q18.out.below hb9)
                  have HB12 := Lib.hid hbk
                  have HG12 : Hid (b0 < g12 ∧ b1 < g12 ∧ w.heap.size < g12) := by
                    have h2 := HZ11.out
                    exact ⟨by omega, by omega, by omega⟩
                  have HNEQ12 : Hid (g12 ≠ g10) := by
                    have h3 := HB11q18.out.lt
                    unfold Hid; omega
                  clear hge hbk hb9
                  refine HK.out _ _ ⟨bxs_six HX12.out.ways HAW.out, bxs_six HX12.out.legs HBT.out⟩ (fun hS => ?_)
                  clear HK K'
                  simp only [Act.put, List.setIfInBounds_toArray, List.set_cons_zero, List.set_cons_succ]
                  clear hS
                  refine wpAnyH_ready (rs := [14]) (by kernel_rfl) (by simp) ?_
                  refine (AllReadyH.cons (o := _) rfl (fun K' HK => ?_) AllReadyH.nil)
                  · skip
                    refine step_storeA rfl _ (.tmp 18) (.tmp 73) rfl rfl g10 88 _ #[.int .i64 P.x, .int .i64 P.y, .int .i64 P.z] HB12q18.out rfl rfl rfl (by kernel_rfl) (by kernel_rfl) ?_
                    intro y13 hbk hg9
                    have HX13 := Lib.hid (HX12.out.other hg9 HG10.out.2.2 HG10.out.1 HG10.out.2.1)
                    have HB13 := Lib.hid hbk
                    have HB13o := Lib.hid (HB12.out.else_ hg9 (fun e => HNEQ12.out (Option.some.inj e)))
                    have HZ13 : Hid (b0 < y13.heap.size ∧ b1 < y13.heap.size ∧ w.heap.size < y13.heap.size) := by
                      have h1 := hg9.size
                      have h2 := HZ12.out
                      exact ⟨by omega, by omega, by omega⟩
                    clear hbk hg9
                    refine HK.out _ _ ⟨bxs_six HX13.out.ways HAW.out, bxs_six HX13.out.legs HBT.out⟩ (fun hS => ?_)
                    clear HK K'
                    clear hS
                    refine wpAnyH_ready (rs := [15]) (by kernel_rfl) (by simp) ?_
                    refine (AllReadyH.cons (o := _) rfl (fun K' HK => ?_) AllReadyH.nil)
                    · skip
                      refine step_storeA rfl _ (.tmp 19) (.tmp 74) rfl rfl g12 88 _ #[.int .i64 Q.x, .int .i64 Q.y, .int .i64 Q.z] HB13o.out rfl rfl rfl (by kernel_rfl) (by kernel_rfl) ?_
                      intro y14 hbk hg9
                      have HX14 := Lib.hid (HX13.out.other hg9 HG12.out.2.2 HG12.out.1 HG12.out.2.1)
                      have HB14 := Lib.hid hbk
                      have HB14o := Lib.hid (HB13.out.else_ hg9 (fun e => HNEQ12.out (Option.some.inj e).symm))
                      have HZ14 : Hid (b0 < y14.heap.size ∧ b1 < y14.heap.size ∧ w.heap.size < y14.heap.size) := by
                        have h1 := hg9.size
                        have h2 := HZ13.out
                        exact ⟨by omega, by omega, by omega⟩
                      clear hbk hg9
                      refine HK.out _ _ ⟨bxs_six HX14.out.ways HAW.out, bxs_six HX14.out.legs HBT.out⟩ (fun hS => ?_)
                      clear HK K'
                      clear hS
                      refine wpAnyH_done (by kernel_rfl) ?_ _
                      have e0 := HX14.out.res.cell 0
                      have e1 := HX14.out.res.cell 1
                      have e2 := HX14.out.res.cell 2
                      have ef := HX14.out.res.free
                      have ez := HX14.out.res.lt
                      have p0 := HB14.out.cell 0
                      have p1 := HB14.out.cell 1
                      have p2 := HB14.out.cell 2
                      go_wp2
                      (try rw [Exit.noGoto_ret])
                      refine bodyPost_ret (v := .tuple #[ptv Q, .bool true]) (by simp [results, Tryz.results112, go_sem, e0, e1, e2, ef, ez]) rfl ⟨by rw [HHIT.out]; rfl, ?_⟩
                      exact ((HX14.out.below.setCell (p := ⟨w.heap.size, 0, none⟩) (Nat.le_refl _) _).setCell (p := ⟨w.heap.size, 1, none⟩) (Nat.le_refl _) _).setCell (p := ⟨w.heap.size, 2, none⟩) (Nat.le_refl _) _
              · skip
                refine step_allocA rfl _ rfl (some 19) rfl _ (run_alloc_pt _) ?_
                intro g15 y15 hge hbk hb9
                have HX15 := Lib.hid (HX10.out.after hb9)
                have HZ15 : Hid (b0 < y15.heap.size ∧ b1 < y15.heap.size ∧ w.heap.size < y15.heap.size) := by
                  have h1 := hb9.size
                  have h2 := HZ10.out
                  exact ⟨by omega, by omega, by omega⟩
                have HB15q18 := Lib.hid (HB10.out.below hb9)
                have HB15 := Lib.hid hbk
                have HG15 : Hid (b0 < g15 ∧ b1 < g15 ∧ w.heap.size < g15) := by
                  have h2 := HZ10.out
                  exact ⟨by omega, by omega, by omega⟩
                have HNEQ15 : Hid (g15 ≠ g10) := by
                  have h3 := HB10.out.lt
                  unfold Hid; omega
                clear hge hbk hb9
                refine HK.out _ _ ⟨bxs_six HX15.out.ways HAW.out, bxs_six HX15.out.legs HBT.out⟩ (fun hS => ?_)
                clear HK K'
                simp only [Act.put, List.setIfInBounds_toArray, List.set_cons_zero, List.set_cons_succ]
                clear hS
                refine wpAnyH_ready (rs := [8]) (by kernel_rfl) (by simp) ?_
                refine (AllReadyH.cons (o := _) rfl (fun K' HK => ?_) AllReadyH.nil)
                · skip
                  refine step_callA rfl (some 72) rfl 143 #[bxv q, bxv b] (by go_simp) (fun v W => v = .tuple #[ptv P, ptv Q] ∧ Below y15.heap.size y15 W) ((HNB.out _).mono fun e w' h => ⟨_, h.1, rfl, h.2⟩) ?_
                  rintro v9 y16 ⟨rfl, hb9⟩
                  have HX16 := Lib.hid (HX15.out.after hb9)
                  have HZ16 : Hid (b0 < y16.heap.size ∧ b1 < y16.heap.size ∧ w.heap.size < y16.heap.size) := by
                    have h1 := hb9.size
                    have h2 := HZ15.out
                    exact ⟨by omega, by omega, by omega⟩
                  have HB16q18 := Lib.hid (HB15q18.out.below hb9)
                  have HB16q19 := Lib.hid (HB15.out.below hb9)
                  clear hb9
                  refine HK.out _ _ ⟨bxs_six HX16.out.ways HAW.out, bxs_six HX16.out.legs HBT.out⟩ (fun hS => ?_)
                  clear HK K'
                  simp only [Act.put, List.setIfInBounds_toArray, List.set_cons_zero, List.set_cons_succ]
                  refine wpAnyH_takeV (i := 9) (some 63) (.tuple #[ptv P, ptv Q]) rfl rfl (by kernel_rfl) (fun _ _ _ h => h) (Or.inl ⟨by rfl, (fun W _ => by rfl)⟩) hS ?_
                  simp only [Act.put, List.setIfInBounds_toArray, List.set_cons_zero, List.set_cons_succ]
                  refine wpAnyH_takeV (i := 10) (some 73) (ptv P) rfl rfl (by kernel_rfl) (fun _ _ _ h => h) (Or.inl ⟨by rfl, (fun W _ => by rfl)⟩) hS ?_
                  simp only [Act.put, List.setIfInBounds_toArray, List.set_cons_zero, List.set_cons_succ]
                  refine wpAnyH_takeV (i := 11) (some 74) (ptv Q) rfl rfl (by kernel_rfl) (fun _ _ _ h => h) (Or.inl ⟨by rfl, (fun W _ => by rfl)⟩) hS ?_
                  simp only [Act.put, List.setIfInBounds_toArray, List.set_cons_zero, List.set_cons_succ]
                  clear hS
                  refine wpAnyH_ready (rs := [14]) (by kernel_rfl) (by simp) ?_
                  refine (AllReadyH.cons (o := _) rfl (fun K' HK => ?_) AllReadyH.nil)
                  · skip
                    refine step_storeA rfl _ (.tmp 18) (.tmp 73) rfl rfl g10 88 _ #[.int .i64 P.x, .int .i64 P.y, .int .i64 P.z] HB16q18.out rfl rfl rfl (by kernel_rfl) (by kernel_rfl) ?_
                    intro y17 hbk hg9
                    have HX17 := Lib.hid (HX16.out.other hg9 HG10.out.2.2 HG10.out.1 HG10.out.2.1)
                    have HB17 := Lib.hid hbk
                    have HB17o := Lib.hid (HB16q19.out.else_ hg9 (fun e => HNEQ15.out (Option.some.inj e)))
                    have HZ17 : Hid (b0 < y17.heap.size ∧ b1 < y17.heap.size ∧ w.heap.size < y17.heap.size) := by
                      have h1 := hg9.size
                      have h2 := HZ16.out
                      exact ⟨by omega, by omega, by omega⟩
                    clear hbk hg9
                    refine HK.out _ _ ⟨bxs_six HX17.out.ways HAW.out, bxs_six HX17.out.legs HBT.out⟩ (fun hS => ?_)
                    clear HK K'
                    clear hS
                    refine wpAnyH_ready (rs := [15]) (by kernel_rfl) (by simp) ?_
                    refine (AllReadyH.cons (o := _) rfl (fun K' HK => ?_) AllReadyH.nil)
                    · skip
                      refine step_storeA rfl _ (.tmp 19) (.tmp 74) rfl rfl g15 88 _ #[.int .i64 Q.x, .int .i64 Q.y, .int .i64 Q.z] HB17o.out rfl rfl rfl (by kernel_rfl) (by kernel_rfl) ?_
                      intro y18 hbk hg9
                      have HX18 := Lib.hid (HX17.out.other hg9 HG15.out.2.2 HG15.out.1 HG15.out.2.1)
                      have HB18 := Lib.hid hbk
                      have HB18o := Lib.hid (HB17.out.else_ hg9 (fun e => HNEQ15.out (Option.some.inj e).symm))
                      have HZ18 : Hid (b0 < y18.heap.size ∧ b1 < y18.heap.size ∧ w.heap.size < y18.heap.size) := by
                        have h1 := hg9.size
                        have h2 := HZ17.out
                        exact ⟨by omega, by omega, by omega⟩
                      clear hbk hg9
                      refine HK.out _ _ ⟨bxs_six HX18.out.ways HAW.out, bxs_six HX18.out.legs HBT.out⟩ (fun hS => ?_)
                      clear HK K'
                      clear hS
                      refine wpAnyH_done (by kernel_rfl) ?_ _
                      have e0 := HX18.out.res.cell 0
                      have e1 := HX18.out.res.cell 1
                      have e2 := HX18.out.res.cell 2
                      have ef := HX18.out.res.free
                      have ez := HX18.out.res.lt
                      have p0 := HB18.out.cell 0
                      have p1 := HB18.out.cell 1
                      have p2 := HB18.out.cell 2
                      go_wp2
                      (try rw [Exit.noGoto_ret])
                      refine bodyPost_ret (v := .tuple #[ptv Q, .bool true]) (by simp [results, Tryz.results112, go_sem, e0, e1, e2, ef, ez]) rfl ⟨by rw [HHIT.out]; rfl, ?_⟩
                      exact ((HX18.out.below.setCell (p := ⟨w.heap.size, 0, none⟩) (Nat.le_refl _) _).setCell (p := ⟨w.heap.size, 1, none⟩) (Nat.le_refl _) _).setCell (p := ⟨w.heap.size, 2, none⟩) (Nat.le_refl _) _
            · skip
              refine step_allocA rfl _ rfl (some 19) rfl _ (run_alloc_pt _) ?_
              intro g19 y19 hge hbk hb9
              have HX19 := Lib.hid (HX0.out.after hb9)
              have HZ19 : Hid (b0 < y19.heap.size ∧ b1 < y19.heap.size ∧ w.heap.size < y19.heap.size) := by
                have h1 := hb9.size
                have h2 := HZ0.out
                exact ⟨by omega, by omega, by omega⟩
              have HB19 := Lib.hid hbk
              have HG19 : Hid (b0 < g19 ∧ b1 < g19 ∧ w.heap.size < g19) := by
                have h2 := HZ0.out
                exact ⟨by omega, by omega, by omega⟩
              clear hge hbk hb9
              refine HK.out _ _ ⟨bxs_six HX19.out.ways HAW.out, bxs_six HX19.out.legs HBT.out⟩ (fun hS => ?_)
              clear HK K'
              simp only [Act.put, List.setIfInBounds_toArray, List.set_cons_zero, List.set_cons_succ]
              clear hS
              refine wpAnyH_ready (rs := [8, 12]) (by kernel_rfl) (by simp) ?_
              refine (AllReadyH.cons (o := _) rfl (fun K' HK => ?_) (AllReadyH.cons (o := _) rfl (fun K' HK => ?_) AllReadyH.nil))
              · skip
                refine step_callA rfl (some 72) rfl 143 #[bxv q, bxv b] (by go_simp) (fun v W => v = .tuple #[ptv P, ptv Q] ∧ Below y19.heap.size y19 W) ((HNB.out _).mono fun e w' h => ⟨_, h.1, rfl, h.2⟩) ?_
                rintro v9 y20 ⟨rfl, hb9⟩
                have HX20 := Lib.hid (HX19.out.after hb9)
                have HZ20 : Hid (b0 < y20.heap.size ∧ b1 < y20.heap.size ∧ w.heap.size < y20.heap.size) := by
                  have h1 := hb9.size
                  have h2 := HZ19.out
                  exact ⟨by omega, by omega, by omega⟩
                have HB20q19 := Lib.hid (HB19.out.below hb9)
                clear hb9
                refine HK.out _ _ ⟨bxs_six HX20.out.ways HAW.out, bxs_six HX20.out.legs HBT.out⟩ (fun hS => ?_)
                clear HK K'
                simp only [Act.put, List.setIfInBounds_toArray, List.set_cons_zero, List.set_cons_succ]
                refine wpAnyH_takeV (i := 9) (some 63) (.tuple #[ptv P, ptv Q]) rfl rfl (by kernel_rfl) (fun _ _ _ h => h) (Or.inl ⟨by rfl, (fun W _ => by rfl)⟩) hS ?_
                simp only [Act.put, List.setIfInBounds_toArray, List.set_cons_zero, List.set_cons_succ]
                refine wpAnyH_takeV (i := 10) (some 73) (ptv P) rfl rfl (by kernel_rfl) (fun _ _ _ h => h) (Or.inl ⟨by rfl, (fun W _ => by rfl)⟩) hS ?_
                simp only [Act.put, List.setIfInBounds_toArray, List.set_cons_zero, List.set_cons_succ]
                refine wpAnyH_takeV (i := 11) (some 74) (ptv Q) rfl rfl (by kernel_rfl) (fun _ _ _ h => h) (Or.inl ⟨by rfl, (fun W _ => by rfl)⟩) hS ?_
                simp only [Act.put, List.setIfInBounds_toArray, List.set_cons_zero, List.set_cons_succ]
                clear hS
                refine wpAnyH_ready (rs := [12]) (by kernel_rfl) (by simp) ?_
                refine (AllReadyH.cons (o := _) rfl (fun K' HK => ?_) AllReadyH.nil)
                · skip
                  refine step_allocA rfl _ rfl (some 18) rfl _ (run_alloc_pt _) ?_
                  intro g21 y21 hge hbk hb9
                  have HX21 := Lib.hid (HX20.out.after hb9)
                  have HZ21 : Hid (b0 < y21.heap.size ∧ b1 < y21.heap.size ∧ w.heap.size < y21.heap.size) := by
                    have h1 := hb9.size
                    have h2 := HZ20.out
                    exact ⟨by omega, by omega, by omega⟩
                  have HB21q19 := Lib.hid (HB20q19.out.below hb9)
                  have HB21 := Lib.hid hbk
                  have HG21 : Hid (b0 < g21 ∧ b1 < g21 ∧ w.heap.size < g21) := by
                    have h2 := HZ20.out
                    exact ⟨by omega, by omega, by omega⟩
                  have HNEQ21 : Hid (g21 ≠ g19) := by
                    have h3 := HB20q19.out.lt
                    unfold Hid; omega
                  clear hge hbk hb9
                  refine HK.out _ _ ⟨bxs_six HX21.out.ways HAW.out, bxs_six HX21.out.legs HBT.out⟩ (fun hS => ?_)
                  clear HK K'
                  simp only [Act.put, List.setIfInBounds_toArray, List.set_cons_zero, List.set_cons_succ]
                  clear hS
                  refine wpAnyH_ready (rs := [14]) (by kernel_rfl) (by simp) ?_
                  refine (AllReadyH.cons (o := _) rfl (fun K' HK => ?_) AllReadyH.nil)
                  · skip
                    refine step_storeA rfl _ (.tmp 18) (.tmp 73) rfl rfl g21 88 _ #[.int .i64 P.x, .int .i64 P.y, .int .i64 P.z] HB21.out rfl rfl rfl (by kernel_rfl) (by kernel_rfl) ?_
                    intro y22 hbk hg9
                    have HX22 := Lib.hid (HX21.out.other hg9 HG21.out.2.2 HG21.out.1 HG21.out.2.1)
                    have HB22 := Lib.hid hbk
                    have HB22o := Lib.hid (HB21q19.out.else_ hg9 (fun e => HNEQ21.out (Option.some.inj e).symm))
                    have HZ22 : Hid (b0 < y22.heap.size ∧ b1 < y22.heap.size ∧ w.heap.size < y22.heap.size) := by
                      have h1 := hg9.size
                      have h2 := HZ21.out
                      exact ⟨by omega, by omega, by omega⟩
                    clear hbk hg9
                    refine HK.out _ _ ⟨bxs_six HX22.out.ways HAW.out, bxs_six HX22.out.legs HBT.out⟩ (fun hS => ?_)
                    clear HK K'
                    clear hS
                    refine wpAnyH_ready (rs := [15]) (by kernel_rfl) (by simp) ?_
                    refine (AllReadyH.cons (o := _) rfl (fun K' HK => ?_) AllReadyH.nil)
                    · skip
                      refine step_storeA rfl _ (.tmp 19) (.tmp 74) rfl rfl g19 88 _ #[.int .i64 Q.x, .int .i64 Q.y, .int .i64 Q.z] HB22o.out rfl rfl rfl (by kernel_rfl) (by kernel_rfl) ?_
                      intro y23 hbk hg9
                      have HX23 := Lib.hid (HX22.out.other hg9 HG19.out.2.2 HG19.out.1 HG19.out.2.1)
                      have HB23 := Lib.hid hbk
                      have HB23o := Lib.hid (HB22.out.else_ hg9 (fun e => HNEQ21.out (Option.some.inj e)))
                      have HZ23 : Hid (b0 < y23.heap.size ∧ b1 < y23.heap.size ∧ w.heap.size < y23.heap.size) := by
                        have h1 := hg9.size
                        have h2 := HZ22.out
                        exact ⟨by omega, by omega, by omega⟩
                      clear hbk hg9
                      refine HK.out _ _ ⟨bxs_six HX23.out.ways HAW.out, bxs_six HX23.out.legs HBT.out⟩ (fun hS => ?_)
                      clear HK K'
                      clear hS
                      refine wpAnyH_done (by kernel_rfl) ?_ _
                      have e0 := HX23.out.res.cell 0
                      have e1 := HX23.out.res.cell 1
                      have e2 := HX23.out.res.cell 2
                      have ef := HX23.out.res.free
                      have ez := HX23.out.res.lt
                      have p0 := HB23.out.cell 0
                      have p1 := HB23.out.cell 1
                      have p2 := HB23.out.cell 2
                      go_wp2
                      (try rw [Exit.noGoto_ret])
                      refine bodyPost_ret (v := .tuple #[ptv Q, .bool true]) (by simp [results, Tryz.results112, go_sem, e0, e1, e2, ef, ez]) rfl ⟨by rw [HHIT.out]; rfl, ?_⟩
                      exact ((HX23.out.below.setCell (p := ⟨w.heap.size, 0, none⟩) (Nat.le_refl _) _).setCell (p := ⟨w.heap.size, 1, none⟩) (Nat.le_refl _) _).setCell (p := ⟨w.heap.size, 2, none⟩) (Nat.le_refl _) _
              · skip
                refine step_allocA rfl _ rfl (some 18) rfl _ (run_alloc_pt _) ?_
                intro g24 y24 hge hbk hb9
                have HX24 := Lib.hid (HX19.out.after hb9)
                have HZ24 : Hid (b0 < y24.heap.size ∧ b1 < y24.heap.size ∧ w.heap.size < y24.heap.size) := by
                  have h1 := hb9.size
                  have h2 := HZ19.out
                  exact ⟨by omega, by omega, by omega⟩
                have HB24q19 := Lib.hid (HB19.out.below hb9)
                have HB24 := Lib.hid hbk
                have HG24 : Hid (b0 < g24 ∧ b1 < g24 ∧ w.heap.size < g24) := by
                  have h2 := HZ19.out
                  exact ⟨by omega, by omega, by omega⟩
                have HNEQ24 : Hid (g24 ≠ g19) := by
                  have h3 := HB19.out.lt
                  unfold Hid; omega
                clear hge hbk hb9
                refine HK.out _ _ ⟨bxs_six HX24.out.ways HAW.out, bxs_six HX24.out.legs HBT.out⟩ (fun hS => ?_)
                clear HK K'
                simp only [Act.put, List.setIfInBounds_toArray, List.set_cons_zero, List.set_cons_succ]
                clear hS
                refine wpAnyH_ready (rs := [8]) (by kernel_rfl) (by simp) ?_
                refine (AllReadyH.cons (o := _) rfl (fun K' HK => ?_) AllReadyH.nil)
                · skip
                  refine step_callA rfl (some 72) rfl 143 #[bxv q, bxv b] (by go_simp) (fun v W => v = .tuple #[ptv P, ptv Q] ∧ Below y24.heap.size y24 W) ((HNB.out _).mono fun e w' h => ⟨_, h.1, rfl, h.2⟩) ?_
                  rintro v9 y25 ⟨rfl, hb9⟩
                  have HX25 := Lib.hid (HX24.out.after hb9)
                  have HZ25 : Hid (b0 < y25.heap.size ∧ b1 < y25.heap.size ∧ w.heap.size < y25.heap.size) := by
                    have h1 := hb9.size
                    have h2 := HZ24.out
                    exact ⟨by omega, by omega, by omega⟩
                  have HB25q18 := Lib.hid (HB24.out.below hb9)
                  have HB25q19 := Lib.hid (HB24q19.out.below hb9)
                  clear hb9
                  refine HK.out _ _ ⟨bxs_six HX25.out.ways HAW.out, bxs_six HX25.out.legs HBT.out⟩ (fun hS => ?_)
                  clear HK K'
                  simp only [Act.put, List.setIfInBounds_toArray, List.set_cons_zero, List.set_cons_succ]
                  refine wpAnyH_takeV (i := 9) (some 63) (.tuple #[ptv P, ptv Q]) rfl rfl (by kernel_rfl) (fun _ _ _ h => h) (Or.inl ⟨by rfl, (fun W _ => by rfl)⟩) hS ?_
                  simp only [Act.put, List.setIfInBounds_toArray, List.set_cons_zero, List.set_cons_succ]
                  refine wpAnyH_takeV (i := 10) (some 73) (ptv P) rfl rfl (by kernel_rfl) (fun _ _ _ h => h) (Or.inl ⟨by rfl, (fun W _ => by rfl)⟩) hS ?_
                  simp only [Act.put, List.setIfInBounds_toArray, List.set_cons_zero, List.set_cons_succ]
                  refine wpAnyH_takeV (i := 11) (some 74) (ptv Q) rfl rfl (by kernel_rfl) (fun _ _ _ h => h) (Or.inl ⟨by rfl, (fun W _ => by rfl)⟩) hS ?_
                  simp only [Act.put, List.setIfInBounds_toArray, List.set_cons_zero, List.set_cons_succ]
                  clear hS
                  refine wpAnyH_ready (rs := [14]) (by kernel_rfl) (by simp) ?_
                  refine (AllReadyH.cons (o := _) rfl (fun K' HK => ?_) AllReadyH.nil)
                  · skip
                    refine step_storeA rfl _ (.tmp 18) (.tmp 73) rfl rfl g24 88 _ #[.int .i64 P.x, .int .i64 P.y, .int .i64 P.z] HB25q18.out rfl rfl rfl (by kernel_rfl) (by kernel_rfl) ?_
                    intro y26 hbk hg9
                    have HX26 := Lib.hid (HX25.out.other hg9 HG24.out.2.2 HG24.out.1 HG24.out.2.1)
                    have HB26 := Lib.hid hbk
                    have HB26o := Lib.hid (HB25q19.out.else_ hg9 (fun e => HNEQ24.out (Option.some.inj e).symm))
                    have HZ26 : Hid (b0 < y26.heap.size ∧ b1 < y26.heap.size ∧ w.heap.size < y26.heap.size) := by
                      have h1 := hg9.size
                      have h2 := HZ25.out
                      exact ⟨by omega, by omega, by omega⟩
                    clear hbk hg9
                    refine HK.out _ _ ⟨bxs_six HX26.out.ways HAW.out, bxs_six HX26.out.legs HBT.out⟩ (fun hS => ?_)
                    clear HK K'
                    clear hS
                    refine wpAnyH_ready (rs := [15]) (by kernel_rfl) (by simp) ?_
                    refine (AllReadyH.cons (o := _) rfl (fun K' HK => ?_) AllReadyH.nil)
                    · skip
                      refine step_storeA rfl _ (.tmp 19) (.tmp 74) rfl rfl g19 88 _ #[.int .i64 Q.x, .int .i64 Q.y, .int .i64 Q.z] HB26o.out rfl rfl rfl (by kernel_rfl) (by kernel_rfl) ?_
                      intro y27 hbk hg9
                      have HX27 := Lib.hid (HX26.out.other hg9 HG19.out.2.2 HG19.out.1 HG19.out.2.1)
                      have HB27 := Lib.hid hbk
                      have HB27o := Lib.hid (HB26.out.else_ hg9 (fun e => HNEQ24.out (Option.some.inj e)))
                      have HZ27 : Hid (b0 < y27.heap.size ∧ b1 < y27.heap.size ∧ w.heap.size < y27.heap.size) := by
                        have h1 := hg9.size
                        have h2 := HZ26.out
                        exact ⟨by omega, by omega, by omega⟩
                      clear hbk hg9
                      refine HK.out _ _ ⟨bxs_six HX27.out.ways HAW.out, bxs_six HX27.out.legs HBT.out⟩ (fun hS => ?_)
                      clear HK K'
                      clear hS
                      refine wpAnyH_done (by kernel_rfl) ?_ _
                      have e0 := HX27.out.res.cell 0
                      have e1 := HX27.out.res.cell 1
                      have e2 := HX27.out.res.cell 2
                      have ef := HX27.out.res.free
                      have ez := HX27.out.res.lt
                      have p0 := HB27.out.cell 0
                      have p1 := HB27.out.cell 1
                      have p2 := HB27.out.cell 2
                      go_wp2
                      (try rw [Exit.noGoto_ret])
                      refine bodyPost_ret (v := .tuple #[ptv Q, .bool true]) (by simp [results, Tryz.results112, go_sem, e0, e1, e2, ef, ez]) rfl ⟨by rw [HHIT.out]; rfl, ?_⟩
                      exact ((HX27.out.below.setCell (p := ⟨w.heap.size, 0, none⟩) (Nat.le_refl _) _).setCell (p := ⟨w.heap.size, 1, none⟩) (Nat.le_refl _) _).setCell (p := ⟨w.heap.size, 2, none⟩) (Nat.le_refl _) _
        · obtain rfl : k = B.length := by omega
          have HNX := Lib.hid (noHit_row HNH.out)
          go_wp2
          go_roundw
          case rel => exact ⟨n + 1, by omega, by go_num, HW.out, HNX.out⟩
          case measure => simp [intOf]; omega
    · obtain rfl : n = A.length := by omega
      have HNO := Lib.hid (wit_none HNH.out)
      have e0 := HRo.out.res.cell 0
      have e1 := HRo.out.res.cell 1
      have e2 := HRo.out.res.cell 2
      have ef := HRo.out.res.free
      have ez := HRo.out.res.lt
      go_wp2
      (try rw [Exit.noGoto_ret])
      refine bodyPost_ret (v := .tuple #[ptv pt0, .bool false]) (by simp [results, Tryz.results112, go_sem, e0, e1, e2, ef, ez]) rfl ⟨by rw [HNO.out]; rfl, ?_⟩
      exact ((HRo.out.below.setCell (p := ⟨w.heap.size, 0, none⟩) (Nat.le_refl _) _).setCell (p := ⟨w.heap.size, 1, none⟩) (Nat.le_refl _) _).setCell (p := ⟨w.heap.size, 2, none⟩) (Nat.le_refl _) _
end
end
end Go.Proofs.YtamogedpgkofjaaGreat
