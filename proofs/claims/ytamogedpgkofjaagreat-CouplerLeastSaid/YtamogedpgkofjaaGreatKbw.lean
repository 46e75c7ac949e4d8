/-
  Base texts, shaken by wip/shake.py: Bkw.
-/
import Derived.Test.YtamogedpgkofjaaGreatKba
namespace Go.Proofs.YtamogedpgkofjaaGreat
section
section
open Go.RowKit
set_option linter.unusedVariables false
set_option linter.unusedSimpArgs false
attribute [local go_sem ↓] Go.wp_at_zero Go.wp_at_succ

set_option maxRecDepth 100000 in
set_option maxHeartbeats 2000000 in
theorem sweep_any (v : Value) (l : List Bx) (x : Int) (w : World) (hp : Bxs w v l) (hl : l.length ≤ 1000000) (hx : axB x = true) :
    Calls Tryz.prog 94 #[v, .int .i64 x] w fun e w' => ∃ o, e = .returned o ∧ Hid (OwnBxs w' w.heap.size o (l.map fun b => wayB b x)) ∧ Below w.heap.size w w' := by
  obtain ⟨ao, cap, rfl⟩ := hp.at_
  have HP := Lib.hid hp
  have HX := Lib.hid hx
  clear hp hx
  go_enter Tryz.func94, Tryz.ntmps94
  go_wp2
  go_loopw [5, 10] (fun o i wr => ∃ k : Nat, k ≤ l.length ∧ i = .int .i64 k ∧ Below w.heap.size w wr ∧ OwnBxs wr w.heap.size o ((l.take k).map fun b => wayB b x)) (fun _ i _ => l.length - (intOf i).toNat)
  case atStart => exact ⟨0, Nat.zero_le _, rfl, Below.refl _ _, OwnN.nil _ _ _ _ _⟩
  case round =>
    obtain ⟨k, hk, rfl, hBr, hown⟩ := hrel
    by_cases hk2 : k < l.length
    · obtain ⟨p, hy⟩ : ∃ y, l[k]? = some y := ⟨_, List.getElem?_eq_getElem hk2⟩
      obtain ⟨b, off, rfl, hbl, c0, c1, c2, c3, c4, c5⟩ := bxs_get (HP.out.below hBr) hy
      have HM := Lib.hid (snoc_map (fun b => wayB b x) hy)
      have HB := Lib.hid (hBr.alloc hBr.size (.cells (bxCellsA p) 134))
      have HO := Lib.hid (OwnN.alloc hown (.cells (bxCellsA p) 134))
      have HW := Lib.hid (fun W => way_any p x W HX.out)
      have hl2 : ((l.take k).map fun b => wayB b x).length + 1 ≤ 1099511627776 := by simp; omega
      clear hy hBr hown
      go_wp2_with fail
      refine (HW.out _).mono ?_
      rintro e w9 ⟨rfl, hb9⟩
      have HB9 := Lib.hid (bstep HB.out hb9)
      have HO9 := Lib.hid (OwnN.below HO.out hb9)
      have hbase : w.heap.size ≤ w9.heap.size := HB9.out.size
      clear hb9
      generalize wayB p x = q at *
      go_wp2_with (at_builtin; refine wpList_pushAt _ w9.heap.size (by simp) rfl _ _ 71 rfl 134 6 48 elemBx w.heap.size bxCells _ _ q _ rfl rfl (bx_one _) HO9.out rfl rfl hl2 (by omega) hbase ?_; intro v' w' hown' hg' hat'; have HO8 := Lib.hid hown'; have HB8 := Lib.hid (HB9.out.grown hg' HB9.out.size (fun j hj => (HO9.out.lt j hj).1)); clear hown' hg' hat')
      go_roundw
      case rel => exact ⟨k + 1, by omega, by go_num, HB8.out, by rw [HM.out]; exact HO8.out⟩
      case measure => simp [intOf]; omega
    · obtain rfl : k = l.length := by omega
      rw [List.take_length] at hown
      have HO := Lib.hid hown
      have HB := Lib.hid hBr
      clear hown hBr
      go_wp2
      go_ret
      exact ⟨_, rfl, HO.out, HB.out⟩

def rodCells (r : Value × Int) : List Value := [r.1, .int .i64 r.2]
theorem rod_len (r : Value × Int) : (rodCells r).length = 2 := rfl
theorem elemRod : ElemN Tryz.prog 67 73 2 32 := elemN_of (z := .agg #[.slice none 0 0, .int .i64 0]) Tryz.underlying67 (by kernel_rfl) rfl (by omega)
/-- A slice of rods that reads as legs and sizes. -/
def Rods (w : World) (v : Value) (L : List (List Bx)) (Z : List Int) : Prop :=
  ∃ R : List (Value × Int), Fl 2 rodCells w v R ∧ R.length = L.length ∧ R.length = Z.length ∧ ∀ (k : Nat) r, R[k]? = some r → Bxs w r.1 (L.getD k []) ∧ r.2 = Z.getD k 0
theorem Rods.below {w w1 : World} {v : Value} {L : List (List Bx)} {Z : List Int} (h : Rods w v L Z) (hb : Below w.heap.size w w1) : Rods w1 v L Z := by
  obtain ⟨R, h1, h2, h3, h4⟩ := h
  exact ⟨R, h1.below hb, h2, h3, fun k r hr => ⟨(h4 k r hr).1.below hb, (h4 k r hr).2⟩⟩
theorem Rods.at_ {w : World} {v : Value} {L : List (List Bx)} {Z : List Int} (h : Rods w v L Z) : ∃ ao cap, v = .slice ao L.length cap := by
  obtain ⟨R, h1, h2, h3, h4⟩ := h
  obtain ⟨ao, cap, rfl⟩ := h1.at_
  exact ⟨ao, cap, by rw [h2]⟩
theorem rods_get {w : World} {ao : Option Addr} {len cap k : Nat} {L : List (List Bx)} {Z : List Int} (h : Rods w (.slice ao len cap) L Z) (hk : k < L.length) :
    ∃ b off u, ao = some ⟨b, off, none⟩ ∧ b < w.heap.size ∧ w.cell? ⟨b, off + k * 2, none⟩ = some u ∧ w.cell? ⟨b, off + k * 2 + 1, none⟩ = some (.int .i64 (Z.getD k 0)) ∧ Bxs w u (L.getD k []) := by
  obtain ⟨R, h1, h2, h3, h4⟩ := h
  obtain ⟨r, hr⟩ : ∃ y, R[k]? = some y := ⟨_, List.getElem?_eq_getElem (by omega)⟩
  obtain ⟨b, off, rfl, hlt, hc⟩ := h1.get hr
  obtain ⟨h5, h6⟩ := h4 k r hr
  refine ⟨b, off, r.1, rfl, hlt, hc 0 _ rfl, ?_, h5⟩
  rw [← h6]
  exact hc 1 _ rfl
theorem OwnN.apart {α β : Type} {w : World} {base base' : Nat} {e e' : TypeId} {n n' : Nat} {f : α → List Value} {f' : β → List Value} {v v' : Value} {l : List α} {l' : List β} (h : OwnN w base e n f v l) (h' : OwnN w base' e' n' f' v' l') (hne : e ≠ e') : ∀ g, v.ownBlock = some g → some g ≠ v'.ownBlock := by
  intro g hg he
  rcases h.2 with ⟨rfl, _⟩ | ⟨g1, cap, cur, rfl, _, hh, _⟩
  · cases hg
  · cases hg
    rcases h'.2 with ⟨rfl, _⟩ | ⟨g2, cap2, cur2, rfl, _, hh2, _⟩
    · cases he
    · cases he
      rw [hh] at hh2
      injection hh2 with hh2
      injection hh2 with _ ht
      exact hne ht
structure RodsW (w : World) (B : Nat) (o : Value) (R : List (Value × Int)) (L : List (List Bx)) (Z : List Int) (k : Nat) (wr : World) : Prop where
  below : Below w.heap.size w wr
  len : R.length = k
  own : OwnN wr B 73 2 rodCells o R
  at_ : ∀ (j : Nat) r, R[j]? = some r → OwnBxs wr B r.1 (L.getD j []) ∧ r.2 = Z.getD j 0
theorem RodsW.after {w : World} {B : Nat} {o : Value} {R : List (Value × Int)} {L : List (List Bx)} {Z : List Int} {k : Nat} {wr w' : World} (h : RodsW w B o R L Z k wr) (hb : Below wr.heap.size wr w') : RodsW w B o R L Z k w' :=
  ⟨bstep h.below hb, h.len, OwnN.below h.own hb, fun j r hr => ⟨OwnN.below (h.at_ j r hr).1 hb, (h.at_ j r hr).2⟩⟩
theorem RodsW.push {w : World} {B : Nat} {o o' : Value} {R : List (Value × Int)} {L : List (List Bx)} {Z : List Int} {k : Nat} {wr w' : World} {r : Value × Int} (h : RodsW w B o R L Z k wr) (hB : w.heap.size ≤ B) (hown : OwnN w' B 73 2 rodCells o' (R ++ [r])) (hg : wr.grownBy w' o.ownBlock)
    (hr : OwnBxs wr B r.1 (L.getD k [])) (hz : r.2 = Z.getD k 0) : RodsW w B o' (R ++ [r]) L Z (k + 1) w' := by
  refine ⟨h.below.grown hg h.below.size (fun j hj => Nat.le_trans hB (OwnN.lt h.own j hj).1), by rw [List.length_append, h.len]; rfl, hown, fun j s hs => ?_⟩
  have hlen := h.len
  rcases Nat.lt_or_ge j R.length with h1 | h1
  · rw [List.getElem?_append_left h1] at hs
    obtain ⟨a1, a2⟩ := h.at_ j s hs
    exact ⟨OwnN.only a1 hg (OwnN.apart a1 h.own (by decide)), a2⟩
  · rw [List.getElem?_append_right h1] at hs
    have hj : j = k := by have := (List.getElem?_eq_some_iff.1 hs).1; simp at this; omega
    subst hj
    rw [show j - R.length = 0 by omega] at hs
    cases hs
    exact ⟨OwnN.only hr hg (OwnN.apart hr h.own (by decide)), hz⟩
theorem RodsW.rods {w : World} {B : Nat} {o : Value} {R : List (Value × Int)} {L : List (List Bx)} {Z : List Int} {wr : World} (h : RodsW w B o R L Z L.length wr) (hz : Z.length = L.length) : Rods wr o L Z :=
  ⟨R, OwnN.fl rod_len h.own, h.len, by rw [h.len, hz], fun k r hr => ⟨OwnN.fl bx_len (h.at_ k r hr).1, (h.at_ k r hr).2⟩⟩
end

section
open Go.RowKit
set_option linter.unusedVariables false
set_option linter.unusedSimpArgs false
attribute [local go_sem ↓] Go.wp_at_zero Go.wp_at_succ

theorem rods1_any (B : Nat) (m : ByteArray) (x : BarD) (u : Value) (w : World) (hB : w.cell? ⟨B, 0, none⟩ = some (.string m)) (hlt : B < w.heap.size) :
    Calls Tryz.prog 70 #[barv x u, .pointer (some ⟨B, 0, none⟩)] w fun e w' => e = .returned (.bool (isMark m x)) ∧ Below w.heap.size w w' := by
  have H := Lib.hid (bytes_beq x.mark m)
  obtain ⟨mk, s, c, co, ds⟩ := x
  go_enter Tryz.func70, Tryz.ntmps70
  go_wp2
  go_ret
  exact ⟨ret_bool H.out, by go_grown⟩

theorem rods_bad (v vr : Value) (l : List BarD) (rs : List RunD) (w : World) (hp : Bars w v l) (hr : Runs w vr rs) (hl : l.length ≤ 140737488355328) (hlr : rs.length ≤ 140737488355328) (hf : FitB l) (h : laidOk l rs = false) :
    Calls Tryz.prog 37 #[v, vr] w fun e w' => e = .returned (.tuple #[.slice none 0 0, .int .i64 1]) ∧ Below w.heap.size w w' := by
  have HB := Lib.hid (count_bad v vr l rs w hp hr hl hlr hf h)
  clear hp hr h
  go_enter Tryz.func37, Tryz.ntmps37
  go_wp2_with fail
  refine HB.out.mono ?_
  rintro e w1 ⟨rfl, hb1⟩
  have HB1 := Lib.hid hb1
  clear hb1
  go_wp2
  go_ret2
  exact ⟨rfl, HB1.out⟩

set_option maxRecDepth 100000 in
set_option maxHeartbeats 4000000 in
theorem rods_good (v vr : Value) (l : List BarD) (rs : List RunD) (w : World) (hp : Bars w v l) (hr : Runs w vr rs) (hl : l.length ≤ 140737488355328) (hlr : rs.length ≤ 140737488355328) (hf : FitB l) (h : laidOk l rs = true) :
    Calls Tryz.prog 37 #[v, vr] w fun e w' => ∃ o, e = .returned (.tuple #[o, .int .i64 0]) ∧ Rods w' o (lgsOf l rs) (szsOf l rs) ∧ Below w.heap.size w w' := by
  have HCO := Lib.hid (count_good v vr l rs w hp hr hl hlr hf h)
  obtain ⟨s1, s2, s3, s4, s5⟩ := laid_sum h
  have hc0 : cumN rs ≤ 2000 := by omega
  have HMK := Lib.hid (fun (k : Nat) (hk : k < cumN rs) W (hW : Below w.heap.size w W) => mark_good v vr (k : Int) l rs W (hp.below hW) (hr.below hW) hl hlr hf h (by omega))
  have HLG := Lib.hid (fun (k : Nat) W (hW : Below w.heap.size w W) => legs_good v vr (k : Int) l rs W (hp.below hW) (hr.below hW) hl hlr hf h)
  have HFA := Lib.hid (fun (k : Nat) (hk : k < cumN rs) => laid_fact h hk)
  have HLL := Lib.hid (lgsOf_len l rs)
  have HZL := Lib.hid (szsOf_len l rs)
  have HP := Lib.hid hp
  obtain ⟨ao, cap, rfl⟩ := hp.at_
  clear hp hr hf h s1 s2 s3 s4 s5
  go_enter Tryz.func37, Tryz.ntmps37
  go_wp2_with fail
  refine HCO.out.mono ?_
  rintro e w1 ⟨rfl, hb1⟩
  have HB1 := Lib.hid hb1
  have hz1 := hb1.size
  clear hb1 HCO
  go_wp2_with fail
  generalize hn : cumN rs = n at *
  have HN := Lib.hid hn
  clear hn
  go_loopw [8, 24] (fun o i wr => ∃ (k : Nat) (R : List (Value × Int)), k ≤ n ∧ i = .int .i64 k ∧ RodsW w1 w1.heap.size o R (lgsOf l rs) (szsOf l rs) k wr) (fun _ i _ => n - (intOf i).toNat)
  case atStart => exact ⟨0, [], Nat.zero_le _, rfl, Below.refl _ _, rfl, OwnN.nil _ _ _ _ _, fun j r hr => by cases hr⟩
  case round =>
    obtain ⟨k, R, hk, rfl, hRW⟩ := hrel
    have HRW := Lib.hid hRW
    clear hRW
    by_cases hk2 : k < n
    · have HW0 := Lib.hid (bstep HB1.out HRW.out.below)
      have HM := Lib.hid (HMK.out k hk2 wr HW0.out)
      have HL := Lib.hid (fun W hW => HLG.out k W hW)
      obtain ⟨q, b, hF⟩ := HFA.out k hk2
      have HF := Lib.hid hF
      clear hF HMK HLG HFA
      go_wp2_with fail
      refine HM.out.mono ?_
      rintro e w2 (⟨m, _, hm, rfl, hb2⟩ | ⟨hi, _, _⟩)
      · obtain rfl : b.mark = m := Option.some.inj (HF.out.mark.symm.trans hm)
        have HRW2 := Lib.hid (HRW.out.after hb2)
        have HW2 := Lib.hid (bstep HW0.out hb2)
        clear hb2 hm HM HRW HW0
        have HRW3 := Lib.hid (HRW2.out.after (below_new w2 (.cells #[.string b.mark] 9)))
        have HW3 := Lib.hid (bstep HW2.out (below_new w2 (.cells #[.string b.mark] 9)))
        have HX3 := Lib.hid (BlkIs.new w2 #[.string b.mark] 9)
        clear HRW2 HW2
        go_wp2_with fail
        refine (HL.out _ HW3.out).mono ?_
        rintro e w4 (⟨q2, u, _, hq2, rfl, hu, hb4⟩ | ⟨hi, _, _⟩)
        · obtain rfl : q = q2 := Option.some.inj (HF.out.pts.symm.trans hq2)
          obtain ⟨uo, uc, rfl⟩ := OwnN.shape hu
          have HRW4 := Lib.hid (HRW3.out.after hb4)
          have HW4 := Lib.hid (bstep HW3.out hb4)
          have HX4 := Lib.hid (HX3.out.below hb4)
          have HU4 : Hid (OwnBxs w4 w1.heap.size (.slice uo (legsN q (q.length - 1)).length uc) (legsN q (q.length - 1))) := OwnN.mono hu (by have := HRW3.out.below.size; simpa using this)
          have HI := Lib.hid (indexBars_any 70 #[.pointer (some ⟨w2.heap.size, 0, none⟩)] (isMark b.mark) _ l w4 (HP.out.below HW4.out) hl ⟨fun xs W => by go_simp, fun x u W hW => rods1_any w2.heap.size b.mark x u W ((hW.cell (p := ⟨w2.heap.size, 0, none⟩) HX4.out.lt).trans (HX4.out.cell 0)) (by have := hW.size; have := HX4.out.lt; omega)⟩)
          clear hb4 hq2 hu HRW3 HW3 HX3 HL
          obtain ⟨t, ht, hb⟩ := HF.out.find
          have HT := Lib.hid (show idxZ l (isMark b.mark) = (t : Int) from ht)
          have HBT := Lib.hid hb
          clear ht hb
          go_wp2_with fail
          refine HI.out.mono ?_
          rintro e w5 ⟨rfl, hb5⟩
          rw [HT.out]
          have HRW5 := Lib.hid (HRW4.out.after hb5)
          have HW5 := Lib.hid (bstep HW4.out hb5)
          have HU5 := Lib.hid (OwnN.below HU4.out hb5)
          clear hb5 HRW4 HW4 HX4 HU4 HI HT
          obtain ⟨bb, off, rfl, hbl, x0, x1, x2, x3, xo, xc, x4, hdx⟩ := bars_get (HP.out.below HW5.out) HBT.out
          have t0 : (0 : Int) ≤ (t : Int) := by omega
          have t1 : (t : Int) < (l.length : Int) := by have := (List.getElem?_eq_some_iff.1 HBT.out).1; omega
          have HLA : Hid (legsN q (q.length - 1) = (lgsOf l rs).getD k []) := HF.out.lat.symm
          have HSA : Hid (b.size = (szsOf l rs).getD k 0) := HF.out.sat.symm
          rw [HLA.out] at HU5
          have hll : (legsN q (q.length - 1)).length = ((lgsOf l rs).getD k []).length := by rw [HLA.out]
          generalize b.size = bz at *
          have hbase : w1.heap.size ≤ w5.heap.size := HRW5.out.below.size
          have hl2 : R.length + 1 ≤ 1099511627776 := by have := HRW5.out.len; omega
          clear x0 x2 x3 x4 hdx hbl
          rw [hll]
          clear hll
          go_wp2_with (at_builtin; refine wpList_pushAt _ w5.heap.size (by simp) rfl _ _ 67 rfl 73 2 32 elemRod w1.heap.size rodCells _ _ (.slice uo ((lgsOf l rs).getD k []).length uc, bz) _ rfl rfl (by intro u hu; simp [rodCells] at hu; rcases hu with rfl | rfl <;> rfl) HRW5.out.own rfl rfl hl2 (by omega) hbase ?_; intro v' w' hown' hg' hat'; have HRW6 := Lib.hid (HRW5.out.push (Nat.le_refl _) hown' hg' HU5.out HSA.out); clear hown' hg' hat')
          go_roundw
          case rel => exact ⟨k + 1, _, by omega, by go_num, HRW6.out⟩
          case measure => simp [intOf]; omega
        · rw [HN.out] at hi; omega
      · rw [HN.out] at hi; omega
    · obtain rfl : k = n := by omega
      have HRO : Hid (Rods wr _ (lgsOf l rs) (szsOf l rs)) := RodsW.rods (by rw [HLL.out]; exact HRW.out) (by rw [HLL.out, HZL.out])
      have HBZ := Lib.hid (bstep HB1.out HRW.out.below)
      go_wp2
      go_ret2
      exact ⟨_, rfl, HRO.out, HBZ.out⟩
end

section
open Go.RowKit
set_option linter.unusedVariables false
set_option linter.unusedSimpArgs false
attribute [local go_sem ↓] Go.wp_at_zero Go.wp_at_succ

abbrev rodv (u : Value) (d : Int) : Value := .agg #[u, .int .i64 d]
abbrev pt0 : Pt := ⟨0, 0, 0⟩
set_option maxRecDepth 100000 in
set_option maxHeartbeats 8000000 in
theorem witness_any (ui uk : Value) (A B : List Bx) (d e x : Int) (w : World) (ha : Bxs w ui A) (hb : Bxs w uk B) (hA : A.all bxOk = true) (hB : B.all bxOk = true) (hla : A.length ≤ 1000000) (hlb : B.length ≤ 1000000)
    (hd : 0 ≤ d ∧ d ≤ 10000) (he : 0 ≤ e ∧ e ≤ 10000) (hx : axB x = true) :
    Calls Tryz.prog 71 #[rodv ui d, rodv uk e, .int .i64 x] w fun en w' => en = .returned (.tuple #[ptv ((witP A B x ((d + e) * (d + e))).getD pt0), .bool (witP A B x ((d + e) * (d + e))).isSome]) ∧ Below w.heap.size w w' := by
  obtain ⟨ao, ac, rfl⟩ := ha.at_
  obtain ⟨bo, bc, rfl⟩ := hb.at_
  obtain ⟨need, hneed⟩ : ∃ n, (d + e) * (d + e) = n := ⟨_, rfl⟩
  have hn0 : 0 ≤ need ∧ need ≤ 400000000 := by
    have h1 := sq_mono (show (0 : Int) ≤ 0 by omega) (show (0 : Int) ≤ d + e by omega)
    have h2 := sq_mono (show 0 ≤ d + e by omega) (show d + e ≤ 20000 by omega)
    omega
  rw [hneed]
  obtain ⟨d0, d1⟩ := hd
  obtain ⟨e0, e1⟩ := he
  obtain ⟨n0, n1⟩ := hn0
  have hb0 : Below w.heap.size w (((w.alloc (.cells #[.slice ao A.length ac, .int .i64 d] 73)).alloc (.cells #[.slice bo B.length bc, .int .i64 e] 73)).alloc (.cells #[.int .i64 0, .int .i64 0, .int .i64 0] 88)) := by go_grown
  have HX0 := Lib.hid (((BlkIs.new w #[.slice ao A.length ac, .int .i64 d] 73).alloc (.cells #[.slice bo B.length bc, .int .i64 e] 73)).alloc (.cells #[.int .i64 0, .int .i64 0, .int .i64 0] 88))
  have HX1 := Lib.hid ((BlkIs.new1 w (.cells #[.slice ao A.length ac, .int .i64 d] 73) #[.slice bo B.length bc, .int .i64 e] 73).alloc (.cells #[.int .i64 0, .int .i64 0, .int .i64 0] 88))
  have hx2 := BlkIs.new1 (w.alloc (.cells #[.slice ao A.length ac, .int .i64 d] 73)) (.cells #[.slice bo B.length bc, .int .i64 e] 73) #[.int .i64 0, .int .i64 0, .int .i64 0] 88
  simp only [World.size_alloc] at hx2
  have HX2 : Hid (BlkIs (((w.alloc (.cells #[.slice ao A.length ac, .int .i64 d] 73)).alloc (.cells #[.slice bo B.length bc, .int .i64 e] 73)).alloc (.cells #[.int .i64 0, .int .i64 0, .int .i64 0] 88)) (w.heap.size + 2) 88 #[.int .i64 0, .int .i64 0, .int .i64 0]) := hx2
  have HA := Lib.hid (ha.below hb0)
  have HBB := Lib.hid (hb.below hb0)
  have HB0 := Lib.hid hb0
  have HSW : Hid (Calls Tryz.prog 94 #[.slice ao A.length ac, .int .i64 x] (((w.alloc (.cells #[.slice ao A.length ac, .int .i64 d] 73)).alloc (.cells #[.slice bo B.length bc, .int .i64 e] 73)).alloc (.cells #[.int .i64 0, .int .i64 0, .int .i64 0] 88)) fun en w' => ∃ oo oc, en = .returned (.slice oo A.length oc) ∧ Hid (Bxs w' (.slice oo A.length oc) (A.map fun b => wayB b x)) ∧ Below (((w.alloc (.cells #[.slice ao A.length ac, .int .i64 d] 73)).alloc (.cells #[.slice bo B.length bc, .int .i64 e] 73)).alloc (.cells #[.int .i64 0, .int .i64 0, .int .i64 0] 88)).heap.size (((w.alloc (.cells #[.slice ao A.length ac, .int .i64 d] 73)).alloc (.cells #[.slice bo B.length bc, .int .i64 e] 73)).alloc (.cells #[.int .i64 0, .int .i64 0, .int .i64 0] 88)) w') := (sweep_any _ A x _ HA.out hla hx).mono fun en w' ⟨o, h1, h2, h3⟩ => by
    obtain ⟨oo, oc, rfl⟩ := OwnN.shape h2.out
    have h4 := OwnN.fl bx_len h2.out
    rw [List.length_map] at h1 h4
    exact ⟨oo, oc, h1, h4, h3⟩
  have HOA := Lib.hid (List.all_eq_true.1 hA)
  have HOB := Lib.hid (List.all_eq_true.1 hB)
  have HSQ := Lib.hid (fun (a b : Bx) W (h1 : bxOk a = true) (h2 : bxOk b = true) => square_any a b W h1 h2)
  have HNE := Lib.hid (fun (a b : Bx) W (h1 : bxOk a = true) (h2 : bxOk b = true) => nearest_any a b W h1 h2)
  have HND := Lib.hid hneed
  have c0 := HX0.out.cell 0
  have c1 := HX0.out.cell 1
  have c2 := HX1.out.cell 0
  have c3 := HX1.out.cell 1
  clear ha hb hA hB hb0 hx2 hx
  go_enter Tryz.func71, Tryz.ntmps71
  go_wp2_with fail
  go_step3
  go_wp2_with fail
  go_step3
  go_wp2_with fail
  refine HSW.out.mono ?_
  rintro en w1 ⟨oo, oc, rfl, HO, hb1⟩
  have HB1 := Lib.hid (bstep HB0.out hb1)
  have HX11 := Lib.hid (HX1.out.below hb1)
  have HX21 := Lib.hid (HX2.out.below hb1)
  have HBB1 := Lib.hid (HBB.out.below hb1)
  have HWO := Lib.hid (fun a (ha : bxOk a = true) => wayB_ok ha x)
  clear hb1 HSW c0 c1 c2 c3 HX0 HX1 HX2 HBB HA HB0 hneed d0 d1 e0 e1
  go_wp2_with fail
  go_loopw [34] (fun i wr => ∃ n : Nat, n ≤ A.length ∧ i = .int .i64 n ∧ Below w1.heap.size w1 wr ∧ Hid (NoHit A B x need n 0)) (fun i _ => A.length - (intOf i).toNat)
  case atStart => exact ⟨0, Nat.zero_le _, rfl, Below.refl _ _, fun i' k' a b hc _ _ => by omega⟩
  case round =>
    obtain ⟨n, hn, rfl, hBr, HNH⟩ := hrel
    have HBr := Lib.hid hBr
    clear hBr
    obtain ⟨wo, rfl⟩ : ∃ wo : World, wo = wr := ⟨_, rfl⟩
    by_cases hn2 : n < A.length
    · obtain ⟨a, ha⟩ : ∃ y, A[n]? = some y := ⟨_, List.getElem?_eq_getElem hn2⟩
      obtain ⟨b0, off0, rfl, hbl0, c0, c1, c2, c3, c4, c5⟩ := bxs_get (HO.out.below HBr.out) (show (A.map fun b => wayB b x)[n]? = some (wayB a x) by rw [List.getElem?_map, ha]; rfl)
      have g0 := (HX11.out.below HBr.out).cell 0
      have gz := (HX11.out.below HBr.out).lt
      have HAOK := Lib.hid (HWO.out a (HOA.out a (List.mem_of_getElem? ha)))
      have HAT := Lib.hid ha
      generalize hq : wayB a x = q at *
      have HQ := Lib.hid hq
      clear ha hbl0 hq
      go_wp2_with fail
      go_loopw [41] (fun i wr => ∃ k : Nat, k ≤ B.length ∧ i = .int .i64 k ∧ Below (wo.heap.size + 1) (wo.alloc (.cells (bxCellsA q) 134)) wr ∧ Hid (NoHit A B x need n k)) (fun i _ => B.length - (intOf i).toNat)
      case atStart => exact ⟨0, Nat.zero_le _, rfl, by have := Below.refl (wo.alloc (.cells (bxCellsA q) 134)).heap.size (wo.alloc (.cells (bxCellsA q) 134)); simpa using this, HNH⟩
      case round =>
        clear c0 c1 c2 c3 c4 c5 g0 HNH
        obtain ⟨k, hk, rfl, hBr2, HNH⟩ := hrel
        have HW2 : Hid (Below (wo.alloc (.cells (bxCellsA q) 134)).heap.size (wo.alloc (.cells (bxCellsA q) 134)) wr) := by unfold Hid; rw [World.size_alloc]; exact hBr2
        have HBW := Lib.hid (bstep HBr.out (bstep (below_new wo (.cells (bxCellsA q) 134)) HW2.out))
        have HXQ := Lib.hid ((BlkIs.new wo (bxCellsA q) 134).below HW2.out)
        clear hBr2
        by_cases hk2 : k < B.length
        · obtain ⟨b, hb⟩ : ∃ y, B[k]? = some y := ⟨_, List.getElem?_eq_getElem hk2⟩
          obtain ⟨b1, off1, rfl, hbl1, c0, c1, c2, c3, c4, c5⟩ := bxs_get (HBB1.out.below HBW.out) hb
          have HBOK := Lib.hid (HOB.out b (List.mem_of_getElem? hb))
          obtain ⟨s0, s1⟩ := sq_bound HAOK.out HBOK.out
          have HS := Lib.hid (fun W => HSQ.out q b W HAOK.out HBOK.out)
          have HNR := Lib.hid (fun W => HNE.out q b W HAOK.out HBOK.out)
          have HBT := Lib.hid hb
          have HTN : Hid (tooNear need (wayB a x) b = decide (4 * sqN q b 3 < need)) := by rw [HQ.out]; rfl
          generalize hs : sqN q b 3 = sq at *
          have d0 := HXQ.out.cell 0
          have d1 := HXQ.out.cell 1
          have d2 := HXQ.out.cell 2
          have d3 := HXQ.out.cell 3
          have d4 := HXQ.out.cell 4
          have d5 := HXQ.out.cell 5
          have dz := HXQ.out.lt
          clear hb hs hbl1
          go_wp2_with fail
          refine (HS.out _).mono ?_
          rintro en w5 ⟨rfl, hb5⟩
          have HBW5 := Lib.hid (bstep HBW.out (bstep (below_new wr (.cells (bxCellsA b) 134)) hb5))
          by_cases hlt : 4 * sq < need
          · have HXQ5 := Lib.hid ((HXQ.out.alloc (.cells (bxCellsA b) 134)).below hb5)
            have HXB5 := Lib.hid ((BlkIs.new wr (bxCellsA b) 134).below hb5)
            clear c0 c1 c2 c3 c4 c5 d0 d1 d2 d3 d4 d5 hb5 HS
            have c0 := HXB5.out.cell 0
            have c1 := HXB5.out.cell 1
            have c2 := HXB5.out.cell 2
            have c3 := HXB5.out.cell 3
            have c4 := HXB5.out.cell 4
            have c5 := HXB5.out.cell 5
            have d0 := HXQ5.out.cell 0
            have d1 := HXQ5.out.cell 1
            have d2 := HXQ5.out.cell 2
            have d3 := HXQ5.out.cell 3
            have d4 := HXQ5.out.cell 4
            have d5 := HXQ5.out.cell 5
            have dt : decide (4 * sq < need) = true := dec_yes hlt
            have HHIT := Lib.hid (wit_first HNH.out HAT.out HBT.out (HTN.out.trans dt))
            go_wp2_with fail
            refine (HNR.out _).mono ?_
            rintro en w6 ⟨rfl, hb6⟩
            rw [HQ.out] at HHIT
            have HX26 := Lib.hid ((HX21.out.below HBW5.out).below hb6)
            have HBW6 := Lib.hid (bstep HBW5.out hb6)
            clear hb6 c0 c1 c2 c3 c4 c5 d0 d1 d2 d3 d4 d5
            have e0 := HX26.out.cell 0
            have e1 := HX26.out.cell 1
            have e2 := HX26.out.cell 2
            have ef := HX26.out.free
            have ez := HX26.out.lt
            have p0 : w6.cell? ⟨w.heap.size + 1 + 1, 0, none⟩ = some (.int .i64 0) := HX26.out.cell 0
            have p1 : w6.cell? ⟨w.heap.size + 1 + 1, 1, none⟩ = some (.int .i64 0) := HX26.out.cell 1
            have p2 : w6.cell? ⟨w.heap.size + 1 + 1, 2, none⟩ = some (.int .i64 0) := HX26.out.cell 2
            have pf : ∀ i, w6.frozen? ⟨w.heap.size + 1 + 1, i, none⟩ = false := HX26.out.free
            have pz : w.heap.size + 1 + 1 < w6.heap.size := HX26.out.lt
            generalize nearP q b = P at *
            generalize nearQ q b = Q at *
            have hx8 := (HX26.out.alloc (.cells #[.int .i64 P.x, .int .i64 P.y, .int .i64 P.z] 88)).alloc (.cells #[.int .i64 Q.x, .int .i64 Q.y, .int .i64 Q.z] 88)
            have qf : ∀ i, ((w6.alloc (.cells #[.int .i64 P.x, .int .i64 P.y, .int .i64 P.z] 88)).alloc (.cells #[.int .i64 Q.x, .int .i64 Q.y, .int .i64 Q.z] 88)).frozen? ⟨w.heap.size + 1 + 1, i, none⟩ = false := hx8.free
            have q0 : ((w6.alloc (.cells #[.int .i64 P.x, .int .i64 P.y, .int .i64 P.z] 88)).alloc (.cells #[.int .i64 Q.x, .int .i64 Q.y, .int .i64 Q.z] 88)).cell? ⟨w.heap.size + 1 + 1, 0, none⟩ = some (.int .i64 0) := hx8.cell 0
            have q1 : ((w6.alloc (.cells #[.int .i64 P.x, .int .i64 P.y, .int .i64 P.z] 88)).alloc (.cells #[.int .i64 Q.x, .int .i64 Q.y, .int .i64 Q.z] 88)).cell? ⟨w.heap.size + 1 + 1, 1, none⟩ = some (.int .i64 0) := hx8.cell 1
            have q2 : ((w6.alloc (.cells #[.int .i64 P.x, .int .i64 P.y, .int .i64 P.z] 88)).alloc (.cells #[.int .i64 Q.x, .int .i64 Q.y, .int .i64 Q.z] 88)).cell? ⟨w.heap.size + 1 + 1, 2, none⟩ = some (.int .i64 0) := hx8.cell 2
            clear hx8
            go_wp2
            (try rw [Exit.noGoto_ret])
            refine bodyPost_ret (v := .tuple #[ptv Q, .bool true]) (by simp [results, Tryz.results71, go_sem, e0, e1, e2, ef, ez, p0, p1, p2, pf, pz, q0, q1, q2, qf]) rfl ⟨by rw [HHIT.out]; rfl, ?_⟩
            have hbz := bstep HB1.out HBW6.out
            exact ((((hbz.alloc hbz.size _).alloc (by have := hbz.size; simp; omega) _).setCell (show w.heap.size ≤ w.heap.size + 2 from by omega) _).setCell (show w.heap.size ≤ w.heap.size + 2 from by omega) _).setCell (show w.heap.size ≤ w.heap.size + 2 from by omega) _
          · have df : decide (4 * sq < need) = false := dec_no hlt
            have HNX := Lib.hid (noHit_step HNH.out HAT.out HBT.out (HTN.out.trans df))
            have hBX : Below (wo.heap.size + 1) (wo.alloc (.cells (bxCellsA q) 134)) w5 := by
              have := bstep HW2.out (bstep (below_new wr (.cells (bxCellsA b) 134)) hb5)
              rwa [World.size_alloc] at this
            have HBX := Lib.hid hBX
            clear c0 c1 c2 c3 c4 c5 d0 d1 d2 d3 d4 d5 hb5 HS hBX
            go_wp2
            go_roundw
            case rel => exact ⟨k + 1, by omega, by go_num, HBX.out, HNX.out⟩
            case measure => simp [intOf]; omega
        · obtain rfl : k = B.length := by omega
          have HNX := Lib.hid (noHit_row HNH.out)
          go_wp2
          go_roundw
          case rel => exact ⟨n + 1, by omega, by go_num, HBW.out, HNX.out⟩
          case measure => simp [intOf]; omega
    · obtain rfl : n = A.length := by omega
      have HNO := Lib.hid (wit_none HNH.out)
      have HX26 := Lib.hid (HX21.out.below HBr.out)
      have e0 := HX26.out.cell 0
      have e1 := HX26.out.cell 1
      have e2 := HX26.out.cell 2
      have ef := HX26.out.free
      have ez := HX26.out.lt
      have p0 : wo.cell? ⟨w.heap.size + 1 + 1, 0, none⟩ = some (.int .i64 0) := HX26.out.cell 0
      have p1 : wo.cell? ⟨w.heap.size + 1 + 1, 1, none⟩ = some (.int .i64 0) := HX26.out.cell 1
      have p2 : wo.cell? ⟨w.heap.size + 1 + 1, 2, none⟩ = some (.int .i64 0) := HX26.out.cell 2
      have pf : ∀ i, wo.frozen? ⟨w.heap.size + 1 + 1, i, none⟩ = false := HX26.out.free
      have pz : w.heap.size + 1 + 1 < wo.heap.size := HX26.out.lt
      go_wp2
      (try rw [Exit.noGoto_ret])
      refine bodyPost_ret (v := .tuple #[ptv pt0, .bool false]) (by simp [results, Tryz.results71, go_sem, e0, e1, e2, ef, ez, p0, p1, p2, pf, pz]) rfl ⟨by rw [HNO.out]; rfl, ?_⟩
      have hbz := bstep HB1.out HBr.out
      exact ((hbz.setCell (show w.heap.size ≤ w.heap.size + 2 from by omega) _).setCell (show w.heap.size ≤ w.heap.size + 2 from by omega) _).setCell (show w.heap.size ≤ w.heap.size + 2 from by omega) _
end

section
open Go.RowKit
set_option linter.unusedVariables false
set_option linter.unusedSimpArgs false
attribute [local go_sem ↓] Go.wp_at_zero Go.wp_at_succ

theorem blocks_any (ui uk : Value) (A B : List Bx) (d e x : Int) (w : World) (ha : Bxs w ui A) (hb : Bxs w uk B) (hA : A.all bxOk = true) (hB : B.all bxOk = true) (hla : A.length ≤ 1000000) (hlb : B.length ≤ 1000000)
    (hd : 0 ≤ d ∧ d ≤ 10000) (he : 0 ≤ e ∧ e ≤ 10000) (hx : axB x = true) :
    Calls Tryz.prog 38 #[rodv ui d, rodv uk e, .int .i64 x] w fun en w' => en = .returned (.bool (blkP A B x ((d + e) * (d + e)))) ∧ Below w.heap.size w w' := by
  have hb0 : Below w.heap.size w ((w.alloc (.cells #[ui, .int .i64 d] 73)).alloc (.cells #[uk, .int .i64 e] 73)) := by go_grown
  have H := Lib.hid (witness_any ui uk A B d e x _ (ha.below hb0) (hb.below hb0) hA hB hla hlb hd he hx)
  rw [wit_blk] at H
  have HB0 := Lib.hid hb0
  generalize blkP A B x ((d + e) * (d + e)) = q at *
  generalize (witP A B x ((d + e) * (d + e))).getD pt0 = p at *
  obtain ⟨ao, ac, rfl⟩ := ha.at_
  obtain ⟨bo, bc, rfl⟩ := hb.at_
  clear ha hb hA hB hb0 hx hd he
  go_enter Tryz.func38, Tryz.ntmps38
  go_wp2_with fail
  refine H.out.mono ?_
  rintro en w1 ⟨rfl, hb1⟩
  have HB1 := Lib.hid (bstep HB0.out hb1)
  clear hb1
  go_wp2
  go_ret
  exact ⟨rfl, by have := HB1.out; exact this.alloc this.size _⟩

def pairE (n i k x : Int) : Int := if i < 0 ∨ n ≤ i ∨ k < 0 ∨ n ≤ k then 2 else if axB x = false then 11 else if i = k then 10 else 0
theorem pairE_range {n i k x : Int} (h : i < 0 ∨ n ≤ i ∨ k < 0 ∨ n ≤ k) : pairE n i k x = 2 := if_pos h
theorem pairE_kind {n i k x : Int} (h : ¬ (i < 0 ∨ n ≤ i ∨ k < 0 ∨ n ≤ k)) (hx : axB x = false) : pairE n i k x = 11 := (if_neg h).trans (if_pos hx)
theorem pairE_twice {n i k x : Int} (h : ¬ (i < 0 ∨ n ≤ i ∨ k < 0 ∨ n ≤ k)) (hx : axB x = true) (hik : i = k) : pairE n i k x = 10 := (if_neg h).trans ((if_neg (by simp [hx])).trans (if_pos hik))
theorem pairE_ok {n i k x : Int} (h : ¬ (i < 0 ∨ n ≤ i ∨ k < 0 ∨ n ≤ k)) (hx : axB x = true) (hik : i ≠ k) : pairE n i k x = 0 := (if_neg h).trans ((if_neg (by simp [hx])).trans (if_neg hik))
theorem pairE_zero {n i k x : Int} (h : pairE n i k x = 0) : (0 ≤ i ∧ i < n) ∧ (0 ≤ k ∧ k < n) ∧ axB x = true ∧ i ≠ k := by
  by_cases h1 : i < 0 ∨ n ≤ i ∨ k < 0 ∨ n ≤ k
  · rw [pairE_range h1] at h; omega
  · cases hx : axB x
    · rw [pairE_kind h1 hx] at h; omega
    · by_cases h2 : i = k
      · rw [pairE_twice h1 hx h2] at h; omega
      · exact ⟨by omega, by omega, rfl, h2⟩
def PairPost (w : World) (L : List (List Bx)) (Z : List Int) (c : Int) (e : Ending) (w' : World) : Prop := ∃ o, e = .returned (.tuple #[o, .int .i64 c]) ∧ (c = 0 → Rods w' o L Z) ∧ Below w.heap.size w w'
end

section
open Go.RowKit
set_option linter.unusedVariables false
set_option linter.unusedSimpArgs false
attribute [local go_sem ↓] Go.wp_at_zero Go.wp_at_succ

/-- The laid bars are boxes and sizes that the walks can count with. -/
structure LzOk (L : List (List Bx)) (Z : List Int) : Prop where
  len : Z.length = L.length
  small : L.length ≤ 2000
  legs : ∀ k, k < L.length → 0 < (L.getD k []).length ∧ (L.getD k []).length ≤ 6 ∧ (L.getD k []).all bxOk = true
  size : ∀ k, k < L.length → 0 ≤ Z.getD k 0 ∧ Z.getD k 0 ≤ 10000
theorem barOk_size {b : BarD} (h : barOk b = true) : 0 ≤ b.size ∧ b.size ≤ 10000 := by
  unfold barOk headB at h
  simp only [Bool.and_eq_true, decide_eq_true_eq] at h
  have h1 := h.1.1.1.1.1.2
  unfold szB at h1
  rw [decide_eq_true_eq] at h1
  simp only [szs, List.mem_cons, List.not_mem_nil, or_false] at h1
  omega
theorem lzOk_of {l : List BarD} {rs : List RunD} (h : laidOk l rs = true) : LzOk (lgsOf l rs) (szsOf l rs) := by
  obtain ⟨s1, s2, s3, s4, s5⟩ := laid_sum h
  refine ⟨by rw [szsOf_len, lgsOf_len], by rw [lgsOf_len]; omega, fun k hk => ?_, fun k hk => ?_⟩
  · rw [lgsOf_len] at hk
    obtain ⟨q, b, hF⟩ := laid_fact h hk
    have := hF.lat
    unfold legsAt at this
    rw [this]
    exact ⟨hF.len.1, hF.len.2, hF.all⟩
  · rw [lgsOf_len] at hk
    obtain ⟨q, b, hF⟩ := laid_fact h hk
    have := hF.sat
    unfold sizeAt at this
    rw [this]
    exact barOk_size hF.ok

/-- Two rods by their places. -/
theorem rods_two {w : World} {v : Value} {L : List (List Bx)} {Z : List Int} (h : Rods w v L Z) {i k : Nat} (hi : i < L.length) (hk : k < L.length) :
    ∃ b off cap u u', v = .slice (some ⟨b, off, none⟩) L.length cap ∧ b < w.heap.size ∧ w.cell? ⟨b, off + i * 2, none⟩ = some u ∧ w.cell? ⟨b, off + i * 2 + 1, none⟩ = some (.int .i64 (Z.getD i 0)) ∧ Bxs w u (L.getD i []) ∧
      w.cell? ⟨b, off + k * 2, none⟩ = some u' ∧ w.cell? ⟨b, off + k * 2 + 1, none⟩ = some (.int .i64 (Z.getD k 0)) ∧ Bxs w u' (L.getD k []) := by
  obtain ⟨ao, cap, rfl⟩ := h.at_
  obtain ⟨b, off, u, rfl, hb, c0, c1, hu⟩ := rods_get h hi
  obtain ⟨b', off', u', e, hb', d0, d1, hu'⟩ := rods_get h hk
  cases e
  exact ⟨b, off, cap, u, u', rfl, hb, c0, c1, hu, d0, d1, hu'⟩

def blkR (L : List (List Bx)) (Z : List Int) (i k x : Int) : Bool := decide (pairE L.length i k x = 0) && blkAt L Z x i.toNat k.toNat
end

section
open Go.RowKit
set_option linter.unusedVariables false
set_option linter.unusedSimpArgs false
attribute [local go_sem ↓] Go.wp_at_zero Go.wp_at_succ

def witAt (L : List (List Bx)) (Z : List Int) (x : Int) (i k : Nat) : Option Pt := witP (L.getD i []) (L.getD k []) x ((Z.getD i 0 + Z.getD k 0) * (Z.getD i 0 + Z.getD k 0))
structure WiW (w : World) (wr : World) : Prop where
  below : Below w.heap.size w wr
  res : BlkIs wr w.heap.size 88 #[.int .i64 0, .int .i64 0, .int .i64 0]
theorem WiW.after {w wr w' : World} (h : WiW w wr) (hb : Below wr.heap.size wr w') : WiW w w' := ⟨bstep h.below hb, h.res.below hb⟩
structure TwoW (w : World) (b a1 a2 : Nat) (u u' : Value) (zi zk : Int) (A B : List Bx) (W : World) : Prop where
  base : WiW w W
  c0 : W.cell? ⟨b, a1, none⟩ = some u
  c1 : W.cell? ⟨b, a1 + 1, none⟩ = some (.int .i64 zi)
  d0 : W.cell? ⟨b, a2, none⟩ = some u'
  d1 : W.cell? ⟨b, a2 + 1, none⟩ = some (.int .i64 zk)
  hu : Bxs W u A
  hu' : Bxs W u' B
  lt : b < W.heap.size
abbrev TwoS (b a1 a2 : Nat) (u u' : Value) (zi zk : Int) (W : World) : Prop :=
  W.cell? ⟨b, a1, none⟩ = some u ∧ W.cell? ⟨b, a1 + 1, none⟩ = some (.int .i64 zi) ∧ W.cell? ⟨b, a2, none⟩ = some u' ∧ W.cell? ⟨b, a2 + 1, none⟩ = some (.int .i64 zk)
section
variable {w W W' : World} {b a1 a2 : Nat} {u u' : Value} {zi zk : Int} {A B : List Bx}
theorem TwoW.after (h : TwoW w b a1 a2 u u' zi zk A B W) (hb : Below W.heap.size W W') : TwoW w b a1 a2 u u' zi zk A B W' :=
  ⟨h.base.after hb, (hb.cell (p := ⟨b, _, none⟩) h.lt).trans h.c0, (hb.cell (p := ⟨b, _, none⟩) h.lt).trans h.c1, (hb.cell (p := ⟨b, _, none⟩) h.lt).trans h.d0, (hb.cell (p := ⟨b, _, none⟩) h.lt).trans h.d1, h.hu.below hb, h.hu'.below hb, Nat.lt_of_lt_of_le h.lt hb.size⟩
theorem TwoW.drew (h : TwoW w b a1 a2 u u' zi zk A B W) : TwoW w b a1 a2 u u' zi zk A B W.drew := h.after (Below.refl _ _).drew
theorem TwoW.alloc (h : TwoW w b a1 a2 u u' zi zk A B W) (o : Obj) : TwoW w b a1 a2 u u' zi zk A B (W.alloc o) := h.after (below_new W o)
theorem TwoW.s (h : TwoW w b a1 a2 u u' zi zk A B W) : TwoS b a1 a2 u u' zi zk W := ⟨h.c0, h.c1, h.d0, h.d1⟩
end
end
end
end Go.Proofs.YtamogedpgkofjaaGreat
