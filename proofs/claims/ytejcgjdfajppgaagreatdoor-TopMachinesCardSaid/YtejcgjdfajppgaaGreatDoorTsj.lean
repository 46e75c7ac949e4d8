/-
  The site: move, Missing, Ready, Account, pour.
-/
import Derived.Test.YtejcgjdfajppgaaGreatDoorTsi
namespace Go.Proofs.YtejcgjdfajppgaaGreatDoor
section
open Go.RowKit
set_option linter.unusedVariables false
set_option linter.unusedSimpArgs false
attribute [local go_sem ↓] Go.wp_at_zero Go.wp_at_succ

theorem Own.row {α : Type} {w : World} {b : Nat} {e : TypeId} {f : α → Value} {l : List α} {G n c : Nat} (h : Own w b e f (.slice (some ⟨G, 0, none⟩) n c) l) : ∃ cur, w.heap[G]? = some (.cells cur e (0, 0)) := by
  rcases h.2 with ⟨h', _⟩ | ⟨g', cap', cur, h', _, hg, _⟩
  · cases h'
  · cases h'; exact ⟨_, hg⟩
theorem SiteW.setWh {w : World} {base S k G n c : Nat} {d : SiteD} {tv ev : Value} {mo : Option Nat} (h : SiteW w base S d tv (.slice (some ⟨G, 0, none⟩) n c) ev mo k) (i : Nat) (y : Int) :
    SiteW (w.setCell ⟨G, i, none⟩ (.int .i64 y)) base S { d with wh := d.wh.set i y } tv (.slice (some ⟨G, 0, none⟩) n c) ev mo k := by
  obtain ⟨cur, hr⟩ := Own.row h.wh
  have hset := only_set w G i (.int .i64 y)
  refine ⟨(hset.block S h.blk.lt (fun e => h.wh.apart_blk h.blk (by decide) G rfl (by cases e; rfl))).trans h.blk, h.hS, h.tags.only hset (fun g hg e => h.tags.apart_blk hr (by decide) g hg (by cases e; rfl)), h.wh.set i y, h.es.only hset (fun g hg e => h.es.apart_blk hr (by decide) g hg (by cases e; rfl)), ?_⟩
  rcases h.map with e | ⟨B, e, hB, hm⟩
  · exact .inl e
  · exact .inr ⟨B, e, hB, hm.only hset (fun e => hm.isMap hr (by cases e; rfl))⟩
def moveD (d : SiteD) (i : Nat) (f g : Int) : SiteD := if d.wh[i]? = some f then { d with wh := d.wh.set i g } else d
def moveE (d : SiteD) (i : Nat) (f : Int) : Int := if d.wh[i]? = some f then 0 else 13
set_option maxHeartbeats 1000000 in
set_option maxRecDepth 100000 in
theorem smove_any (base S i : Nat) (d : SiteD) (ev : Value) (t : ByteArray) (f g : Int) (w : World) (h : SiteV w base S d ev) (hok : SiteOk d) (hi : d.tags[i]? = some t) (hbw : base ≤ w.heap.size) :
    Calls Tryz.prog 63 #[.pointer (some ⟨S, 0, none⟩), .string t, .int .i64 f, .int .i64 g] w fun e w' => e = .returned (.int .i64 (moveE d i f)) ∧ SiteV w' base S (moveD d i f g) ev ∧ Below base w w' ∧ KeepE w w' := by
  have HF := Lib.hid (sfind_any base S i d ev t w h hok hi hbw)
  have hil := (List.getElem?_eq_some_iff.1 hi).1
  have hwl := hok.len
  obtain ⟨x, hx⟩ : ∃ x, d.wh[i]? = some x := ⟨_, List.getElem?_eq_getElem (by omega)⟩
  have HX := Lib.hid hx
  have hiw : i < d.wh.length := by omega
  have hfew := hok.few
  clear h hok hi
  go_enter Tryz.func63, Tryz.ntmps63
  go_wp2_with fail
  refine HF.out.mono ?_
  rintro e w1 ⟨rfl, ⟨tv, wv, mo, hW⟩, hb1, hk1⟩
  have HK1 := Lib.hid hk1
  clear hk1
  obtain ⟨G, c, hwv, hGl, hGb, _⟩ := Own.form hW.wh (by omega)
  subst hwv
  have c1 := hW.blk.cell 1
  have l1 := hW.blk.lt
  have c2 := hW.wh.cell hx
  have f2 := hW.wh.free i
  unfold intv at c2
  have HW := Lib.hid hW
  have HB1 := Lib.hid hb1
  have z0 : (0 : Int) ≤ (i : Int) := Int.natCast_nonneg _
  have z1 : (i : Int) < (d.wh.length : Int) := by omega
  clear hW hb1 hx hwl hil
  by_cases hxf : x = f
  · have HE := Lib.hid (show moveE d i f = 0 by unfold moveE; rw [HX.out, if_pos (by rw [hxf])])
    have HD := Lib.hid (show moveD d i f g = { d with wh := d.wh.set i g } by unfold moveD; rw [HX.out, if_pos (by rw [hxf])])
    have HS := Lib.hid (HW.out.setWh i g)
    have HK2 : Hid (KeepE w (w1.setCell ⟨G, i, none⟩ (.int .i64 g))) := Lib.hid (by
      obtain ⟨cur, hr⟩ := Own.row HW.out.wh
      exact HK1.out.trans (KeepE.set hr (by decide) _ _))
    have HB2 := Lib.hid (HB1.out.setCell (p := ⟨G, i, none⟩) hGb (.int .i64 g))
    go_wp2
    go_ret
    exact ⟨ret_int HE.out.symm, by rw [HD.out]; exact ⟨_, _, _, HS.out⟩, HB2.out, HK2.out⟩
  · have HE := Lib.hid (show moveE d i f = 13 by unfold moveE; rw [HX.out, if_neg (by simpa using hxf)])
    have HD := Lib.hid (show moveD d i f g = d by unfold moveD; rw [HX.out, if_neg (by simpa using hxf)])
    go_wp2
    go_ret
    exact ⟨ret_int HE.out.symm, by rw [HD.out]; exact ⟨_, _, _, HW.out⟩, HB1.out, HK1.out⟩
/-- The tags of the first bundles that are not placed. -/
def missL (d : SiteD) : Nat → List ByteArray
  | 0 => []
  | k + 1 => if d.wh[k]? = some 2 then missL d k else missL d k ++ (match d.tags[k]? with | some t => [t] | none => [])
theorem missL_len (d : SiteD) : ∀ k, (missL d k).length ≤ k := by
  intro k
  induction k with
  | zero => simp [missL]
  | succ k ih =>
    unfold missL
    split
    · omega
    · rw [List.length_append]
      split <;> simp <;> omega
theorem missL_yes {d : SiteD} {k : Nat} (h : d.wh[k]? = some 2) : missL d (k + 1) = missL d k := by
  show (if d.wh[k]? = some 2 then _ else _) = _
  rw [if_pos h]
theorem missL_no {d : SiteD} {k : Nat} {t : ByteArray} (h : d.wh[k]? ≠ some 2) (ht : d.tags[k]? = some t) : missL d (k + 1) = missL d k ++ [t] := by
  show (if d.wh[k]? = some 2 then _ else missL d k ++ (match d.tags[k]? with | some t => [t] | none => [])) = _
  rw [if_neg h, ht]
def readyB (d : SiteD) : Bool := decide ((missL d d.tags.length).length = 0)
set_option maxHeartbeats 1000000 in
set_option maxRecDepth 100000 in
theorem smissing_any (base S : Nat) (d : SiteD) (w : World) (h : SiteAt w base S d) (hok : SiteOk d) :
    Calls Tryz.prog 102 #[.pointer (some ⟨S, 0, none⟩)] w fun e w' => (∃ o, e = .returned o ∧ Own w' w.heap.size 9 strv o (missL d d.tags.length)) ∧ Below w.heap.size w w' := by
  obtain ⟨tv, wv, ev, mo, hW⟩ := h
  obtain ⟨ta, tc, rfl⟩ := hW.tags.shape
  obtain ⟨wa, wc, rfl⟩ := hW.wh.shape
  have c0 := hW.blk.cell 0
  have l0 := hW.blk.lt
  have HW := Lib.hid hW
  have HOK := Lib.hid hok
  clear hW hok
  go_enter Tryz.func102, Tryz.ntmps102
  go_wp2_with fail
  clear c0
  go_loopw [3, 13] (fun o i wr => ∃ k : Nat, k ≤ d.tags.length ∧ i = .int .i64 (k : Int) ∧ Below w.heap.size w wr ∧ Own wr w.heap.size 9 strv o (missL d k)) (fun _ i _ => d.tags.length - (intOf i).toNat)
  case atStart => exact ⟨0, Nat.zero_le _, rfl, Below.refl _ _, Own.nil _ _ _ _⟩
  case round =>
    obtain ⟨k, hk, rfl, hB, hO⟩ := hrel
    have HB := Lib.hid hB
    have HO := Lib.hid hO
    by_cases hk2 : k < d.tags.length
    · have HWr := HW.out.below hB
      obtain ⟨t, ht⟩ : ∃ x, d.tags[k]? = some x := ⟨_, List.getElem?_eq_getElem hk2⟩
      obtain ⟨x, hx⟩ : ∃ x, d.wh[k]? = some x := ⟨_, List.getElem?_eq_getElem (by rw [HOK.out.len]; exact hk2)⟩
      obtain ⟨G, _, hgo, hgl, _, _⟩ := Own.form HWr.tags (by omega)
      cases hgo
      obtain ⟨G2, _, hgo, hgl2, _, _⟩ := Own.form HWr.wh (by rw [HOK.out.len]; omega)
      cases hgo
      have c0 := HWr.tags.cell ht
      have c1 := HWr.blk.cell 1
      have c2 := HWr.wh.cell hx
      have l1 := HWr.blk.lt
      unfold strv at c0
      unfold intv at c2
      have hwl : k < d.wh.length := by rw [HOK.out.len]; exact hk2
      have z0 : (0 : Int) ≤ (k : Int) := Int.natCast_nonneg _
      have z1 : (k : Int) < (d.wh.length : Int) := by omega
      have hml := missL_len d k
      have hfew := HOK.out.few
      have hb0 := hB.size
      clear hB hO HWr
      by_cases h2 : x = 2
      · have HS := Lib.hid (missL_yes (d := d) (k := k) (by rw [hx, h2]))
        clear hx ht
        go_wp2
        go_roundw
        case rel => exact ⟨k + 1, by omega, by go_num, HB.out, by rw [HS.out]; exact HO.out⟩
        case measure => simp [intOf]; omega
      · have HS := Lib.hid (missL_no (d := d) (k := k) (t := t) (by rw [hx]; simpa using h2) ht)
        clear hx ht
        have hln : (missL d k).length + 1 ≤ 1099511627776 := by omega
        go_wp2_with (at_builtin; refine wpList_pushO wr wr.heap.size rfl rfl _ _ 79 rfl 9 16 elemStr w.heap.size strv _ _ t rfl HO.out rfl rfl hln (by omega) hb0 ?_; intro v' w' hown' hg' hat'; have HW9 := Lib.hid hown'; have HB9 := Lib.hid (HB.out.grown hg' hb0 (fun j hj => (HO.out.lt j hj).1)); clear hown' hg' hat')
        go_roundw
        case rel => exact ⟨k + 1, by omega, by go_num, HB9.out, by rw [HS.out]; exact HW9.out⟩
        case measure => simp [intOf]; omega
    · obtain rfl : k = d.tags.length := by omega
      clear hB hO
      go_wp2
      go_ret
      exact ⟨⟨_, rfl, HO.out⟩, HB.out⟩
set_option maxHeartbeats 1000000 in
set_option maxRecDepth 100000 in
theorem sready_site (base S : Nat) (d : SiteD) (w : World) (h : SiteAt w base S d) (hok : SiteOk d) :
    Calls Tryz.prog 88 #[.pointer (some ⟨S, 0, none⟩)] w fun e w' => e = .returned (.bool (readyB d)) ∧ Below w.heap.size w w' := by
  have HM := Lib.hid (smissing_any base S d w h hok)
  obtain ⟨tv, wv, ev, mo, hW⟩ := h
  have HW := Lib.hid hW
  have hl := missL_len d d.tags.length
  have hfew := hok.few
  clear hW hok
  have HR := Lib.hid (show readyB d = decide ((missL d d.tags.length).length = 0) from rfl)
  go_enter Tryz.func88, Tryz.ntmps88
  go_wp2_with fail
  refine HM.out.mono ?_
  rintro e w1 ⟨⟨o, rfl, ho⟩, hb⟩
  obtain ⟨oa, oc, rfl⟩ := ho.shape
  have c3 := (HW.out.below hb).blk.cell 3
  have l3 := (HW.out.below hb).blk.lt
  have HB := Lib.hid hb
  clear ho hb HM
  generalize (missL d d.tags.length).length = q at *
  by_cases hq : q = 0
  · subst hq
    go_wp2
    go_ret
    exact ⟨ret_bool HR.out.symm, HB.out⟩
  · have hqd : decide (q = 0) = false := by simpa using hq
    have hq2 : ¬ (q : Int) = 0 := by omega
    go_wp2
    go_ret
    exact ⟨ret_bool (by rw [HR.out, hqd]), HB.out⟩
theorem SiteW.setPoured {w : World} {base S k : Nat} {d : SiteD} {tv wv ev : Value} {mo : Option Nat} (h : SiteW w base S d tv wv ev mo k) :
    SiteW (w.setCell ⟨S, 5, none⟩ (.bool true)) base S { d with poured := true } tv wv ev mo k := by
  have hset := only_set w S 5 (.bool true)
  refine ⟨h.blk.set 5 _, h.hS, h.tags.only hset (fun g hg e => h.tags.apart_blk h.blk (by decide) g hg (by cases e; rfl)), h.wh.only hset (fun g hg e => h.wh.apart_blk h.blk (by decide) g hg (by cases e; rfl)), h.es.only hset (fun g hg e => h.es.apart_blk h.blk (by decide) g hg (by cases e; rfl)), ?_⟩
  rcases h.map with e | ⟨B, e, hB, hm⟩
  · exact .inl e
  · exact .inr ⟨B, e, hB, hm.only hset (fun e => hm.isMap h.blk (by cases e; rfl))⟩
def pourD (d : SiteD) : SiteD := if readyB d then { d with poured := true } else d
def pourE (d : SiteD) : Int := if readyB d then 0 else 24
set_option maxHeartbeats 1000000 in
set_option maxRecDepth 100000 in
theorem spour_any (base S : Nat) (d : SiteD) (ev : Value) (w : World) (h : SiteV w base S d ev) (hok : SiteOk d) (hbw : base ≤ w.heap.size) :
    Calls Tryz.prog 66 #[.pointer (some ⟨S, 0, none⟩), .string d.member] w fun e w' => e = .returned (.int .i64 (pourE d)) ∧ SiteV w' base S (pourD d) ev ∧ Below base w w' ∧ KeepE w w' := by
  have HR := Lib.hid (sready_site base S d w h.at_ hok)
  obtain ⟨tv, wv, mo, hW⟩ := h
  have HW := Lib.hid hW
  have c2 := hW.blk.cell 2
  have l2 := hW.blk.lt
  have HE := Lib.hid (show pourE d = if readyB d then 0 else 24 from rfl)
  have HD := Lib.hid (show pourD d = if readyB d then { d with poured := true } else d from rfl)
  clear hW
  go_enter Tryz.func66, Tryz.ntmps66
  go_wp2_with fail
  refine HR.out.mono ?_
  rintro e w1 ⟨rfl, hb⟩
  have HW1 := Lib.hid (HW.out.below hb)
  have HB1 := Lib.hid (hb.mono hbw)
  have HK1 := Lib.hid (KeepE.below hb)
  have l5 := HW1.out.blk.lt
  have f5 := HW1.out.blk.free 5
  have c5 := HW1.out.blk.cell 5
  clear hb HR c2
  generalize readyB d = q at *
  cases q
  · have HE2 := Lib.hid (by simpa using HE.out : pourE d = 24)
    have HD2 := Lib.hid (by simpa using HD.out : pourD d = d)
    clear c5
    go_wp2
    go_ret
    exact ⟨ret_int HE2.out.symm, by rw [HD2.out]; exact ⟨_, _, _, HW1.out⟩, HB1.out, HK1.out⟩
  · have HS := Lib.hid HW1.out.setPoured
    have HK2 := Lib.hid (HK1.out.trans (KeepE.set HW1.out.blk (by decide) 5 (.bool true)))
    have HE2 := Lib.hid (by simpa using HE.out : pourE d = 0)
    have HD2 := Lib.hid (by simpa using HD.out : pourD d = { d with poured := true })
    have HB2 := Lib.hid (HB1.out.setCell (p := ⟨S, 5, none⟩) HW1.out.hS (.bool true))
    go_wp2
    go_ret
    exact ⟨ret_int HE2.out.symm, by rw [HD2.out]; exact ⟨_, _, _, HS.out⟩, HB2.out, HK2.out⟩
end
end Go.Proofs.YtejcgjdfajppgaaGreatDoor
