/-
  journal.Valid at one entry; the site: act, Do.
-/
import Derived.Test.YtejcgjdfajppgaaGreatDoorTsk
namespace Go.Proofs.YtejcgjdfajppgaaGreatDoor
section
open Go.RowKit
set_option linter.unusedVariables false
set_option linter.unusedSimpArgs false
attribute [local go_sem ↓] Go.wp_at_zero Go.wp_at_succ

structure EntOk (x : EntD) : Prop where
  d0 : 0 ≤ x.day
  d1 : x.day ≤ 1000000
  k0 : 1 ≤ x.kind
  k1 : x.kind ≤ 6
  nm : nameB x.name = true
  sz : x.name.size ≤ maxLen
set_option maxHeartbeats 1000000 in
set_option maxRecDepth 100000 in
theorem jvalid_one (g c : Nat) (x : EntD) (w : World) (hx : EntOk x) (hb : BlkIs w g 57 #[.int .i64 x.day, .int .i64 x.kind, .string x.name]) :
    Calls Tryz.prog 42 #[.slice (some ⟨g, 0, none⟩) 1 c] w fun e w' => e = .returned (.bool true) ∧ Below w.heap.size w w' := by
  obtain ⟨d, k, nm⟩ := x
  obtain ⟨d0, d1, k0, k1, hnm, hsz⟩ := hx
  simp only at d0 d1 k0 k1 hnm hsz hb
  have HN := Lib.hid (fun W => name_any nm W hsz)
  rw [hnm] at HN
  have c0 := hb.cell 0
  have c1 := hb.cell 1
  have c2 := hb.cell 2
  have l0 := hb.lt
  have HB := Lib.hid hb
  have e1 : decide (d < 0) = false := by simp; omega
  have e2 : decide (1000000 < d) = false := by simp; omega
  have e3 : decide (k < 1) = false := by simp; omega
  have e4 : decide (6 < k) = false := by simp; omega
  have e5 : decide (d > 1000000) = false := by simp; omega
  have e6 : decide (k > 6) = false := by simp; omega
  clear hb hnm
  go_enter Tryz.func42, Tryz.ntmps42
  go_wp2_with fail
  go_loopw [10] (fun i wr => (i = .int .i64 0 ∧ wr = w) ∨ (i = .int .i64 1 ∧ Below w.heap.size w wr)) (fun i _ => 1 - (intOf i).toNat)
  case atStart => exact .inl ⟨rfl, rfl⟩
  case round =>
    rcases hrel with ⟨rfl, rfl⟩ | ⟨rfl, hbl⟩
    · obtain ⟨W5, hW5⟩ : ∃ W5, wr.alloc (.cells #[.int .i64 d, .int .i64 k, .string nm] 57) = W5 := ⟨_, rfl⟩
      have hb5 : Below wr.heap.size wr W5 := by rw [← hW5]; exact below_new _ _
      have BX : BlkIs W5 wr.heap.size 57 #[.int .i64 d, .int .i64 k, .string nm] := by rw [← hW5]; exact BlkIs.new _ _ _
      have y0 := fun dd os => cell_regrown (BX.cell 0) dd os
      have y1 := fun dd os => cell_regrown (BX.cell 1) dd os
      have y2 := fun dd os => cell_regrown (BX.cell 2) dd os
      have HB5 := Lib.hid hb5
      clear BX hb5
      go_wp2_with fail
      (try rw [hW5])
      clear c0 c1 c2 l0
      refine wp_region_quiet_below (by kernel_rfl) (by kernel_rfl) ?_
      repeat (go_big_quiet_step ((first
        | (go_at_call 24; exact regrown_pure (HN.out _)))))
      refine wpQuiet_nil ?_
      intro _ hw'
      obtain ⟨⟨nq, osq⟩, hw''⟩ := hw'
      subst hw''
      have HB6 := Lib.hid (bstep HB5.out (below_regrown W5 nq osq))
      generalize Go.Sort.grow (redrawn W5 nq) osq = w6 at *
      clear y0 y1 y2
      go_wp2
      go_roundw
      case rel => exact .inr ⟨by go_num, HB6.out⟩
      case measure => decide
    · have HBL := Lib.hid hbl
      clear hbl
      go_wp2
      go_ret
      exact ⟨rfl, HBL.out⟩
/-- What an entry does: its error, and the site behind it. -/
structure ActIs (d : SiteD) (x : EntD) (er : Int) (d1 : SiteD) : Prop where
  is : (∃ i, d.tags[i]? = some x.name ∧ ((x.kind = 1 ∧ er = moveE d i 0 ∧ d1 = moveD d i 0 1) ∨ (x.kind = 2 ∧ er = moveE d i 1 ∧ d1 = moveD d i 1 2))) ∨ (x.kind = 5 ∧ x.name = d.member ∧ er = pourE d ∧ d1 = pourD d)
set_option maxHeartbeats 1000000 in
set_option maxRecDepth 100000 in
theorem sact_any (base S : Nat) (d d1 : SiteD) (ev : Value) (x : EntD) (er : Int) (w : World) (h : SiteV w base S d ev) (hok : SiteOk d) (hbw : base ≤ w.heap.size) (ha : ActIs d x er d1) :
    Calls Tryz.prog 43 #[.pointer (some ⟨S, 0, none⟩), entv x] w fun e w' => e = .returned (.int .i64 er) ∧ SiteV w' base S d1 ev ∧ Below base w w' ∧ KeepE w w' := by
  obtain ⟨dy, k, nm⟩ := x
  obtain ⟨w0, hw0⟩ : ∃ w0, w.alloc (.cells #[.int .i64 dy, .int .i64 k, .string nm] 57) = w0 := ⟨_, rfl⟩
  have hB0 : Below w.heap.size w w0 := by rw [← hw0]; exact below_new _ _
  have BX : BlkIs w0 w.heap.size 57 #[.int .i64 dy, .int .i64 k, .string nm] := by rw [← hw0]; exact BlkIs.new _ _ _
  have HB0 := Lib.hid (hB0.mono hbw)
  have h0 : SiteV w0 base S d ev := by
    obtain ⟨tv, wv, mo, hW⟩ := h
    exact ⟨tv, wv, mo, hW.below hB0⟩
  have HK0 := Lib.hid (KeepE.below hB0)
  have hb0 : base ≤ w0.heap.size := Nat.le_trans hbw hB0.size
  have c1 := BX.cell 1
  have c2 := BX.cell 2
  have l0 := BX.lt
  clear hB0 BX h
  unfold entv
  rcases ha.is with ⟨i, hi, (⟨hk, rfl, rfl⟩ | ⟨hk, rfl, rfl⟩)⟩ | ⟨hk, hn, rfl, rfl⟩
  · simp only at hk hi
    subst hk
    have HM := Lib.hid (smove_any base S i d ev nm 0 1 w0 h0 hok hi hb0)
    clear h0 ha hok hi hb0
    go_enter Tryz.func43, Tryz.ntmps43
    go_wp2_with fail
    (try rw [hw0])
    clear hw0 c1 c2 l0
    refine HM.out.mono ?_
    rintro e w1 ⟨rfl, h1, hb1, hk1⟩
    have HK1 := Lib.hid (HK0.out.trans hk1)
    have H1 := Lib.hid h1
    have HB1 := Lib.hid (HB0.out.trans hb1)
    clear h1 hb1 hk1 HM
    go_wp2
    go_ret
    exact ⟨rfl, H1.out, HB1.out, HK1.out⟩
  · simp only at hk hi
    subst hk
    have HM := Lib.hid (smove_any base S i d ev nm 1 2 w0 h0 hok hi hb0)
    clear h0 ha hok hi hb0
    go_enter Tryz.func43, Tryz.ntmps43
    go_wp2_with fail
    (try rw [hw0])
    clear hw0 c1 c2 l0
    refine HM.out.mono ?_
    rintro e w1 ⟨rfl, h1, hb1, hk1⟩
    have HK1 := Lib.hid (HK0.out.trans hk1)
    have H1 := Lib.hid h1
    have HB1 := Lib.hid (HB0.out.trans hb1)
    clear h1 hb1 hk1 HM
    go_wp2
    go_ret
    exact ⟨rfl, H1.out, HB1.out, HK1.out⟩
  · simp only at hk hn
    subst hk
    have HM := Lib.hid (spour_any base S d ev w0 h0 hok hb0)
    rw [← hn] at HM
    clear h0 ha hok hb0 hn
    go_enter Tryz.func43, Tryz.ntmps43
    go_wp2_with fail
    (try rw [hw0])
    clear hw0 c1 c2 l0
    refine HM.out.mono ?_
    rintro e w1 ⟨rfl, h1, hb1, hk1⟩
    have HK1 := Lib.hid (HK0.out.trans hk1)
    have H1 := Lib.hid h1
    have HB1 := Lib.hid (HB0.out.trans hb1)
    clear h1 hb1 hk1 HM
    go_wp2
    go_ret
    exact ⟨rfl, H1.out, HB1.out, HK1.out⟩
end
end Go.Proofs.YtejcgjdfajppgaaGreatDoor
