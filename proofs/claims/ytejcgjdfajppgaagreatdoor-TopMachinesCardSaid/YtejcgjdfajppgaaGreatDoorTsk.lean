/-
  The site: Account, Entries.
-/
import Derived.Test.YtejcgjdfajppgaaGreatDoorTsj
namespace Go.Proofs.YtejcgjdfajppgaaGreatDoor
section
open Go.RowKit
set_option linter.unusedVariables false
set_option linter.unusedSimpArgs false
attribute [local go_sem ↓] Go.wp_at_zero Go.wp_at_succ

theorem cnt_snoc {l : List Int} {k : Nat} {y : Int} (h : l[k]? = some y) (x : Int) : (((l.take (k + 1)).count x : Nat) : Int) = ((l.take k).count x : Nat) + (if y = x then 1 else 0) := by
  rw [List.take_add_one, h]
  by_cases e : y = x
  · subst e; simp
  · rw [if_neg e]
    simp [List.count_append, e]
    try (rw [List.count_eq_zero]; simp; exact fun h => e h.symm)
set_option maxHeartbeats 1000000 in
set_option maxRecDepth 100000 in
theorem saccount_any (base S : Nat) (d : SiteD) (w : World) (h : SiteAt w base S d) (hok : SiteOk d) :
    Calls Tryz.prog 16 #[.pointer (some ⟨S, 0, none⟩)] w fun e w' => e = .returned (.tuple #[.int .i64 ((d.wh.count 0 : Nat) : Int), .int .i64 ((d.wh.count 1 : Nat) : Int), .int .i64 ((d.wh.count 2 : Nat) : Int)]) ∧ Below w.heap.size w w' := by
  obtain ⟨tv, wv, ev, mo, hW⟩ := h
  obtain ⟨wa, wc, rfl⟩ := hW.wh.shape
  obtain ⟨w0, hw0⟩ : ∃ w0, w.alloc (.cells #[.int .i64 0, .int .i64 0, .int .i64 0] 84) = w0 := ⟨_, rfl⟩
  obtain ⟨B, hB⟩ : ∃ B, w.heap.size = B := ⟨_, rfl⟩
  have HB0 : Hid (Below w.heap.size w w0) := Lib.hid (by rw [← hw0]; exact below_new _ _)
  have HA0 : Hid (BlkIs w0 B 84 #[.int .i64 0, .int .i64 0, .int .i64 0]) := Lib.hid (by rw [← hw0, ← hB]; exact BlkIs.new _ _ _)
  have HW := Lib.hid (hW.below HB0.out)
  have c1 := HW.out.blk.cell 1
  have l1 := HW.out.blk.lt
  have hfew := hok.few
  have hwl : d.wh.length ≤ 19 := by rw [hok.len]; exact hfew
  have HR := Lib.hid hok.rng
  have HNE : Hid (∀ g, (Value.slice wa d.wh.length wc).ownBlock = some g → some g ≠ some B) := Lib.hid (fun g hg e => by
    have := (hW.wh.lt g hg).2
    cases e
    omega)
  clear hW hok hfew
  go_enter Tryz.func16, Tryz.ntmps16
  go_wp2_with fail
  (try rw [hw0])
  (try rw [hB])
  clear c1 hw0
  go_loopw [15] (fun i wr => ∃ k : Nat, k ≤ d.wh.length ∧ i = .int .i64 (k : Int) ∧ Below w.heap.size w wr ∧ Own wr base 3 intv (.slice wa d.wh.length wc) d.wh ∧ BlkIs wr B 84 #[.int .i64 (((d.wh.take k).count 0 : Nat) : Int), .int .i64 (((d.wh.take k).count 1 : Nat) : Int), .int .i64 (((d.wh.take k).count 2 : Nat) : Int)]) (fun i _ => d.wh.length - (intOf i).toNat)
  case atStart => exact ⟨0, Nat.zero_le _, rfl, HB0.out, HW.out.wh, by rw [List.take_zero]; exact HA0.out⟩
  case round =>
    clear HW HA0 l1
    obtain ⟨k, hk, rfl, hBl, hO, hA⟩ := hrel
    by_cases hk2 : k < d.wh.length
    · obtain ⟨x, hx⟩ : ∃ x, d.wh[k]? = some x := ⟨_, List.getElem?_eq_getElem hk2⟩
      obtain ⟨G, _, hgo, hgl, _, _⟩ := Own.form hO (by omega)
      cases hgo
      have c0 := hO.cell hx
      unfold intv at c0
      have n0 := cnt_snoc hx 0
      have n1 := cnt_snoc hx 1
      have n2 := cnt_snoc hx 2
      have b0 : (d.wh.take k).count 0 ≤ 19 := Nat.le_trans List.count_le_length (by rw [List.length_take]; omega)
      have b1 : (d.wh.take k).count 1 ≤ 19 := Nat.le_trans List.count_le_length (by rw [List.length_take]; omega)
      have b2 : (d.wh.take k).count 2 ≤ 19 := Nat.le_trans List.count_le_length (by rw [List.length_take]; omega)
      have HN := Lib.hid (And.intro n0 (And.intro n1 n2))
      have hx3 := HR.out x (List.mem_of_getElem? hx)
      clear n0 n1 n2 hx
      generalize (d.wh.take k).count 0 = q0 at *
      generalize (d.wh.take k).count 1 = q1 at *
      generalize (d.wh.take k).count 2 = q2 at *
      have HBl := Lib.hid hBl
      have HO := Lib.hid hO
      have HA := Lib.hid hA
      have lA := hA.lt
      have z0 : (0 : Int) ≤ (k : Int) := Int.natCast_nonneg _
      have z1 : (k : Int) < (d.wh.length : Int) := by omega
      have hBw : w.heap.size ≤ B := by omega
      rcases hx3 with rfl | rfl | rfl
      · have a0 := hA.cell 0
        have f0 := hA.free 0
        have hwr : IntKind.i64.wrap ((q0 : Int) + 1) = (q0 : Int) + 1 := IntWalk.i64_in _ (by omega)
        have HA2 := Lib.hid (hA.set 0 (.int .i64 ((q0 : Int) + 1)))
        have HO2 := Lib.hid (hO.only (only_set wr B 0 (.int .i64 ((q0 : Int) + 1))) HNE.out)
        have HB2 := Lib.hid (hBl.setCell (p := ⟨B, 0, none⟩) hBw (.int .i64 ((q0 : Int) + 1)))
        clear hA hO hBl
        go_wp2
        go_roundw
        case rel => exact ⟨k + 1, by omega, by go_num, HB2.out, HO2.out, by rw [HN.out.1, HN.out.2.1, HN.out.2.2]; simpa using HA2.out⟩
        case measure => simp [intOf]; omega
      · have a0 := hA.cell 1
        have f0 := hA.free 1
        have hwr : IntKind.i64.wrap ((q1 : Int) + 1) = (q1 : Int) + 1 := IntWalk.i64_in _ (by omega)
        have HA2 := Lib.hid (hA.set 1 (.int .i64 ((q1 : Int) + 1)))
        have HO2 := Lib.hid (hO.only (only_set wr B 1 (.int .i64 ((q1 : Int) + 1))) HNE.out)
        have HB2 := Lib.hid (hBl.setCell (p := ⟨B, 1, none⟩) hBw (.int .i64 ((q1 : Int) + 1)))
        clear hA hO hBl
        go_wp2
        go_roundw
        case rel => exact ⟨k + 1, by omega, by go_num, HB2.out, HO2.out, by rw [HN.out.1, HN.out.2.1, HN.out.2.2]; simpa using HA2.out⟩
        case measure => simp [intOf]; omega
      · have a0 := hA.cell 2
        have f0 := hA.free 2
        have hwr : IntKind.i64.wrap ((q2 : Int) + 1) = (q2 : Int) + 1 := IntWalk.i64_in _ (by omega)
        have HA2 := Lib.hid (hA.set 2 (.int .i64 ((q2 : Int) + 1)))
        have HO2 := Lib.hid (hO.only (only_set wr B 2 (.int .i64 ((q2 : Int) + 1))) HNE.out)
        have HB2 := Lib.hid (hBl.setCell (p := ⟨B, 2, none⟩) hBw (.int .i64 ((q2 : Int) + 1)))
        clear hA hO hBl
        go_wp2
        go_roundw
        case rel => exact ⟨k + 1, by omega, by go_num, HB2.out, HO2.out, by rw [HN.out.1, HN.out.2.1, HN.out.2.2]; simpa using HA2.out⟩
        case measure => simp [intOf]; omega
    · obtain rfl : k = d.wh.length := by omega
      rw [List.take_length] at hA
      have y0 := fun dd os => cell_regrown (hA.cell 0) dd os
      have y1 := fun dd os => cell_regrown (hA.cell 1) dd os
      have y2 := fun dd os => cell_regrown (hA.cell 2) dd os
      have HBl := Lib.hid hBl
      clear hBl hA hO
      go_wp2_with fail
      refine wp_region_quiet_below (by kernel_rfl) (by kernel_rfl) ?_
      repeat (go_big_quiet_step ((first
        | fail)))
      refine wpQuiet_nil ?_
      intro _ hw'
      obtain ⟨⟨nq, osq⟩, hw''⟩ := hw'
      subst hw''
      go_wp2
      go_ret3
      exact ⟨rfl, bstep HBl.out (below_regrown wr nq osq)⟩
theorem run_sizeEnt (w : World) : (Go.sizeOf 57).run Tryz.prog w = .ok 3 w := by kernel_rfl
end
end Go.Proofs.YtejcgjdfajppgaaGreatDoor
