/-
  Base texts, shaken by wip/shake.py: Bka Bkb.
-/
import Derived.BigRegion
import Derived.Test.YtamogedpgkofjaaGreatKlw
import Derived.Test.YtamogedpgkofjaaGreatKbx
import Derived.Test.YtamogedpgkofjaaGreatKmm
import Derived.Test.YtamogedpgkofjaaGreatKqb
namespace Go.Proofs.YtamogedpgkofjaaGreat
section
section
open Go.RowKit
set_option linter.unusedVariables false
set_option linter.unusedSimpArgs false
attribute [local go_sem ↓] Go.wp_at_zero Go.wp_at_succ

def axesL : List Int := [1, 2, 3, -1, -2, -3]
theorem axes_mem (x : Int) : x ∈ axesL ↔ axB x = true := by
  constructor
  · intro h
    unfold axesL at h
    simp only [List.mem_cons, List.not_mem_nil, or_false] at h
    rcases h with rfl | rfl | rfl | rfl | rfl | rfl <;> rfl
  · intro h
    unfold axesL
    simp only [List.mem_cons, List.not_mem_nil, or_false]
    exact ax_cases h
theorem axes_any (w : World) : Calls Tryz.prog 66 #[] w fun e w' => e = .returned (.slice (some ⟨w.heap.size, 0, none⟩) 6 6) ∧ Ints w' (.slice (some ⟨w.heap.size, 0, none⟩) 6 6) axesL ∧ Below w.heap.size w w' := by
  go_enter Tryz.func66, Tryz.ntmps66
  go_wp2
  go_ret
  refine ⟨rfl, ⟨some ⟨w.heap.size, 0, none⟩, 6, rfl, fun _ => ⟨w.heap.size, 0, rfl, by simp, fun k x hk => ?_⟩⟩, by go_grown⟩
  have h := BlkIs.new w #[.int .i64 1, .int .i64 2, .int .i64 3, .int .i64 (-1), .int .i64 (-2), .int .i64 (-3)] 3
  rw [Nat.zero_add, h.cell k]
  match k, hk with
  | 0, hk => cases hk; rfl
  | 1, hk => cases hk; rfl
  | 2, hk => cases hk; rfl
  | 3, hk => cases hk; rfl
  | 4, hk => cases hk; rfl
  | 5, hk => cases hk; rfl
theorem axes_dec (x : Int) : decide (x ∈ axesL) = axB x := by
  rw [Bool.eq_iff_iff, decide_eq_true_eq]; exact axes_mem x
theorem isAxis_any (x : Int) (w : World) : Calls Tryz.prog 36 #[.int .i64 x] w fun e w' => e = .returned (.bool (axB x)) ∧ Below w.heap.size w w' := by
  have H := Lib.hid (axes_dec x)
  go_enter Tryz.func36, Tryz.ntmps36
  go_wp2_with fail
  refine (axes_any _).mono ?_
  rintro e w1 ⟨rfl, hi, hb1⟩
  have HB := Lib.hid hb1
  have HC := Lib.hid (contains_any _ axesL x w1 hi (by decide))
  clear hb1 hi
  go_wp2_with fail
  refine HC.out.mono ?_
  rintro e w2 ⟨rfl, rfl⟩
  go_wp2
  go_ret
  exact ⟨ret_bool H.out, HB.out⟩

set_option maxHeartbeats 4000000 in
theorem wayEnd_any (g off o h : Nat) (x : Int) (w : World) (hx : axB x = true) (hh : w.cell? ⟨h, 0, none⟩ = some (.int .i64 x)) (hlt : h < w.heap.size) (ho : o = off + (x.natAbs - 1)) :
    Calls Tryz.prog 147 #[.pointer (some ⟨g, off, none⟩), .pointer (some ⟨h, 0, none⟩)] w fun e w' => e = .returned (.pointer (some ⟨g, o, none⟩)) ∧ Below w.heap.size w w' := by
  subst ho
  rcases ax_cases hx with rfl | rfl | rfl | rfl | rfl | rfl
  · clear hx
    have q0 : IntKind.i64.wrap 0 = 0 := rfl
    have q1 : IntKind.i64.wrap 1 = 1 := rfl
    have q2 : IntKind.i64.wrap 2 = 2 := rfl
    have q3 : IntKind.i64.wrap 3 = 3 := rfl
    have p1 : IntKind.i64.wrap (-1) = -1 := rfl
    have p2 : IntKind.i64.wrap (-2) = -2 := rfl
    have p3 : IntKind.i64.wrap (-3) = -3 := rfl
    go_enter Tryz.func147, Tryz.ntmps147
    go_wp2_with fail
    go_region
    all_goals
      go_wp2
      go_ret
      exact ⟨rfl, by go_grown⟩
  · clear hx
    have q0 : IntKind.i64.wrap 0 = 0 := rfl
    have q1 : IntKind.i64.wrap 1 = 1 := rfl
    have q2 : IntKind.i64.wrap 2 = 2 := rfl
    have q3 : IntKind.i64.wrap 3 = 3 := rfl
    have p1 : IntKind.i64.wrap (-1) = -1 := rfl
    have p2 : IntKind.i64.wrap (-2) = -2 := rfl
    have p3 : IntKind.i64.wrap (-3) = -3 := rfl
    go_enter Tryz.func147, Tryz.ntmps147
    go_wp2_with fail
    go_region
    all_goals
      go_wp2
      go_ret
      exact ⟨rfl, by go_grown⟩
  · clear hx
    have q0 : IntKind.i64.wrap 0 = 0 := rfl
    have q1 : IntKind.i64.wrap 1 = 1 := rfl
    have q2 : IntKind.i64.wrap 2 = 2 := rfl
    have q3 : IntKind.i64.wrap 3 = 3 := rfl
    have p1 : IntKind.i64.wrap (-1) = -1 := rfl
    have p2 : IntKind.i64.wrap (-2) = -2 := rfl
    have p3 : IntKind.i64.wrap (-3) = -3 := rfl
    go_enter Tryz.func147, Tryz.ntmps147
    go_wp2_with fail
    go_region
    all_goals
      go_wp2
      go_ret
      exact ⟨rfl, by go_grown⟩
  · clear hx
    have q0 : IntKind.i64.wrap 0 = 0 := rfl
    have q1 : IntKind.i64.wrap 1 = 1 := rfl
    have q2 : IntKind.i64.wrap 2 = 2 := rfl
    have q3 : IntKind.i64.wrap 3 = 3 := rfl
    have p1 : IntKind.i64.wrap (-1) = -1 := rfl
    have p2 : IntKind.i64.wrap (-2) = -2 := rfl
    have p3 : IntKind.i64.wrap (-3) = -3 := rfl
    go_enter Tryz.func147, Tryz.ntmps147
    go_wp2_with fail
    go_region
    all_goals
      go_wp2
      go_ret
      exact ⟨rfl, by go_grown⟩
  · clear hx
    have q0 : IntKind.i64.wrap 0 = 0 := rfl
    have q1 : IntKind.i64.wrap 1 = 1 := rfl
    have q2 : IntKind.i64.wrap 2 = 2 := rfl
    have q3 : IntKind.i64.wrap 3 = 3 := rfl
    have p1 : IntKind.i64.wrap (-1) = -1 := rfl
    have p2 : IntKind.i64.wrap (-2) = -2 := rfl
    have p3 : IntKind.i64.wrap (-3) = -3 := rfl
    go_enter Tryz.func147, Tryz.ntmps147
    go_wp2_with fail
    go_region
    all_goals
      go_wp2
      go_ret
      exact ⟨rfl, by go_grown⟩
  · clear hx
    have q0 : IntKind.i64.wrap 0 = 0 := rfl
    have q1 : IntKind.i64.wrap 1 = 1 := rfl
    have q2 : IntKind.i64.wrap 2 = 2 := rfl
    have q3 : IntKind.i64.wrap 3 = 3 := rfl
    have p1 : IntKind.i64.wrap (-1) = -1 := rfl
    have p2 : IntKind.i64.wrap (-2) = -2 := rfl
    have p3 : IntKind.i64.wrap (-3) = -3 := rfl
    go_enter Tryz.func147, Tryz.ntmps147
    go_wp2_with fail
    go_region
    all_goals
      go_wp2
      go_ret
      exact ⟨rfl, by go_grown⟩

set_option maxRecDepth 100000 in
set_option maxHeartbeats 8000000 in
theorem way_any (b : Bx) (x : Int) (w : World) (hx : axB x = true) :
    Calls Tryz.prog 115 #[bxv b, .int .i64 x] w fun e w' => e = .returned (bxv (wayB b x)) ∧ Below w.heap.size w w' := by
  obtain ⟨⟨lx, ly, lz⟩, ⟨ux, uy, uz⟩⟩ := b
  have hF : ∀ (xs : Array Value) (W : World), (callFunc 147 xs).run Tryz.prog W = .ok (.enter 147 xs) W := fun xs W => by go_simp
  rcases ax_cases hx with rfl | rfl | rfl | rfl | rfl | rfl
  · clear hx
    have hb0 : Below w.heap.size w (((w.alloc (.cells #[.int .i64 lx, .int .i64 ly, .int .i64 lz, .int .i64 ux, .int .i64 uy, .int .i64 uz] 134)).alloc (.cells #[.int .i64 1] 3)).alloc (.cells #[.int .i64 0, .int .i64 0, .int .i64 0, .int .i64 0, .int .i64 0, .int .i64 0] 134)) := by go_grown
    go_enter Tryz.func115, Tryz.ntmps115
    go_wp2_with fail
    refine (wayEnd_any w.heap.size 0 0 (w.heap.size + 1) 1 _ rfl (by go_simp) (by simp) rfl).mono ?_
    rintro e w9 ⟨rfl, hb9⟩
    have hx0 := BlkIs.below ((((BlkIs.new w #[.int .i64 lx, .int .i64 ly, .int .i64 lz, .int .i64 ux, .int .i64 uy, .int .i64 uz] 134)).alloc (.cells #[.int .i64 1] 3)).alloc (.cells #[.int .i64 0, .int .i64 0, .int .i64 0, .int .i64 0, .int .i64 0, .int .i64 0] 134)) hb9
    have hx2 := BlkIs.below (BlkIs.new1 (w.alloc (.cells #[.int .i64 lx, .int .i64 ly, .int .i64 lz, .int .i64 ux, .int .i64 uy, .int .i64 uz] 134)) (.cells #[.int .i64 1] 3) #[.int .i64 0, .int .i64 0, .int .i64 0, .int .i64 0, .int .i64 0, .int .i64 0] 134) hb9
    simp only [World.size_alloc] at hx2
    have HB := Lib.hid (bstep hb0 hb9)
    have c0 := hx0.cell 0
    have c1 := hx0.cell 1
    have c2 := hx0.cell 2
    have c3 := hx0.cell 3
    have c4 := hx0.cell 4
    have c5 := hx0.cell 5
    have cf := hx0.free
    have cz := hx0.lt
    have e0 := hx2.cell 0
    have e1 := hx2.cell 1
    have e2 := hx2.cell 2
    have e3 := hx2.cell 3
    have e4 := hx2.cell 4
    have e5 := hx2.cell 5
    have ef := hx2.free
    have ez := hx2.lt
    clear hx0 hx2 hb0 hb9
    go_wp2
    refine bodyPost_ret (v := bxv (wayB ⟨⟨lx, ly, lz⟩, ⟨ux, uy, uz⟩⟩ 1)) (by simp [results, Tryz.results115, go_sem, wayB, c0, c1, c2, c3, c4, c5, cf, cz, e0, e1, e2, e3, e4, e5, ef, ez]) rfl ⟨rfl, ?_⟩
    exact (HB.out.setCell (by simp) _).grown (grown_set6 _ _ _ _ _ _ _ _) (by have := HB.out.size; simpa using this) (fun g e => by cases e; omega)
  · clear hx
    have hb0 : Below w.heap.size w (((w.alloc (.cells #[.int .i64 lx, .int .i64 ly, .int .i64 lz, .int .i64 ux, .int .i64 uy, .int .i64 uz] 134)).alloc (.cells #[.int .i64 2] 3)).alloc (.cells #[.int .i64 0, .int .i64 0, .int .i64 0, .int .i64 0, .int .i64 0, .int .i64 0] 134)) := by go_grown
    go_enter Tryz.func115, Tryz.ntmps115
    go_wp2_with fail
    refine (wayEnd_any w.heap.size 0 1 (w.heap.size + 1) 2 _ rfl (by go_simp) (by simp) rfl).mono ?_
    rintro e w9 ⟨rfl, hb9⟩
    have hx0 := BlkIs.below ((((BlkIs.new w #[.int .i64 lx, .int .i64 ly, .int .i64 lz, .int .i64 ux, .int .i64 uy, .int .i64 uz] 134)).alloc (.cells #[.int .i64 2] 3)).alloc (.cells #[.int .i64 0, .int .i64 0, .int .i64 0, .int .i64 0, .int .i64 0, .int .i64 0] 134)) hb9
    have hx2 := BlkIs.below (BlkIs.new1 (w.alloc (.cells #[.int .i64 lx, .int .i64 ly, .int .i64 lz, .int .i64 ux, .int .i64 uy, .int .i64 uz] 134)) (.cells #[.int .i64 2] 3) #[.int .i64 0, .int .i64 0, .int .i64 0, .int .i64 0, .int .i64 0, .int .i64 0] 134) hb9
    simp only [World.size_alloc] at hx2
    have HB := Lib.hid (bstep hb0 hb9)
    have c0 := hx0.cell 0
    have c1 := hx0.cell 1
    have c2 := hx0.cell 2
    have c3 := hx0.cell 3
    have c4 := hx0.cell 4
    have c5 := hx0.cell 5
    have cf := hx0.free
    have cz := hx0.lt
    have e0 := hx2.cell 0
    have e1 := hx2.cell 1
    have e2 := hx2.cell 2
    have e3 := hx2.cell 3
    have e4 := hx2.cell 4
    have e5 := hx2.cell 5
    have ef := hx2.free
    have ez := hx2.lt
    clear hx0 hx2 hb0 hb9
    go_wp2
    refine bodyPost_ret (v := bxv (wayB ⟨⟨lx, ly, lz⟩, ⟨ux, uy, uz⟩⟩ 2)) (by simp [results, Tryz.results115, go_sem, wayB, c0, c1, c2, c3, c4, c5, cf, cz, e0, e1, e2, e3, e4, e5, ef, ez]) rfl ⟨rfl, ?_⟩
    exact (HB.out.setCell (by simp) _).grown (grown_set6 _ _ _ _ _ _ _ _) (by have := HB.out.size; simpa using this) (fun g e => by cases e; omega)
  · clear hx
    have hb0 : Below w.heap.size w (((w.alloc (.cells #[.int .i64 lx, .int .i64 ly, .int .i64 lz, .int .i64 ux, .int .i64 uy, .int .i64 uz] 134)).alloc (.cells #[.int .i64 3] 3)).alloc (.cells #[.int .i64 0, .int .i64 0, .int .i64 0, .int .i64 0, .int .i64 0, .int .i64 0] 134)) := by go_grown
    go_enter Tryz.func115, Tryz.ntmps115
    go_wp2_with fail
    refine (wayEnd_any w.heap.size 0 2 (w.heap.size + 1) 3 _ rfl (by go_simp) (by simp) rfl).mono ?_
    rintro e w9 ⟨rfl, hb9⟩
    have hx0 := BlkIs.below ((((BlkIs.new w #[.int .i64 lx, .int .i64 ly, .int .i64 lz, .int .i64 ux, .int .i64 uy, .int .i64 uz] 134)).alloc (.cells #[.int .i64 3] 3)).alloc (.cells #[.int .i64 0, .int .i64 0, .int .i64 0, .int .i64 0, .int .i64 0, .int .i64 0] 134)) hb9
    have hx2 := BlkIs.below (BlkIs.new1 (w.alloc (.cells #[.int .i64 lx, .int .i64 ly, .int .i64 lz, .int .i64 ux, .int .i64 uy, .int .i64 uz] 134)) (.cells #[.int .i64 3] 3) #[.int .i64 0, .int .i64 0, .int .i64 0, .int .i64 0, .int .i64 0, .int .i64 0] 134) hb9
    simp only [World.size_alloc] at hx2
    have HB := Lib.hid (bstep hb0 hb9)
    have c0 := hx0.cell 0
    have c1 := hx0.cell 1
    have c2 := hx0.cell 2
    have c3 := hx0.cell 3
    have c4 := hx0.cell 4
    have c5 := hx0.cell 5
    have cf := hx0.free
    have cz := hx0.lt
    have e0 := hx2.cell 0
    have e1 := hx2.cell 1
    have e2 := hx2.cell 2
    have e3 := hx2.cell 3
    have e4 := hx2.cell 4
    have e5 := hx2.cell 5
    have ef := hx2.free
    have ez := hx2.lt
    clear hx0 hx2 hb0 hb9
    go_wp2
    refine bodyPost_ret (v := bxv (wayB ⟨⟨lx, ly, lz⟩, ⟨ux, uy, uz⟩⟩ 3)) (by simp [results, Tryz.results115, go_sem, wayB, c0, c1, c2, c3, c4, c5, cf, cz, e0, e1, e2, e3, e4, e5, ef, ez]) rfl ⟨rfl, ?_⟩
    exact (HB.out.setCell (by simp) _).grown (grown_set6 _ _ _ _ _ _ _ _) (by have := HB.out.size; simpa using this) (fun g e => by cases e; omega)
  · clear hx
    have hb0 : Below w.heap.size w (((w.alloc (.cells #[.int .i64 lx, .int .i64 ly, .int .i64 lz, .int .i64 ux, .int .i64 uy, .int .i64 uz] 134)).alloc (.cells #[.int .i64 (-1)] 3)).alloc (.cells #[.int .i64 0, .int .i64 0, .int .i64 0, .int .i64 0, .int .i64 0, .int .i64 0] 134)) := by go_grown
    go_enter Tryz.func115, Tryz.ntmps115
    go_wp2_with fail
    refine (wayEnd_any w.heap.size 3 3 (w.heap.size + 1) (-1) _ rfl (by go_simp) (by simp) rfl).mono ?_
    rintro e w9 ⟨rfl, hb9⟩
    have hx0 := BlkIs.below ((((BlkIs.new w #[.int .i64 lx, .int .i64 ly, .int .i64 lz, .int .i64 ux, .int .i64 uy, .int .i64 uz] 134)).alloc (.cells #[.int .i64 (-1)] 3)).alloc (.cells #[.int .i64 0, .int .i64 0, .int .i64 0, .int .i64 0, .int .i64 0, .int .i64 0] 134)) hb9
    have hx2 := BlkIs.below (BlkIs.new1 (w.alloc (.cells #[.int .i64 lx, .int .i64 ly, .int .i64 lz, .int .i64 ux, .int .i64 uy, .int .i64 uz] 134)) (.cells #[.int .i64 (-1)] 3) #[.int .i64 0, .int .i64 0, .int .i64 0, .int .i64 0, .int .i64 0, .int .i64 0] 134) hb9
    simp only [World.size_alloc] at hx2
    have HB := Lib.hid (bstep hb0 hb9)
    have c0 := hx0.cell 0
    have c1 := hx0.cell 1
    have c2 := hx0.cell 2
    have c3 := hx0.cell 3
    have c4 := hx0.cell 4
    have c5 := hx0.cell 5
    have cf := hx0.free
    have cz := hx0.lt
    have e0 := hx2.cell 0
    have e1 := hx2.cell 1
    have e2 := hx2.cell 2
    have e3 := hx2.cell 3
    have e4 := hx2.cell 4
    have e5 := hx2.cell 5
    have ef := hx2.free
    have ez := hx2.lt
    clear hx0 hx2 hb0 hb9
    go_wp2
    refine bodyPost_ret (v := bxv (wayB ⟨⟨lx, ly, lz⟩, ⟨ux, uy, uz⟩⟩ (-1))) (by simp [results, Tryz.results115, go_sem, wayB, c0, c1, c2, c3, c4, c5, cf, cz, e0, e1, e2, e3, e4, e5, ef, ez]) rfl ⟨rfl, ?_⟩
    exact (HB.out.setCell (by simp) _).grown (grown_set6 _ _ _ _ _ _ _ _) (by have := HB.out.size; simpa using this) (fun g e => by cases e; omega)
  · clear hx
    have hb0 : Below w.heap.size w (((w.alloc (.cells #[.int .i64 lx, .int .i64 ly, .int .i64 lz, .int .i64 ux, .int .i64 uy, .int .i64 uz] 134)).alloc (.cells #[.int .i64 (-2)] 3)).alloc (.cells #[.int .i64 0, .int .i64 0, .int .i64 0, .int .i64 0, .int .i64 0, .int .i64 0] 134)) := by go_grown
    go_enter Tryz.func115, Tryz.ntmps115
    go_wp2_with fail
    refine (wayEnd_any w.heap.size 3 4 (w.heap.size + 1) (-2) _ rfl (by go_simp) (by simp) rfl).mono ?_
    rintro e w9 ⟨rfl, hb9⟩
    have hx0 := BlkIs.below ((((BlkIs.new w #[.int .i64 lx, .int .i64 ly, .int .i64 lz, .int .i64 ux, .int .i64 uy, .int .i64 uz] 134)).alloc (.cells #[.int .i64 (-2)] 3)).alloc (.cells #[.int .i64 0, .int .i64 0, .int .i64 0, .int .i64 0, .int .i64 0, .int .i64 0] 134)) hb9
    have hx2 := BlkIs.below (BlkIs.new1 (w.alloc (.cells #[.int .i64 lx, .int .i64 ly, .int .i64 lz, .int .i64 ux, .int .i64 uy, .int .i64 uz] 134)) (.cells #[.int .i64 (-2)] 3) #[.int .i64 0, .int .i64 0, .int .i64 0, .int .i64 0, .int .i64 0, .int .i64 0] 134) hb9
    simp only [World.size_alloc] at hx2
    have HB := Lib.hid (bstep hb0 hb9)
    have c0 := hx0.cell 0
    have c1 := hx0.cell 1
    have c2 := hx0.cell 2
    have c3 := hx0.cell 3
    have c4 := hx0.cell 4
    have c5 := hx0.cell 5
    have cf := hx0.free
    have cz := hx0.lt
    have e0 := hx2.cell 0
    have e1 := hx2.cell 1
    have e2 := hx2.cell 2
    have e3 := hx2.cell 3
    have e4 := hx2.cell 4
    have e5 := hx2.cell 5
    have ef := hx2.free
    have ez := hx2.lt
    clear hx0 hx2 hb0 hb9
    go_wp2
    refine bodyPost_ret (v := bxv (wayB ⟨⟨lx, ly, lz⟩, ⟨ux, uy, uz⟩⟩ (-2))) (by simp [results, Tryz.results115, go_sem, wayB, c0, c1, c2, c3, c4, c5, cf, cz, e0, e1, e2, e3, e4, e5, ef, ez]) rfl ⟨rfl, ?_⟩
    exact (HB.out.setCell (by simp) _).grown (grown_set6 _ _ _ _ _ _ _ _) (by have := HB.out.size; simpa using this) (fun g e => by cases e; omega)
  · clear hx
    have hb0 : Below w.heap.size w (((w.alloc (.cells #[.int .i64 lx, .int .i64 ly, .int .i64 lz, .int .i64 ux, .int .i64 uy, .int .i64 uz] 134)).alloc (.cells #[.int .i64 (-3)] 3)).alloc (.cells #[.int .i64 0, .int .i64 0, .int .i64 0, .int .i64 0, .int .i64 0, .int .i64 0] 134)) := by go_grown
    go_enter Tryz.func115, Tryz.ntmps115
    go_wp2_with fail
    refine (wayEnd_any w.heap.size 3 5 (w.heap.size + 1) (-3) _ rfl (by go_simp) (by simp) rfl).mono ?_
    rintro e w9 ⟨rfl, hb9⟩
    have hx0 := BlkIs.below ((((BlkIs.new w #[.int .i64 lx, .int .i64 ly, .int .i64 lz, .int .i64 ux, .int .i64 uy, .int .i64 uz] 134)).alloc (.cells #[.int .i64 (-3)] 3)).alloc (.cells #[.int .i64 0, .int .i64 0, .int .i64 0, .int .i64 0, .int .i64 0, .int .i64 0] 134)) hb9
    have hx2 := BlkIs.below (BlkIs.new1 (w.alloc (.cells #[.int .i64 lx, .int .i64 ly, .int .i64 lz, .int .i64 ux, .int .i64 uy, .int .i64 uz] 134)) (.cells #[.int .i64 (-3)] 3) #[.int .i64 0, .int .i64 0, .int .i64 0, .int .i64 0, .int .i64 0, .int .i64 0] 134) hb9
    simp only [World.size_alloc] at hx2
    have HB := Lib.hid (bstep hb0 hb9)
    have c0 := hx0.cell 0
    have c1 := hx0.cell 1
    have c2 := hx0.cell 2
    have c3 := hx0.cell 3
    have c4 := hx0.cell 4
    have c5 := hx0.cell 5
    have cf := hx0.free
    have cz := hx0.lt
    have e0 := hx2.cell 0
    have e1 := hx2.cell 1
    have e2 := hx2.cell 2
    have e3 := hx2.cell 3
    have e4 := hx2.cell 4
    have e5 := hx2.cell 5
    have ef := hx2.free
    have ez := hx2.lt
    clear hx0 hx2 hb0 hb9
    go_wp2
    refine bodyPost_ret (v := bxv (wayB ⟨⟨lx, ly, lz⟩, ⟨ux, uy, uz⟩⟩ (-3))) (by simp [results, Tryz.results115, go_sem, wayB, c0, c1, c2, c3, c4, c5, cf, cz, e0, e1, e2, e3, e4, e5, ef, ez]) rfl ⟨rfl, ?_⟩
    exact (HB.out.setCell (by simp) _).grown (grown_set6 _ _ _ _ _ _ _ _) (by have := HB.out.size; simpa using this) (fun g e => by cases e; omega)
end

section
open Go.RowKit
set_option linter.unusedVariables false
set_option linter.unusedSimpArgs false
attribute [local go_sem ↓] Go.wp_at_zero Go.wp_at_succ

set_option maxHeartbeats 1000000 in
theorem point_any (p : Pt) (w : World) : Calls Tryz.prog 119 #[ptv p] w fun e w' => e = .returned (ptv p) ∧ Below w.heap.size w w' := by
  obtain ⟨x, y, z⟩ := p
  go_enter Tryz.func119, Tryz.ntmps119
  go_wp2
  exact bodyPost_ret (v := ptv _) (by simp [results, Tryz.results119, go_sem]) rfl ⟨rfl, by go_grown⟩

def npk (f : Int → Int → Int → Int → Int) (a b : Bx) (n k : Nat) : Value := .int .i64 (if k < n then f (ax a.lo k) (ax a.hi k) (ax b.lo k) (ax b.hi k) else 0)
abbrev npC (f : Int → Int → Int → Int → Int) (a b : Bx) (n : Nat) : Array Value := #[npk f a b n 0, npk f a b n 1, npk f a b n 2]
theorem npC_set (f : Int → Int → Int → Int → Int) (a b : Bx) {n : Nat} (h : n < 3) : (npC f a b n).setIfInBounds n (.int .i64 (f (ax a.lo n) (ax a.hi n) (ax b.lo n) (ax b.hi n))) = npC f a b (n + 1) := by
  obtain rfl | rfl | rfl : n = 0 ∨ n = 1 ∨ n = 2 := by omega
  all_goals simp [npC, npk]
structure NeW (w : World) (a b : Bx) (A n : Nat) (wr : World) : Prop where
  below : Below w.heap.size w wr
  ba : BlkIs wr w.heap.size 134 (bxCellsA a)
  bb : BlkIs wr (w.heap.size + 1) 134 (bxCellsA b)
  r4 : BlkIs wr (w.heap.size + 2) 88 #[.int .i64 0, .int .i64 0, .int .i64 0]
  r5 : BlkIs wr (w.heap.size + 3) 88 #[.int .i64 0, .int .i64 0, .int .i64 0]
  pa : BlkIs wr A 159 (npC npA a b n)
  qa : BlkIs wr (A + 1) 159 (npC npB a b n)
  far : w.heap.size + 4 ≤ A
theorem NeW.after {w wr w' : World} {a b : Bx} {A n : Nat} (h : NeW w a b A n wr) (hb : Below wr.heap.size wr w') : NeW w a b A n w' := ⟨bstep h.below hb, h.ba.below hb, h.bb.below hb, h.r4.below hb, h.r5.below hb, h.pa.below hb, h.qa.below hb, h.far⟩
theorem NeW.put {w wr : World} {a b : Bx} {A n : Nat} (h : NeW w a b A n wr) (hn : n < 3) : NeW w a b A (n + 1) ((wr.setCell ⟨A, n, none⟩ (.int .i64 (npA (ax a.lo n) (ax a.hi n) (ax b.lo n) (ax b.hi n)))).setCell ⟨A + 1, n, none⟩ (.int .i64 (npB (ax a.lo n) (ax a.hi n) (ax b.lo n) (ax b.hi n)))) := by
  have f := h.far
  have p1 := (h.pa.set n (.int .i64 (npA (ax a.lo n) (ax a.hi n) (ax b.lo n) (ax b.hi n))))
  rw [npC_set _ _ _ hn] at p1
  have q1 := ((h.qa.far (p := ⟨A, n, none⟩) (by simp) (.int .i64 (npA (ax a.lo n) (ax a.hi n) (ax b.lo n) (ax b.hi n)))).set n (.int .i64 (npB (ax a.lo n) (ax a.hi n) (ax b.lo n) (ax b.hi n))))
  rw [npC_set _ _ _ hn] at q1
  exact ⟨(h.below.setCell (by simp; omega) _).setCell (by simp; omega) _, (h.ba.far (by simp; omega) _).far (by simp; omega) _, (h.bb.far (by simp; omega) _).far (by simp; omega) _, (h.r4.far (by simp; omega) _).far (by simp; omega) _, (h.r5.far (by simp; omega) _).far (by simp; omega) _, p1.far (by simp) _, q1, f⟩
set_option maxRecDepth 100000 in
set_option maxHeartbeats 4000000 in
theorem nearest_any (a b : Bx) (w : World) (ha : bxOk a = true) (hb : bxOk b = true) :
    Calls Tryz.prog 96 #[bxv a, bxv b] w fun e w' => e = .returned (.tuple #[ptv (nearP a b), ptv (nearQ a b), .int .i64 0]) ∧ Below w.heap.size w w' := by
  have HVA := Lib.hid (fun W => bvalid_any a W)
  have HVB := Lib.hid (fun W => bvalid_any b W)
  rw [ha] at HVA
  rw [hb] at HVB
  have HEA := Lib.hid (fun k W (hk : k < 3) => ends_any a k W hk)
  have HEB := Lib.hid (fun k W (hk : k < 3) => ends_any b k W hk)
  clear ha hb
  go_enter Tryz.func96, Tryz.ntmps96
  go_wp2_with fail
  refine (HVA.out _).mono ?_
  rintro e w1 ⟨rfl, hb1⟩
  have HB1 := Lib.hid (bstep (by go_grown) hb1 : Below w.heap.size w w1)
  have hx0 := BlkIs.below ((((BlkIs.new w (bxCellsA a) 134).alloc (.cells (bxCellsA b) 134)).alloc (.cells #[.int .i64 0, .int .i64 0, .int .i64 0] 88)).alloc (.cells #[.int .i64 0, .int .i64 0, .int .i64 0] 88)) hb1
  have hx1 := BlkIs.below (((BlkIs.new1 w (.cells (bxCellsA a) 134) (bxCellsA b) 134).alloc (.cells #[.int .i64 0, .int .i64 0, .int .i64 0] 88)).alloc (.cells #[.int .i64 0, .int .i64 0, .int .i64 0] 88)) hb1
  have hx2 := BlkIs.below ((BlkIs.new1 (w.alloc (.cells (bxCellsA a) 134)) (.cells (bxCellsA b) 134) #[.int .i64 0, .int .i64 0, .int .i64 0] 88).alloc (.cells #[.int .i64 0, .int .i64 0, .int .i64 0] 88)) hb1
  have hx3 := BlkIs.below (BlkIs.new1 ((w.alloc (.cells (bxCellsA a) 134)).alloc (.cells (bxCellsA b) 134)) (.cells #[.int .i64 0, .int .i64 0, .int .i64 0] 88) #[.int .i64 0, .int .i64 0, .int .i64 0] 88) hb1
  simp only [World.size_alloc] at hx2 hx3
  have HX : Hid (BlkIs w1 w.heap.size 134 (bxCellsA a) ∧ BlkIs w1 (w.heap.size + 1) 134 (bxCellsA b) ∧ BlkIs w1 (w.heap.size + 2) 88 #[.int .i64 0, .int .i64 0, .int .i64 0] ∧ BlkIs w1 (w.heap.size + 3) 88 #[.int .i64 0, .int .i64 0, .int .i64 0]) := ⟨hx0, hx1, hx2, hx3⟩
  have c0 := hx1.cell 0
  have c1 := hx1.cell 1
  have c2 := hx1.cell 2
  have c3 := hx1.cell 3
  have c4 := hx1.cell 4
  have c5 := hx1.cell 5
  clear hb1 hx0 hx1 hx2 hx3
  go_wp2_with fail
  refine (HVB.out _).mono ?_
  rintro e w2 ⟨rfl, hb2⟩
  have hb3 : Below w1.heap.size w1 ((w2.alloc (.cells #[.int .i64 0, .int .i64 0, .int .i64 0] 159)).alloc (.cells #[.int .i64 0, .int .i64 0, .int .i64 0] 159)) := bstep hb2 (by go_grown)
  have hz : w.heap.size + 4 ≤ w2.heap.size := by have h1 := HX.out.2.2.2.lt; have h2 := hb2.size; omega
  have HW0 : Hid (NeW w a b w2.heap.size 0 ((w2.alloc (.cells #[.int .i64 0, .int .i64 0, .int .i64 0] 159)).alloc (.cells #[.int .i64 0, .int .i64 0, .int .i64 0] 159))) := ⟨bstep HB1.out hb3, HX.out.1.below hb3, HX.out.2.1.below hb3, HX.out.2.2.1.below hb3, HX.out.2.2.2.below hb3, (BlkIs.new w2 _ _).alloc _, BlkIs.new1 w2 _ _ _, hz⟩
  clear hb2 hb3 hz c0 c1 c2 c3 c4 c5 HVA HVB HX HB1
  go_wp2_with fail
  go_loopw [24] (fun i wr => ∃ n : Nat, n ≤ 3 ∧ i = .int .i64 (n : Int) ∧ NeW w a b w2.heap.size n wr) (fun i _ => 3 - (intOf i).toNat)
  case atStart => exact ⟨0, by omega, rfl, HW0.out⟩
  case round =>
    obtain ⟨n, hn, rfl, hW⟩ := hrel
    have HW := Lib.hid hW
    clear hW HW0
    by_cases hn3 : n < 3
    · have c0 := HW.out.ba.cell 0
      have c1 := HW.out.ba.cell 1
      have c2 := HW.out.ba.cell 2
      have c3 := HW.out.ba.cell 3
      have c4 := HW.out.ba.cell 4
      have c5 := HW.out.ba.cell 5
      have HE1 := Lib.hid (HEA.out n wr hn3)
      have HE2 := Lib.hid (fun W => HEB.out n W hn3)
      have HPUT := Lib.hid (fun W (h : NeW w a b w2.heap.size n W) => h.put hn3)
      clear HEA HEB
      go_wp2_with fail
      refine HE1.out.mono ?_
      rintro e w3 ⟨rfl, hb3⟩
      have HW3 := Lib.hid (HW.out.after hb3)
      clear hb3 c0 c1 c2 c3 c4 c5 HW HE1
      have c0 := HW3.out.bb.cell 0
      have c1 := HW3.out.bb.cell 1
      have c2 := HW3.out.bb.cell 2
      have c3 := HW3.out.bb.cell 3
      have c4 := HW3.out.bb.cell 4
      have c5 := HW3.out.bb.cell 5
      go_wp2_with fail
      refine (HE2.out _).mono ?_
      rintro e w4 ⟨rfl, hb4⟩
      have HW4 := Lib.hid (HW3.out.after hb4)
      clear hb4 c0 c1 c2 c3 c4 c5 HW3 HE2
      have HPUT2 := Lib.hid (HPUT.out _ HW4.out)
      clear HPUT
      have k0 : (0 : Int) ≤ (n : Int) := by omega
      have k1 : (n : Int) < 3 := by omega
      obtain ⟨z1, d1⟩ : ∃ z, w4.cell? ⟨w2.heap.size, n, none⟩ = some z := by rw [HW4.out.pa.cell n]; exact ⟨_, Array.getElem?_eq_getElem (by simpa using hn3)⟩
      obtain ⟨z2, d2⟩ : ∃ z, w4.cell? ⟨w2.heap.size + 1, n, none⟩ = some z := by rw [HW4.out.qa.cell n]; exact ⟨_, Array.getElem?_eq_getElem (by simpa using hn3)⟩
      have f1 := HW4.out.pa.free
      have f2 := HW4.out.qa.free
      have y1 := HW4.out.pa.lt
      have y2 := HW4.out.qa.lt
      generalize ax a.lo n = lo at *
      generalize ax a.hi n = hi at *
      generalize ax b.lo n = fr at *
      generalize ax b.hi n = tt at *
      by_cases h1 : hi < fr
      · rw [show npA lo hi fr tt = hi from if_pos h1, show npB lo hi fr tt = fr from if_pos h1] at HPUT2
        go_wp2
        go_roundw
        case rel => exact ⟨n + 1, by omega, by go_num, HPUT2.out⟩
        case measure => simp [intOf]; omega
      · by_cases h2 : tt < lo
        · rw [show npA lo hi fr tt = lo from (if_neg h1).trans (if_pos h2), show npB lo hi fr tt = tt from (if_neg h1).trans (if_pos h2)] at HPUT2
          go_wp2
          go_roundw
          case rel => exact ⟨n + 1, by omega, by go_num, HPUT2.out⟩
          case measure => simp [intOf]; omega
        · rw [show npA lo hi fr tt = mx lo fr from (if_neg h1).trans (if_neg h2), show npB lo hi fr tt = mx lo fr from (if_neg h1).trans (if_neg h2)] at HPUT2
          go_wp2
          go_roundw
          case rel => exact ⟨n + 1, by omega, by go_num, HPUT2.out⟩
          case measure => simp [intOf]; omega
    · obtain rfl : n = 3 := by omega
      have HPA := Lib.hid (fun W => point_any (nearP a b) W)
      have HPB := Lib.hid (fun W => point_any (nearQ a b) W)
      have HQA : Hid (nearP a b = ⟨npA a.lo.x a.hi.x b.lo.x b.hi.x, npA a.lo.y a.hi.y b.lo.y b.hi.y, npA a.lo.z a.hi.z b.lo.z b.hi.z⟩) := rfl
      have HQB : Hid (nearQ a b = ⟨npB a.lo.x a.hi.x b.lo.x b.hi.x, npB a.lo.y a.hi.y b.lo.y b.hi.y, npB a.lo.z a.hi.z b.lo.z b.hi.z⟩) := rfl
      have hpa : BlkIs wr w2.heap.size 159 #[.int .i64 (nearP a b).x, .int .i64 (nearP a b).y, .int .i64 (nearP a b).z] := HW.out.pa
      have hqa : BlkIs wr (w2.heap.size + 1) 159 #[.int .i64 (nearQ a b).x, .int .i64 (nearQ a b).y, .int .i64 (nearQ a b).z] := HW.out.qa
      generalize hP : nearP a b = P at *
      generalize hQ : nearQ a b = Q at *
      have HPP := Lib.hid hP
      have HQQ := Lib.hid hQ
      clear hP hQ
      have HPAB := Lib.hid (And.intro hpa hqa)
      have c0 := fun d os => cell_regrown (hpa.cell 0) d os
      have c1 := fun d os => cell_regrown (hpa.cell 1) d os
      have c2 := fun d os => cell_regrown (hpa.cell 2) d os
      have c3 := fun d os => cell_regrown (hqa.cell 0) d os
      have c4 := fun d os => cell_regrown (hqa.cell 1) d os
      have c5 := fun d os => cell_regrown (hqa.cell 2) d os
      clear hpa hqa HQA HQB HEA HEB
      go_wp2_with fail
      refine wp_region_below_tail 4 (by kernel_rfl) (by kernel_rfl) ?_
      simp only [List.take_succ_cons, List.take_zero, List.drop_succ_cons, List.drop_zero]
      repeat (go_big_quiet_step ((first
        | (go_at_call 119; exact Calls.regrown_of (point_any _ _)))))
      refine wpQuiet_nil ?_
      intro _ hw'
      obtain ⟨⟨nq, osq⟩, hw''⟩ := hw'
      subst hw''
      have HB2 : Hid (NeW w a b w2.heap.size 3 (Go.Sort.grow (redrawn wr nq) osq)) := HW.out.after (below_regrown _ nq osq)
      clear c0 c1 c2 c3 c4 c5 HPAB
      generalize Go.Sort.grow (redrawn wr nq) osq = W2 at *
      have e0 := HB2.out.r4.cell 0
      have e1 := HB2.out.r4.cell 1
      have e2 := HB2.out.r4.cell 2
      have ef := HB2.out.r4.free
      have ez := HB2.out.r4.lt
      have g0 := HB2.out.r5.cell 0
      have g1 := HB2.out.r5.cell 1
      have g2 := HB2.out.r5.cell 2
      have gf := HB2.out.r5.free
      have gz := HB2.out.r5.lt
      go_wp2
      refine bodyPost_ret (v := .tuple #[ptv P, ptv Q, .int .i64 0]) (by simp [results, Tryz.results96, go_sem, e0, e1, e2, ef, ez, g0, g1, g2, gf, gz]) rfl ⟨by rw [HPP.out, HQQ.out], ?_⟩
      have h1 := HB2.out.below.setCell (p := ⟨w.heap.size + 2, 0, none⟩) (Nat.le_add_right _ _) (.int .i64 P.x)
      have h2 := h1.setCell (p := ⟨w.heap.size + 2, 1, none⟩) (Nat.le_add_right _ _) (.int .i64 P.y)
      have h3 := h2.setCell (p := ⟨w.heap.size + 2, 2, none⟩) (Nat.le_add_right _ _) (.int .i64 P.z)
      have h4 := h3.setCell (p := ⟨w.heap.size + 3, 0, none⟩) (Nat.le_add_right _ _) (.int .i64 Q.x)
      have h5 := h4.setCell (p := ⟨w.heap.size + 3, 1, none⟩) (Nat.le_add_right _ _) (.int .i64 Q.y)
      exact h5.setCell (p := ⟨w.heap.size + 3, 2, none⟩) (Nat.le_add_right _ _) (.int .i64 Q.z)
end
end
section
section
open Go.RowKit
set_option linter.unusedVariables false
set_option linter.unusedSimpArgs false

theorem bxOk_dec {b : Bx} : bxOk b = true ↔ ((b.lo.x ≤ b.hi.x ∧ -1048576 ≤ b.lo.x ∧ b.hi.x ≤ 1048576) ∧ (b.lo.y ≤ b.hi.y ∧ -1048576 ≤ b.lo.y ∧ b.hi.y ≤ 1048576) ∧ (b.lo.z ≤ b.hi.z ∧ -1048576 ≤ b.lo.z ∧ b.hi.z ≤ 1048576)) := by
  unfold bxOk
  rw [decide_eq_true_eq]
theorem wayB_ok {b : Bx} (h : bxOk b = true) (x : Int) : bxOk (wayB b x) = true := by
  rw [bxOk_dec] at h ⊢
  obtain ⟨⟨h1, h2, h3⟩, ⟨h4, h5, h6⟩, h7, h8, h9⟩ := h
  unfold wayB
  (repeat' split) <;> simp only <;> refine ⟨⟨?_, ?_, ?_⟩, ⟨?_, ?_, ?_⟩, ?_, ?_, ?_⟩ <;> omega
def tooNear (need : Int) (a b : Bx) : Bool := decide (4 * sqN a b 3 < need)
def blkP (A B : List Bx) (x need : Int) : Bool := A.any fun a => B.any fun b => tooNear need (wayB a x) b
theorem blk_iff {A B : List Bx} {x need : Int} : blkP A B x need = true ↔ ∃ a ∈ A, ∃ b ∈ B, 4 * sqN (wayB a x) b 3 < need := by
  unfold blkP tooNear
  simp only [List.any_eq_true, decide_eq_true_eq]
/-- The first pair of a way and a box that are too near. -/
def pairsW (A B : List Bx) (x : Int) : List (Bx × Bx) := A.flatMap fun a => B.map fun b => (wayB a x, b)
def witP (A B : List Bx) (x need : Int) : Option Pt := ((pairsW A B x).find? fun p => tooNear need p.1 p.2).map fun p => nearQ p.1 p.2
theorem pairs_mem {A B : List Bx} {x : Int} {p : Bx × Bx} : p ∈ pairsW A B x ↔ ∃ a ∈ A, ∃ b ∈ B, p = (wayB a x, b) := by
  unfold pairsW
  simp only [List.mem_flatMap, List.mem_map]
  constructor
  · rintro ⟨a, ha, b, hb, rfl⟩; exact ⟨a, ha, b, hb, rfl⟩
  · rintro ⟨a, ha, b, hb, rfl⟩; exact ⟨a, ha, b, hb, rfl⟩
theorem wit_some {A B : List Bx} {x need : Int} {q : Pt} (h : witP A B x need = some q) : ∃ a ∈ A, ∃ b ∈ B, 4 * sqN (wayB a x) b 3 < need ∧ q = nearQ (wayB a x) b := by
  unfold witP at h
  rw [Option.map_eq_some_iff] at h
  obtain ⟨p, hp, rfl⟩ := h
  obtain ⟨a, ha, b, hb, rfl⟩ := pairs_mem.1 (List.mem_of_find?_eq_some hp)
  have ht := List.find?_some hp
  unfold tooNear at ht
  rw [decide_eq_true_eq] at ht
  exact ⟨a, ha, b, hb, ht, rfl⟩
theorem wit_blk (A B : List Bx) (x need : Int) : (witP A B x need).isSome = blkP A B x need := by
  cases h : witP A B x need with
  | some q =>
    obtain ⟨a, ha, b, hb, ht, _⟩ := wit_some h
    exact (blk_iff.2 ⟨a, ha, b, hb, ht⟩).symm
  | none =>
    unfold witP at h
    rw [Option.map_eq_none_iff, List.find?_eq_none] at h
    cases h2 : blkP A B x need with
    | false => rfl
    | true =>
      obtain ⟨a, ha, b, hb, ht⟩ := blk_iff.1 h2
      have := h _ (pairs_mem.2 ⟨a, ha, b, hb, rfl⟩)
      unfold tooNear at this
      exact absurd (decide_eq_true ht) this
end

section
open Go.RowKit
set_option linter.unusedVariables false
set_option linter.unusedSimpArgs false

def blkAt (L : List (List Bx)) (Z : List Int) (x : Int) (i k : Nat) : Bool := blkP (L.getD i []) (L.getD k []) x ((Z.getD i 0 + Z.getD k 0) * (Z.getD i 0 + Z.getD k 0))
def blkL (L : List (List Bx)) (Z : List Int) (x : Int) (i : Nat) (T : List Int) : List Int := T.filter fun k => blkAt L Z x i k.toNat
def waysL (L : List (List Bx)) (Z : List Int) (i : Nat) (T : List Int) : List Int := axesL.filter fun x => (blkL L Z x i T).isEmpty
theorem blkL_snoc (L : List (List Bx)) (Z : List Int) (x : Int) (i : Nat) {T : List Int} {t : Nat} {k : Int} (h : T[t]? = some k) : blkL L Z x i (T.take (t + 1)) = blkL L Z x i (T.take t) ++ if blkAt L Z x i k.toNat then [k] else [] := by
  have hk := (List.getElem?_eq_some_iff.1 h).1
  unfold blkL
  rw [List.take_succ_eq_append_getElem hk, List.filter_append, (List.getElem?_eq_some_iff.1 h).2]
  congr 1
  cases hb : blkAt L Z x i k.toNat <;> simp [hb]
/-- The edges: row i, the k below. -/
def edgR (L : List (List Bx)) (Z : List Int) (x : Int) (i k : Nat) : List (Int × Int) := ((List.range k).filter fun j => decide (i ≠ j) && blkAt L Z x i j).map fun j : Nat => ((i : Int), (j : Int))
def edgL (L : List (List Bx)) (Z : List Int) (X : List Int) (n i : Nat) : List (Int × Int) := (List.range i).flatMap fun j => edgR L Z (X.getD j 0) j n
theorem edgR_succ (L : List (List Bx)) (Z : List Int) (x : Int) (i k : Nat) : edgR L Z x i (k + 1) = edgR L Z x i k ++ if i ≠ k ∧ blkAt L Z x i k = true then [((i : Int), (k : Int))] else [] := by
  unfold edgR
  rw [List.range_succ, List.filter_append, List.map_append]
  congr 1
  by_cases h : i ≠ k ∧ blkAt L Z x i k = true
  · rw [if_pos h]
    simp [h.1, h.2]
  · rw [if_neg h]
    have e : (decide (i ≠ k) && blkAt L Z x i k) = false := by
      cases hb : blkAt L Z x i k with
      | false => simp
      | true =>
        rw [hb] at h
        have : decide (i ≠ k) = false := dec_no fun hne => h ⟨hne, rfl⟩
        rw [this]; rfl
    rw [List.filter_cons, e]
    rfl
theorem edgL_succ (L : List (List Bx)) (Z : List Int) (X : List Int) (n i : Nat) : edgL L Z X n (i + 1) = edgL L Z X n i ++ edgR L Z (X.getD i 0) i n := by
  unfold edgL
  rw [List.range_succ, List.flatMap_append]
  simp
theorem edg_mem {L : List (List Bx)} {Z : List Int} {X : List Int} {n i k : Nat} (hi : i < n) (hk : k < n) (hne : i ≠ k) : ((i : Int), (k : Int)) ∈ edgL L Z X n n ↔ blkAt L Z (X.getD i 0) i k = true := by
  unfold edgL edgR
  simp only [List.mem_flatMap, List.mem_map, List.mem_filter, List.mem_range, Bool.and_eq_true, decide_eq_true_eq, Prod.mk.injEq]
  constructor
  · rintro ⟨j, hj, m, ⟨hm, h1, h2⟩, e1, e2⟩
    obtain rfl : j = i := by omega
    obtain rfl : m = k := by omega
    exact h2
  · intro h
    exact ⟨i, hi, k, ⟨hk, hne, h⟩, rfl, rfl⟩
end

section
open Go.RowKit
set_option linter.unusedVariables false
set_option linter.unusedSimpArgs false
attribute [local go_sem ↓] Go.wp_at_zero Go.wp_at_succ

theorem find_first {α : Type} {p : α → Bool} : ∀ {l : List α} {k : Nat} {x : α}, l[k]? = some x → p x = true → (∀ (j : Nat) y, j < k → l[j]? = some y → p y = false) → l.find? p = some x
  | [], k, x, h, _, _ => by cases h
  | a :: l, 0, x, h, hp, _ => by cases h; rw [List.find?_cons, hp]
  | a :: l, k + 1, x, h, hp, hno => by
    have h0 := hno 0 a (by omega) rfl
    rw [List.find?_cons, h0]
    exact find_first (by simpa using h) hp fun j y hj hy => hno (j + 1) y (by omega) (by simpa using hy)
def NoHit (A B : List Bx) (x need : Int) (i k : Nat) : Prop := ∀ (i' k' : Nat) a b, (i' < i ∨ (i' = i ∧ k' < k)) → A[i']? = some a → B[k']? = some b → tooNear need (wayB a x) b = false
theorem noHit_row {A B : List Bx} {x need : Int} {i : Nat} (h : NoHit A B x need i B.length) : NoHit A B x need (i + 1) 0 := by
  intro i' k' a b hc ha hb
  have hk := (List.getElem?_eq_some_iff.1 hb).1
  refine h i' k' a b ?_ ha hb
  omega
theorem noHit_step {A B : List Bx} {x need : Int} {i k : Nat} {a b : Bx} (h : NoHit A B x need i k) (ha : A[i]? = some a) (hb : B[k]? = some b) (ht : tooNear need (wayB a x) b = false) : NoHit A B x need i (k + 1) := by
  intro i' k' a' b' hc ha' hb'
  by_cases e : i' = i ∧ k' = k
  · obtain ⟨rfl, rfl⟩ := e
    rw [ha] at ha'
    rw [hb] at hb'
    cases ha'
    cases hb'
    exact ht
  · exact h i' k' a' b' (by omega) ha' hb'
theorem wit_first {B : List Bx} {x need : Int} : ∀ {A : List Bx} {i k : Nat} {a b : Bx}, NoHit A B x need i k → A[i]? = some a → B[k]? = some b → tooNear need (wayB a x) b = true → witP A B x need = some (nearQ (wayB a x) b)
  | [], i, k, a, b, _, ha, _, _ => by cases ha
  | a0 :: A, 0, k, a, b, hno, ha, hb, ht => by
    cases ha
    unfold witP pairsW
    rw [List.flatMap_cons, List.find?_append, List.find?_map]
    have : B.find? ((fun p : Bx × Bx => tooNear need p.1 p.2) ∘ fun b => (wayB a0 x, b)) = some b := find_first hb ht fun j y hj hy => hno 0 j a0 y (.inr ⟨rfl, hj⟩) rfl hy
    rw [this]
    rfl
  | a0 :: A, i + 1, k, a, b, hno, ha, hb, ht => by
    have ih := wit_first (A := A) (i := i) (k := k) (a := a) (b := b) (fun i' k' a' b' hc ha' hb' => hno (i' + 1) k' a' b' (by omega) (by simpa using ha') hb') (by simpa using ha) hb ht
    unfold witP pairsW at ih ⊢
    rw [List.flatMap_cons, List.find?_append, List.find?_map]
    have : B.find? ((fun p : Bx × Bx => tooNear need p.1 p.2) ∘ fun b => (wayB a0 x, b)) = none := by
      rw [List.find?_eq_none]
      intro y hy
      obtain ⟨j, hj, rfl⟩ := List.getElem_of_mem hy
      have := hno 0 j a0 B[j] (.inl (by omega)) rfl (List.getElem?_eq_getElem hj)
      simp [this]
    rw [this]
    exact ih
theorem wit_none {A B : List Bx} {x need : Int} (h : NoHit A B x need A.length 0) : witP A B x need = none := by
  unfold witP
  rw [Option.map_eq_none_iff, List.find?_eq_none]
  intro p hp
  obtain ⟨a, ha, b, hb, rfl⟩ := pairs_mem.1 hp
  obtain ⟨i, hi, rfl⟩ := List.getElem_of_mem ha
  obtain ⟨k, hk, rfl⟩ := List.getElem_of_mem hb
  have := h i k A[i] B[k] (.inl hi) (List.getElem?_eq_getElem hi) (List.getElem?_eq_getElem hk)
  simp [this]
theorem sq_bound {a b : Bx} (ha : bxOk a = true) (hb : bxOk b = true) : 0 ≤ sqN a b 3 ∧ sqN a b 3 ≤ 100000000000000 := by
  refine ⟨sqN_nonneg a b, ?_⟩
  rw [bxOk_dec] at ha hb
  obtain ⟨⟨a1, a2, a3⟩, ⟨a4, a5, a6⟩, a7, a8, a9⟩ := ha
  obtain ⟨⟨b1, b2, b3⟩, ⟨b4, b5, b6⟩, b7, b8, b9⟩ := hb
  have key : ∀ lo hi fr tt : Int, lo ≤ hi → fr ≤ tt → -1048576 ≤ lo → hi ≤ 1048576 → -1048576 ≤ fr → tt ≤ 1048576 → gx lo hi fr tt * gx lo hi fr tt ≤ 4398046511104 := by
    intro lo hi fr tt h1 h2 h3 h4 h5 h6
    have g0 := gap_nonneg lo hi fr tt
    have g1 : gx lo hi fr tt ≤ 2097152 := by unfold gx mx; (repeat' split) <;> omega
    have := sq_mono (show 0 ≤ gx lo hi fr tt from g0) g1
    omega
  rw [sqN_eq]
  have := key a.lo.x a.hi.x b.lo.x b.hi.x a1 b1 a2 a3 b2 b3
  have := key a.lo.y a.hi.y b.lo.y b.hi.y a4 b4 a5 a6 b5 b6
  have := key a.lo.z a.hi.z b.lo.z b.hi.z a7 b7 a8 a9 b8 b9
  omega
end
end
end Go.Proofs.YtamogedpgkofjaaGreat
