/-
  Turns: directions of axes, cross products, images of points.
-/
import Derived.Test.YtpidjgljeooblaaRow
import Derived.Deep.RegionHeld3
import Derived.Deep.DrawnRows
import Derived.Deep.DeepCutAuto
import Derived.StillTailTactics
namespace Go.Proofs.Ytpidjgljeooblaa
open Go.RowKit
set_option linter.unusedVariables false
set_option linter.unusedSimpArgs false
attribute [local go_sem ↓] Go.wp_at_zero Go.wp_at_succ

/-- The direction of an axis. -/
def uv (n : Int) : Pt := if n = 1 then ⟨1, 0, 0⟩ else if n = 2 then ⟨0, 1, 0⟩ else if n = 3 then ⟨0, 0, 1⟩ else if n = -1 then ⟨-1, 0, 0⟩ else if n = -2 then ⟨0, -1, 0⟩ else ⟨0, 0, -1⟩
def crossP (a b : Pt) : Pt := ⟨a.y * b.z - a.z * b.y, a.z * b.x - a.x * b.z, a.x * b.y - a.y * b.x⟩
theorem axis_cases {n : Int} (h : axB n = true) : n = 1 ∨ n = 2 ∨ n = 3 ∨ n = -1 ∨ n = -2 ∨ n = -3 := by
  unfold axB at h; rw [decide_eq_true_eq] at h; omega

theorem unit_at (n : Int) (w : World) (h : axB n = true) : Calls Try.prog 113 #[.int .i64 n] w fun e w' => e = .returned (ptv (uv n)) ∧ (w.alloc (.cells #[.int .i64 (uv n).x, .int .i64 (uv n).y, .int .i64 (uv n).z] 128)).alloc (.cells #[.int .i64 (uv n).x, .int .i64 (uv n).y, .int .i64 (uv n).z] 128) = w' := by
  rcases axis_cases h with rfl | rfl | rfl | rfl | rfl | rfl
  all_goals
    clear h
    go_enter Try.func113, Try.ntmps113
    go_wp2
    exact bodyPost_ret (v := ptv (uv _)) (by simp [results, Try.results113, go_sem]; first | rfl | decide) rfl ⟨rfl, rfl⟩

set_option maxHeartbeats 400000 in
theorem cross_any (a b : Pt) (w : World) (ha : PtIn 1 a) (hb : PtIn 1 b) : Calls Try.prog 114 #[ptv a, ptv b] w fun e w' => e = .returned (ptv (crossP a b)) ∧ Below w.heap.size w w' := by
  have key : ∀ x y : Int, -1 ≤ x → x ≤ 1 → -1 ≤ y → y ≤ 1 → -1 ≤ x * y ∧ x * y ≤ 1 := by
    intro x y h1 h2 h3 h4
    obtain rfl | rfl | rfl : x = -1 ∨ x = 0 ∨ x = 1 := by omega
    all_goals omega
  obtain ⟨a1, a2, a3, a4, a5, a6⟩ := ha
  obtain ⟨b1, b2, b3, b4, b5, b6⟩ := hb
  obtain ⟨ax, ay, az⟩ := a
  obtain ⟨bx, by_, bz⟩ := b
  simp only at *
  obtain ⟨c1, c2⟩ := key ay bz a3 a4 b5 b6
  obtain ⟨c3, c4⟩ := key az by_ a5 a6 b3 b4
  obtain ⟨c5, c6⟩ := key az bx a5 a6 b1 b2
  obtain ⟨c7, c8⟩ := key ax bz a1 a2 b5 b6
  obtain ⟨d1, d2⟩ := key ax by_ a1 a2 b3 b4
  obtain ⟨d3, d4⟩ := key ay bx a3 a4 b1 b2
  clear key
  go_enter Try.func114, Try.ntmps114
  go_wp2
  exact bodyPost_ret (v := ptv (crossP _ _)) (by simp [results, Try.results114, go_sem, crossP]) rfl ⟨rfl, by go_grown⟩

theorem uv_bd {n : Int} (h : axB n = true) : PtIn 1 (uv n) := by
  rcases axis_cases h with rfl | rfl | rfl | rfl | rfl | rfl <;> (unfold PtIn; decide)
/-- A block holds a direction. -/
def Holds3 (w : World) (g : Nat) (p : Pt) : Prop := w.cell? ⟨g, 0, none⟩ = some (.int .i64 p.x) ∧ w.cell? ⟨g, 1, none⟩ = some (.int .i64 p.y) ∧ w.cell? ⟨g, 2, none⟩ = some (.int .i64 p.z) ∧ g < w.heap.size
def ColMid (w : World) (x y : Int) (g h : Nat) (w' : World) : Prop := Holds3 w' g (uv x) ∧ Holds3 w' h (uv y) ∧ Below w.heap.size w w' ∧ w.heap.size + 1 < w'.heap.size ∧ g ≠ w.heap.size + 1 ∧ h ≠ w.heap.size + 1 ∧ w'.heap[w.heap.size + 1]? = some (.cells #[.int .i64 0, .int .i64 0, .int .i64 0, .int .i64 0, .int .i64 0, .int .i64 0, .int .i64 0, .int .i64 0, .int .i64 0] 137 (0, 0))

theorem sz9 : (Try.prog.info? 137).map (·.size) = some 9 := by kernel_rfl
theorem six_of {w : World} {g h : Nat} {p q : Pt} (H : Holds3 w g p ∧ Holds3 w h q) :
    w.cell? ⟨g, 0, none⟩ = some (.int .i64 p.x) ∧ w.cell? ⟨g, 1, none⟩ = some (.int .i64 p.y) ∧ w.cell? ⟨g, 2, none⟩ = some (.int .i64 p.z) ∧ w.cell? ⟨h, 0, none⟩ = some (.int .i64 q.x) ∧ w.cell? ⟨h, 1, none⟩ = some (.int .i64 q.y) ∧ w.cell? ⟨h, 2, none⟩ = some (.int .i64 q.z) :=
  ⟨H.1.1, H.1.2.1, H.1.2.2.1, H.2.1, H.2.2.1, H.2.2.2.1⟩
theorem col_after {w W W9 : World} {g h : Nat} {p q : Pt} {o : Obj} (H : Holds3 W g p ∧ Holds3 W h q) (hB : Below w.heap.size w W) (hs : w.heap.size + 1 < W.heap.size) (hz : W.heap[w.heap.size + 1]? = some o) (hb : Below W.heap.size W W9) :
    (Holds3 W9 g p ∧ Holds3 W9 h q) ∧ Below w.heap.size w W9 ∧ W9.heap[w.heap.size + 1]? = some o := by
  obtain ⟨⟨a1, a2, a3, a4⟩, b1, b2, b3, b4⟩ := H
  exact ⟨⟨⟨(hb.cell (p := ⟨g, 0, none⟩) a4).trans a1, (hb.cell (p := ⟨g, 1, none⟩) a4).trans a2, (hb.cell (p := ⟨g, 2, none⟩) a4).trans a3, Nat.lt_of_lt_of_le a4 hb.size⟩,
    (hb.cell (p := ⟨h, 0, none⟩) b4).trans b1, (hb.cell (p := ⟨h, 1, none⟩) b4).trans b2, (hb.cell (p := ⟨h, 2, none⟩) b4).trans b3, Nat.lt_of_lt_of_le b4 hb.size⟩, bstep hB hb, (hb.block _ hs).trans hz⟩
theorem col_store {w W W9 : World} {g h : Nat} {p q : Pt} {o : Obj} (H : Holds3 W g p ∧ Holds3 W h q) (hB : Below w.heap.size w W) (hgh : g ≠ w.heap.size + 1 ∧ h ≠ w.heap.size + 1) (hz : W9.heap[w.heap.size + 1]? = some o) (hb : W.grownBy W9 (some (w.heap.size + 1))) :
    (Holds3 W9 g p ∧ Holds3 W9 h q) ∧ Below w.heap.size w W9 ∧ W9.heap[w.heap.size + 1]? = some o := by
  obtain ⟨⟨a1, a2, a3, a4⟩, b1, b2, b3, b4⟩ := H
  exact ⟨⟨⟨(grown_cell hb a4 hgh.1).trans a1, (grown_cell hb a4 hgh.1).trans a2, (grown_cell hb a4 hgh.1).trans a3, Nat.lt_of_lt_of_le a4 hb.size⟩,
    (grown_cell hb b4 hgh.2).trans b1, (grown_cell hb b4 hgh.2).trans b2, (grown_cell hb b4 hgh.2).trans b3, Nat.lt_of_lt_of_le b4 hb.size⟩, hB.grown hb hB.size (by intro j hj; cases hj; omega), hz⟩
theorem hdrew {W : World} {g h : Nat} {p q : Pt} (H : Holds3 W g p ∧ Holds3 W h q) : Holds3 W.drew g p ∧ Holds3 W.drew h q := H
theorem hset {W : World} {g h G i : Nat} {p q : Pt} {u : Value} (hgh : g ≠ G ∧ h ≠ G) (H : Holds3 W g p ∧ Holds3 W h q) : Holds3 (W.setCell ⟨G, i, none⟩ u) g p ∧ Holds3 (W.setCell ⟨G, i, none⟩ u) h q := by
  obtain ⟨⟨a1, a2, a3, a4⟩, b1, b2, b3, b4⟩ := H
  have k : ∀ (o : Nat), (W.setCell ⟨G, i, none⟩ u).cell? ⟨g, o, none⟩ = W.cell? ⟨g, o, none⟩ := fun o => World.cell?_setCell_other _ _ _ _ (fun e => hgh.1 (by injection e with e1 _; exact e1.symm))
  have l : ∀ (o : Nat), (W.setCell ⟨G, i, none⟩ u).cell? ⟨h, o, none⟩ = W.cell? ⟨h, o, none⟩ := fun o => World.cell?_setCell_other _ _ _ _ (fun e => hgh.2 (by injection e with e1 _; exact e1.symm))
  exact ⟨⟨(k _).trans a1, (k _).trans a2, (k _).trans a3, by simpa using a4⟩, (l _).trans b1, (l _).trans b2, (l _).trans b3, by simpa using b4⟩
set_option maxRecDepth 100000 in
set_option maxHeartbeats 4000000 in
theorem columns_any (x y : Int) (w : World) (hx : axB x = true) (hy : axB y = true) : Calls Try.prog 112 #[.agg #[.int .i64 x, .int .i64 y]] w fun e w' =>
    e = .returned (.agg #[.int .i64 (uv x).x, .int .i64 (uv x).y, .int .i64 (uv x).z, .int .i64 (uv y).x, .int .i64 (uv y).y, .int .i64 (uv y).z, .int .i64 (crossP (uv x) (uv y)).x, .int .i64 (crossP (uv x) (uv y)).y, .int .i64 (crossP (uv x) (uv y)).z]) ∧ Below w.heap.size w w' := by
  have HX := Lib.hid (fun W => unit_at x W hx)
  have HY := Lib.hid (fun W => unit_at y W hy)
  go_enter Try.func112, Try.ntmps112
  go_upto_region 1 with fail
  go_cut [3, 4] (fun s3 s4 wx => ∃ g h, s3 = .pointer (some ⟨g, 0, none⟩) ∧ s4 = .pointer (some ⟨h, 0, none⟩) ∧ Hid (ColMid w x y g h wx))
  case first =>
    go_region_held3 (fun w' => w'.cell? ⟨w.heap.size, 0, none⟩ = some (.int .i64 x) ∧ w'.cell? ⟨w.heap.size, 1, none⟩ = some (.int .i64 y)) ((first | (refine ⟨?_, ?_⟩ <;> (go_simp; done)) | fail))
      (first | (go_at_call 113; (first | (with_reducible refine (HX.out _).mono ?_) | (with_reducible refine (HY.out _).mono ?_)); rintro e w9 ⟨rfl, rfl⟩))
    all_goals
      go_wp2_with fail
      go_meet
      case rel =>
        refine ⟨_, _, rfl, rfl, ⟨?_, ?_, ?_, ?_, ?_, ?_, ?_⟩⟩
        · exact ⟨by go_simp, by go_simp, by go_simp, by simp⟩
        · exact ⟨by go_simp, by go_simp, by go_simp, by simp⟩
        · go_grown
        · simp
        · omega
        · omega
        · show (World.alloc _ _).heap[_]? = _
          iterate 6 rw [Below.heap_alloc _ _ _ (by simp)]
          exact heap_two _ _ _
  case rest =>
    obtain ⟨g, h, rfl, rfl, H⟩ := hcut
    obtain ⟨W1, rfl⟩ : ∃ W1, W1 = wc := ⟨_, rfl⟩
    obtain ⟨hX, hY, hB, hs, hg1, hh1, hb⟩ := H.out
    have HB := Lib.hid hB
    have HCR := Lib.hid (fun W => cross_any (uv x) (uv y) W (uv_bd hx) (uv_bd hy))
    have HD := Lib.hid (And.intro hX hY)
    have HS := Lib.hid hs
    have HZ := Lib.hid hb
    have HGH := Lib.hid (And.intro hg1 hh1)
    clear hB hx hy H hb hg1 hh1 hX hY hs
    go_upto_region 2 with fail
    go_region_held3 (fun w' => w'.cell? ⟨g, 0, none⟩ = some (.int .i64 (uv x).x) ∧ w'.cell? ⟨g, 1, none⟩ = some (.int .i64 (uv x).y) ∧ w'.cell? ⟨g, 2, none⟩ = some (.int .i64 (uv x).z) ∧ w'.cell? ⟨h, 0, none⟩ = some (.int .i64 (uv y).x) ∧ w'.cell? ⟨h, 1, none⟩ = some (.int .i64 (uv y).y) ∧ w'.cell? ⟨h, 2, none⟩ = some (.int .i64 (uv y).z))
      ((first
        | (with_reducible exact six_of (hdrew HD.out))
        | (with_reducible exact six_of HK9.out.1)
        | (with_reducible exact six_of (hset HGH.out (hset HGH.out (hset HGH.out (hset HGH.out (hset HGH.out (hset HGH.out (hset HGH.out (hset HGH.out (hset HGH.out (HK9.out.1)))))))))))
        | fail))
      ((first
        | (go_at_call 114; (with_reducible refine (HCR.out _).mono ?_); rintro e w9 ⟨rfl, hb9⟩; have HK9 := Lib.hid (col_after HD.out HB.out HS.out HZ.out (below_drawn hb9)); have q9 := (fun i => cell_of_row w9 (w.heap.size + 1) i _ _ _ HK9.out.2.2); have f9 := (fun i => frozen_of_row w9 (w.heap.size + 1) i _ _ HK9.out.2.2); clear hb9)
        | fail))
    clear q9 f9
    have h8 := heap_setCells (w.heap.size + 1) 137 [.int .i64 (uv x).x, .int .i64 (uv x).y, .int .i64 (uv x).z, .int .i64 (uv y).x, .int .i64 (uv y).y, .int .i64 (uv y).z, .int .i64 (crossP (uv x) (uv y)).x, .int .i64 (crossP (uv x) (uv y)).y, .int .i64 (crossP (uv x) (uv y)).z] 0 w9 [] [.int .i64 0, .int .i64 0, .int .i64 0, .int .i64 0, .int .i64 0, .int .i64 0, .int .i64 0, .int .i64 0, .int .i64 0] rfl rfl HK9.out.2.2
    have b8 := HK9.out.2.1.grown (grown_setCells (w.heap.size + 1) [.int .i64 (uv x).x, .int .i64 (uv x).y, .int .i64 (uv x).z, .int .i64 (uv y).x, .int .i64 (uv y).y, .int .i64 (uv y).z, .int .i64 (crossP (uv x) (uv y)).x, .int .i64 (crossP (uv x) (uv y)).y, .int .i64 (crossP (uv x) (uv y)).z] 0 w9).1 HK9.out.2.1.size (by intro j hj; cases hj; omega)
    have H8 := Lib.hid (And.intro h8 b8)
    clear h8 b8
    go_wp2
    exact bodyPost_ret (results_cell_row rfl _ _ (w.heap.size + 1) 137 _ (0, 0) _ (by rfl) H8.out.1 Try.underlying137 rfl sz9) rfl ⟨rfl, H8.out.2⟩
end Go.Proofs.Ytpidjgljeooblaa
