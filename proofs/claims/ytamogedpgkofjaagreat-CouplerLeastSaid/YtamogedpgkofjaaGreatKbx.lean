/-
  Base texts, shaken by wip/shake.py: Bxm.
-/
import Derived.Deep.RegionHeld3
import Derived.Deep.DrawnRows
import Derived.Maps.Own
import Derived.Maps.OwnOps
import Derived.Maps.OwnSet
import Derived.StringKeys
import Derived.Test.YtamogedpgkofjaaGreatKld
import Derived.Test.YtamogedpgkofjaaGreatKal
import Derived.Test.YtamogedpgkofjaaGreatKmm
namespace Go.Proofs.YtamogedpgkofjaaGreat
section
section
open Go.RowKit
set_option linter.unusedVariables false
set_option linter.unusedSimpArgs false
attribute [local go_sem ↓] Go.wp_at_zero Go.wp_at_succ

theorem coords_at (p : Pt) (w : World) : Calls Tryz.prog 148 #[ptv p] w fun e w' => e = .returned (ptv p) ∧ (w.alloc (.cells #[.int .i64 p.x, .int .i64 p.y, .int .i64 p.z] 88)).alloc (.cells #[.int .i64 p.x, .int .i64 p.y, .int .i64 p.z] 159) = w' := by
  obtain ⟨x, y, z⟩ := p
  go_enter Tryz.func148, Tryz.ntmps148
  go_wp2
  exact bodyPost_ret (v := ptv _) (by simp [results, Tryz.results148, go_sem]) rfl ⟨rfl, rfl⟩

def ax (p : Pt) (k : Nat) : Int := if k = 0 then p.x else if k = 1 then p.y else p.z
abbrev bxCellsA (b : Bx) : Array Value := #[.int .i64 b.lo.x, .int .i64 b.lo.y, .int .i64 b.lo.z, .int .i64 b.hi.x, .int .i64 b.hi.y, .int .i64 b.hi.z]

set_option maxRecDepth 100000 in
set_option maxHeartbeats 4000000 in
theorem ends_any (b : Bx) (k : Nat) (w : World) (hk : k < 3) : Calls Tryz.prog 118 #[bxv b, .int .i64 (k : Int)] w fun e w' => e = .returned (.tuple #[.int .i64 (ax b.lo k), .int .i64 (ax b.hi k)]) ∧ Below w.heap.size w w' := by
  obtain ⟨⟨lx, ly, lz⟩, ⟨hx, hy, hz⟩⟩ := b
  have HL := Lib.hid (fun W => coords_at ⟨lx, ly, lz⟩ W)
  have HH := Lib.hid (fun W => coords_at ⟨hx, hy, hz⟩ W)
  obtain rfl | rfl | rfl : k = 0 ∨ k = 1 ∨ k = 2 := by omega
  · have i0 : ∀ (a b c : Int) W, (Instr.index 159 (.agg #[.int .i64 a, .int .i64 b, .int .i64 c]) (.int .i64 0)).run Tryz.prog W = .ok (.int .i64 a) W := fun _ _ _ _ => by kernel_rfl
    go_enter Tryz.func118, Tryz.ntmps118
    go_wp2_with fail
    go_region_held3 (fun w' => w'.cell? ⟨w.heap.size, 0, none⟩ = some (.int .i64 lx) ∧ w'.cell? ⟨w.heap.size, 1, none⟩ = some (.int .i64 ly) ∧ w'.cell? ⟨w.heap.size, 2, none⟩ = some (.int .i64 lz) ∧ w'.cell? ⟨w.heap.size, 3, none⟩ = some (.int .i64 hx) ∧ w'.cell? ⟨w.heap.size, 4, none⟩ = some (.int .i64 hy) ∧ w'.cell? ⟨w.heap.size, 5, none⟩ = some (.int .i64 hz))
      ((first | (refine ⟨?_, ?_, ?_, ?_, ?_, ?_⟩ <;> (go_simp; done)) | fail))
      ((first | (go_at_call 148; (first | (with_reducible refine (HL.out _).mono ?_) | (with_reducible refine (HH.out _).mono ?_)); rintro e w9 ⟨rfl, rfl⟩) | fail))
    all_goals
      go_wp2
      go_ret2
      exact ⟨rfl, by go_grown⟩
  · have i0 : ∀ (a b c : Int) W, (Instr.index 159 (.agg #[.int .i64 a, .int .i64 b, .int .i64 c]) (.int .i64 1)).run Tryz.prog W = .ok (.int .i64 b) W := fun _ _ _ _ => by kernel_rfl
    go_enter Tryz.func118, Tryz.ntmps118
    go_wp2_with fail
    go_region_held3 (fun w' => w'.cell? ⟨w.heap.size, 0, none⟩ = some (.int .i64 lx) ∧ w'.cell? ⟨w.heap.size, 1, none⟩ = some (.int .i64 ly) ∧ w'.cell? ⟨w.heap.size, 2, none⟩ = some (.int .i64 lz) ∧ w'.cell? ⟨w.heap.size, 3, none⟩ = some (.int .i64 hx) ∧ w'.cell? ⟨w.heap.size, 4, none⟩ = some (.int .i64 hy) ∧ w'.cell? ⟨w.heap.size, 5, none⟩ = some (.int .i64 hz))
      ((first | (refine ⟨?_, ?_, ?_, ?_, ?_, ?_⟩ <;> (go_simp; done)) | fail))
      ((first | (go_at_call 148; (first | (with_reducible refine (HL.out _).mono ?_) | (with_reducible refine (HH.out _).mono ?_)); rintro e w9 ⟨rfl, rfl⟩) | fail))
    all_goals
      go_wp2
      go_ret2
      exact ⟨rfl, by go_grown⟩
  · have i0 : ∀ (a b c : Int) W, (Instr.index 159 (.agg #[.int .i64 a, .int .i64 b, .int .i64 c]) (.int .i64 2)).run Tryz.prog W = .ok (.int .i64 c) W := fun _ _ _ _ => by kernel_rfl
    go_enter Tryz.func118, Tryz.ntmps118
    go_wp2_with fail
    go_region_held3 (fun w' => w'.cell? ⟨w.heap.size, 0, none⟩ = some (.int .i64 lx) ∧ w'.cell? ⟨w.heap.size, 1, none⟩ = some (.int .i64 ly) ∧ w'.cell? ⟨w.heap.size, 2, none⟩ = some (.int .i64 lz) ∧ w'.cell? ⟨w.heap.size, 3, none⟩ = some (.int .i64 hx) ∧ w'.cell? ⟨w.heap.size, 4, none⟩ = some (.int .i64 hy) ∧ w'.cell? ⟨w.heap.size, 5, none⟩ = some (.int .i64 hz))
      ((first | (refine ⟨?_, ?_, ?_, ?_, ?_, ?_⟩ <;> (go_simp; done)) | fail))
      ((first | (go_at_call 148; (first | (with_reducible refine (HL.out _).mono ?_) | (with_reducible refine (HH.out _).mono ?_)); rintro e w9 ⟨rfl, rfl⟩) | fail))
    all_goals
      go_wp2
      go_ret2
      exact ⟨rfl, by go_grown⟩

def bxOk (b : Bx) : Bool := decide ((b.lo.x ≤ b.hi.x ∧ -1048576 ≤ b.lo.x ∧ b.hi.x ≤ 1048576) ∧ (b.lo.y ≤ b.hi.y ∧ -1048576 ≤ b.lo.y ∧ b.hi.y ≤ 1048576) ∧ (b.lo.z ≤ b.hi.z ∧ -1048576 ≤ b.lo.z ∧ b.hi.z ≤ 1048576))
def axB3 (b : Bx) (k : Nat) : Prop := ax b.lo k ≤ ax b.hi k ∧ -1048576 ≤ ax b.lo k ∧ ax b.hi k ≤ 1048576
theorem bxOk_no {b : Bx} {k : Nat} (hk : k < 3) (h : ¬ axB3 b k) : bxOk b = false := by
  unfold axB3 ax at h
  unfold bxOk
  obtain rfl | rfl | rfl : k = 0 ∨ k = 1 ∨ k = 2 := by omega
  · exact dec_no (fun h2 => h h2.1)
  · exact dec_no (fun h2 => h h2.2.1)
  · exact dec_no (fun h2 => h h2.2.2)
theorem bxOk_yes {b : Bx} (h : ∀ k, k < 3 → axB3 b k) : bxOk b = true := by
  have h0 := h 0 (by omega)
  have h1 := h 1 (by omega)
  have h2 := h 2 (by omega)
  exact dec_yes ⟨h0, h1, h2⟩
theorem bxOk_iff {b : Bx} (h : bxOk b = true) : ∀ k, k < 3 → axB3 b k := by
  intro k hk
  unfold bxOk at h
  rw [decide_eq_true_eq] at h
  obtain rfl | rfl | rfl : k = 0 ∨ k = 1 ∨ k = 2 := by omega
  · exact h.1
  · exact h.2.1
  · exact h.2.2

set_option maxRecDepth 100000 in
set_option maxHeartbeats 2000000 in
theorem bvalid_any (b : Bx) (w : World) : Calls Tryz.prog 116 #[bxv b] w fun e w' => e = .returned (.bool (bxOk b)) ∧ Below w.heap.size w w' := by
  have HE := Lib.hid (fun k hk W => ends_any b k W hk)
  have HN := Lib.hid (fun k hk => bxOk_no (b := b) (k := k) hk)
  have HY := Lib.hid (bxOk_yes (b := b))
  have HX : Hid (∀ k, axB3 b k = (ax b.lo k ≤ ax b.hi k ∧ -1048576 ≤ ax b.lo k ∧ ax b.hi k ≤ 1048576)) := fun _ => rfl
  generalize bxOk b = ok at *
  go_enter Tryz.func116, Tryz.ntmps116
  go_wp2
  go_loopw [6] (fun i wr => ∃ k : Nat, k ≤ 3 ∧ i = .int .i64 k ∧ Below w.heap.size w wr ∧ BlkIs wr w.heap.size 134 (bxCellsA b) ∧ Hid (∀ j, j < k → axB3 b j)) (fun i _ => 3 - (intOf i).toNat)
  case atStart => exact ⟨0, by omega, rfl, below_new _ _, BlkIs.new _ _ _, fun j hj => by omega⟩
  case round =>
    obtain ⟨k, hk, rfl, hB, hX, hA⟩ := hrel
    by_cases hk2 : k < 3
    · have c0 := hX.cell 0
      have c1 := hX.cell 1
      have c2 := hX.cell 2
      have c3 := hX.cell 3
      have c4 := hX.cell 4
      have c5 := hX.cell 5
      have HEK := Lib.hid (HE.out k hk2)
      have HNK := Lib.hid (HN.out k hk2)
      have HXK := Lib.hid (HX.out k)
      have HB := Lib.hid hB
      have HXB := Lib.hid hX
      generalize hlo : ax b.lo k = lo at *
      generalize hhi : ax b.hi k = hi at *
      clear hB hX hlo hhi
      go_wp2_with fail
      refine (HEK.out _).mono ?_
      rintro e w9 ⟨rfl, hb9⟩
      have HB9 := Lib.hid (bstep HB.out hb9)
      have HX9 := Lib.hid (HXB.out.below hb9)
      clear hb9 c0 c1 c2 c3 c4 c5
      by_cases h1 : hi < lo
      · have HF := Lib.hid (HNK.out (by rw [HXK.out]; omega))
        go_wp2
        go_ret
        exact ⟨ret_bool HF.out.symm, HB9.out⟩
      · by_cases h2 : lo < -1048576
        · have HF := Lib.hid (HNK.out (by rw [HXK.out]; omega))
          go_wp2
          go_ret
          exact ⟨ret_bool HF.out.symm, HB9.out⟩
        · by_cases h3 : 1048576 < hi
          · have HF := Lib.hid (HNK.out (by rw [HXK.out]; omega))
            go_wp2
            go_ret
            exact ⟨ret_bool HF.out.symm, HB9.out⟩
          · have HT := Lib.hid (show axB3 b k by rw [HXK.out]; omega)
            go_wp2
            go_roundw
            case rel => exact ⟨k + 1, by omega, by go_num, HB9.out, HX9.out, fun j hj => by
              by_cases e : j = k
              · rw [e]; exact HT.out
              · exact hA.out j (by omega)⟩
            case measure => simp [intOf]; omega
    · have HT := Lib.hid (HY.out (fun j hj => hA.out j (by omega)))
      go_wp2
      go_ret
      exact ⟨ret_bool HT.out.symm, hB⟩

theorem ball1_any (b : Bx) (w : World) : Calls Tryz.prog 146 #[bxv b] w fun e w' => e = .returned (.bool (!bxOk b)) ∧ Below w.heap.size w w' := by
  have H := Lib.hid (bvalid_any b _ : Calls Tryz.prog 116 #[bxv b] (w.alloc (.cells (bxCellsA b) 134)) _)
  generalize bxOk b = ok at *
  go_enter Tryz.func146, Tryz.ntmps146
  go_wp2_with fail
  refine H.out.mono ?_
  rintro e w9 ⟨rfl, hb9⟩
  have HB := Lib.hid (bstep (below_new _ _) hb9)
  clear hb9
  go_wp2
  go_ret
  exact ⟨rfl, HB.out⟩

set_option maxRecDepth 100000 in
set_option maxHeartbeats 1000000 in
theorem indexBad_any (v : Value) (l : List Bx) (w : World) (hp : Bxs w v l) (hl : l.length ≤ 140737488355328) :
    Calls Tryz.prog 183 #[v, .func (.func 146) #[] #[]] w fun e w' => (∃ i : Int, e = .returned (.int .i64 i) ∧ decide (0 ≤ i) = !l.all bxOk) ∧ Below w.heap.size w w' := by
  obtain ⟨ao, cap, rfl⟩ := hp.at_
  have HP := Lib.hid hp
  have hF : ∀ (xs : Array Value) (W : World), (callFunc 146 xs).run Tryz.prog W = .ok (.enter 146 xs) W := fun xs W => by go_simp
  clear hp
  go_enter Tryz.func183, Tryz.ntmps183
  go_wp2
  go_loopw [5, 8] (fun _ i wr => ∃ k : Nat, k ≤ l.length ∧ i = .int .i64 k ∧ Below w.heap.size w wr ∧ Hid (∀ (j : Nat) y, j < k → l[j]? = some y → bxOk y = true)) (fun _ i _ => l.length - (intOf i).toNat)
  case atStart => exact ⟨0, Nat.zero_le _, rfl, Below.refl _ _, fun j _ hj => by omega⟩
  case round =>
    obtain ⟨k, hk, rfl, hBr, hno⟩ := hrel
    by_cases hk2 : k < l.length
    · obtain ⟨x, hy⟩ : ∃ y, l[k]? = some y := ⟨_, List.getElem?_eq_getElem hk2⟩
      obtain ⟨b, off, rfl, hbl, c0, c1, c2, c3, c4, c5⟩ := bxs_get (HP.out.below hBr) hy
      have HK := Lib.hid (ball1_any x wr)
      have HY := Lib.hid hy
      obtain ⟨q, hq⟩ : ∃ q, bxOk x = q := ⟨_, rfl⟩
      rw [hq] at HK
      have HQ := Lib.hid hq
      clear hy hq
      cases q
      · have HR := Lib.hid (show l.all bxOk = false from List.all_eq_false.2 ⟨x, List.mem_of_getElem? HY.out, by rw [HQ.out]; simp⟩)
        go_wp2_with fail
        refine HK.out.mono ?_
        rintro e w9 ⟨rfl, hb9⟩
        have hB9 := bstep hBr hb9
        go_wp2
        go_ret
        exact ⟨⟨k, rfl, by rw [HR.out]; simp⟩, hB9⟩
      · go_wp2_with fail
        refine HK.out.mono ?_
        rintro e w9 ⟨rfl, hb9⟩
        have hB9 := bstep hBr hb9
        go_wp2
        go_roundw
        case rel => exact ⟨k + 1, by omega, by go_num, hB9, fun j z hj hz => by
          by_cases e : j = k
          · subst e; rw [HY.out] at hz; cases hz; exact HQ.out
          · exact hno j z (by omega) hz⟩
        case measure => simp [intOf]; omega
    · have HR := Lib.hid (show l.all bxOk = true from List.all_eq_true.2 fun x hx => by
        obtain ⟨j, hj, rfl⟩ := List.getElem_of_mem hx
        exact hno j _ (by omega) (List.getElem?_eq_getElem hj))
      go_wp2
      go_ret
      exact ⟨⟨-1, rfl, by rw [HR.out]; rfl⟩, hBr⟩
theorem ball_any (v : Value) (l : List Bx) (w : World) (hp : Bxs w v l) (hl : l.length ≤ 140737488355328) :
    Calls Tryz.prog 114 #[v] w fun e w' => e = .returned (.bool (l.all bxOk)) ∧ Below w.heap.size w w' := by
  have HC : Hid (Calls Tryz.prog 145 #[v, .func (.func 146) #[] #[]] w fun e w' => e = .returned (.bool (!l.all bxOk)) ∧ Below w.heap.size w w') := by
    have HI := Lib.hid (indexBad_any v l w hp hl)
    show Calls _ _ _ _ _
    go_enter Tryz.func145, Tryz.ntmps145
    go_wp2_with fail
    refine HI.out.mono ?_
    rintro e w9 ⟨⟨i, rfl, hi⟩, hb1⟩
    have HR := Lib.hid hi
    clear hi
    go_wp2
    go_ret
    exact ⟨ret_bool HR.out, hb1⟩
  generalize l.all bxOk = ok at *
  clear hp
  go_enter Tryz.func114, Tryz.ntmps114
  go_wp2_with fail
  refine HC.out.mono ?_
  rintro e w9 ⟨rfl, hb1⟩
  have HB := Lib.hid hb1
  clear hb1
  go_wp2
  go_ret
  exact ⟨ret_bool (by simp), HB.out⟩
end

section
open Go.RowKit
set_option linter.unusedVariables false
set_option linter.unusedSimpArgs false

def mn (a b : Int) : Int := if b < a then b else a
def mx (a b : Int) : Int := if a < b then b else a
def hull2 (a b : Bx) : Bx := ⟨⟨mn a.lo.x b.lo.x, mn a.lo.y b.lo.y, mn a.lo.z b.lo.z⟩, ⟨mx a.hi.x b.hi.x, mx a.hi.y b.hi.y, mx a.hi.z b.hi.z⟩⟩
def hullN (x : Bx) (l : List Bx) (k : Nat) : Bx := (l.take k).foldl hull2 x
theorem hullN_succ {x : Bx} {l : List Bx} {k : Nat} {y : Bx} (h : l[k]? = some y) : hullN x l (k + 1) = hull2 (hullN x l k) y := by
  have hk := (List.getElem?_eq_some_iff.1 h).1
  unfold hullN
  rw [List.take_succ_eq_append_getElem hk, List.foldl_append, (List.getElem?_eq_some_iff.1 h).2]
  rfl
abbrev set6 (w : World) (g : Nat) (a b c d e f : Value) : World := (((((w.setCell ⟨g, 0, none⟩ a).setCell ⟨g, 1, none⟩ b).setCell ⟨g, 2, none⟩ c).setCell ⟨g, 3, none⟩ d).setCell ⟨g, 4, none⟩ e).setCell ⟨g, 5, none⟩ f
theorem blk_set6 {w : World} {g : Nat} {t : TypeId} {a0 a1 a2 a3 a4 a5 : Value} (h : BlkIs w g t #[a0, a1, a2, a3, a4, a5]) (a b c d e f : Value) : BlkIs (set6 w g a b c d e f) g t #[a, b, c, d, e, f] :=
  (((((h.set 0 a).set 1 b).set 2 c).set 3 d).set 4 e).set 5 f
theorem grown_set6 (w : World) (g : Nat) (a b c d e f : Value) : w.grownBy (set6 w g a b c d e f) (some g) :=
  only_trans (only_trans (only_trans (only_trans (only_trans (only_set w g _ a) (only_set _ g _ b)) (only_set _ g _ c)) (only_set _ g _ d)) (only_set _ g _ e)) (only_set _ g _ f)
theorem blk_far6 {w : World} {g G : Nat} {t : TypeId} {cs : Array Value} (h : BlkIs w g t cs) (hne : g ≠ G) (a b c d e f : Value) : BlkIs (set6 w G a b c d e f) g t cs :=
  (((((h.far hne a).far hne b).far hne c).far hne d).far hne e).far hne f
structure HullW (w : World) (H : Nat) (cur : Bx) (wr : World) : Prop where
  below : Below w.heap.size w wr
  hH : w.heap.size < H
  res : BlkIs wr w.heap.size 134 #[.int .i64 0, .int .i64 0, .int .i64 0, .int .i64 0, .int .i64 0, .int .i64 0]
  cur : BlkIs wr H 134 (bxCellsA cur)
theorem HullW.next {w : World} {H : Nat} {cur y : Bx} {wr : World} (h : HullW w H cur wr) (ob : Obj) :
    HullW w H (hull2 cur y) ((set6 wr H (.int .i64 (mn cur.lo.x y.lo.x)) (.int .i64 (mn cur.lo.y y.lo.y)) (.int .i64 (mn cur.lo.z y.lo.z)) (.int .i64 (mx cur.hi.x y.hi.x)) (.int .i64 (mx cur.hi.y y.hi.y)) (.int .i64 (mx cur.hi.z y.hi.z))).alloc ob) := by
  have hH := h.hH
  have hg := grown_set6 wr H (.int .i64 (mn cur.lo.x y.lo.x)) (.int .i64 (mn cur.lo.y y.lo.y)) (.int .i64 (mn cur.lo.z y.lo.z)) (.int .i64 (mx cur.hi.x y.hi.x)) (.int .i64 (mx cur.hi.y y.hi.y)) (.int .i64 (mx cur.hi.z y.hi.z))
  exact ⟨(h.below.grown hg h.below.size (fun g e => by cases e; omega)).alloc (Nat.le_trans h.below.size hg.size) _, hH, (blk_far6 h.res (by omega) _ _ _ _ _ _).alloc _, (blk_set6 h.cur _ _ _ _ _ _).alloc _⟩

set_option maxRecDepth 100000 in
set_option maxHeartbeats 4000000 in
theorem bhull_any (v : Value) (l : List Bx) (x : Bx) (w : World) (hp : Bxs w v l) (hl : l.length ≤ 140737488355328) (hx : l[0]? = some x) (hv : l.all bxOk = true) :
    Calls Tryz.prog 92 #[v] w fun e w' => e = .returned (.tuple #[bxv (hullN x l l.length), .int .i64 0]) ∧ Below w.heap.size w w' := by
  obtain ⟨ao, cap, rfl⟩ := hp.at_
  have HP := Lib.hid hp
  have HA := Lib.hid (ball_any _ l _ (hp.below (below_new _ (.cells #[.int .i64 0, .int .i64 0, .int .i64 0, .int .i64 0, .int .i64 0, .int .i64 0] 134))) hl)
  rw [hv] at HA
  have hl0 : 0 < l.length := (List.getElem?_eq_some_iff.1 hx).1
  have hl1 : ((l.length : Int) == 0) = false := beq_no (by omega)
  have HX := Lib.hid hx
  clear hp hv hx
  go_enter Tryz.func92, Tryz.ntmps92
  go_wp2_with fail
  refine HA.out.mono ?_
  rintro e w1 ⟨rfl, hb1⟩
  have HB1 := Lib.hid (bstep (below_new _ _) hb1)
  have HR1 := Lib.hid ((BlkIs.new w _ _).below hb1)
  obtain ⟨b, off, rfl, hbl, c0, c1, c2, c3, c4, c5⟩ := bxs_get (HP.out.below HB1.out) HX.out
  have i0 : (0 : Int) < (l.length : Int) := by omega
  clear hb1
  rw [Nat.zero_mul, Nat.add_zero] at c0 c1 c2 c3 c4 c5
  go_wp2_with fail
  have H0 : Hid (HullW w w1.heap.size (hullN x l 0) (w1.alloc (.cells (bxCellsA x) 134))) := ⟨HB1.out.alloc HB1.out.size _, HR1.out.lt, HR1.out.alloc _, BlkIs.new _ _ _⟩
  clear c0 c1 c2 c3 c4 c5 HA
  go_loopw [22] (fun i wr => ∃ k : Nat, k ≤ l.length ∧ i = .int .i64 k ∧ HullW w w1.heap.size (hullN x l k) wr) (fun i _ => l.length - (intOf i).toNat)
  case atStart => exact ⟨0, Nat.zero_le _, rfl, H0.out⟩
  case round =>
    obtain ⟨k, hk, rfl, HI⟩ := hrel
    by_cases hk2 : k < l.length
    · obtain ⟨y, hy⟩ : ∃ y, l[k]? = some y := ⟨_, List.getElem?_eq_getElem hk2⟩
      obtain ⟨bb, boff, e, hbl2, c0, c1, c2, c3, c4, c5⟩ := bxs_get (HP.out.below HI.below) hy
      cases e
      have HS := Lib.hid (hullN_succ (x := x) hy)
      generalize hullN x l k = cur at *
      have HN := Lib.hid (HI.next (y := y) (.cells (bxCellsA y) 134))
      have d0 := HI.cur.cell 0
      have d1 := HI.cur.cell 1
      have d2 := HI.cur.cell 2
      have d3 := HI.cur.cell 3
      have d4 := HI.cur.cell 4
      have d5 := HI.cur.cell 5
      have df := HI.cur.free
      have dz := HI.cur.lt
      clear hy
      go_wp2
      go_roundw
      case rel => exact ⟨k + 1, by omega, by go_num, by rw [HS.out]; exact HN.out⟩
      case measure => simp [intOf]; omega
    · obtain rfl : k = l.length := by omega
      generalize hq : hullN x l l.length = cur at *
      have HQ := Lib.hid hq
      clear hq
      have d0 := HI.cur.cell 0
      have d1 := HI.cur.cell 1
      have d2 := HI.cur.cell 2
      have d3 := HI.cur.cell 3
      have d4 := HI.cur.cell 4
      have d5 := HI.cur.cell 5
      have e0 := HI.res.cell 0
      have e1 := HI.res.cell 1
      have e2 := HI.res.cell 2
      have e3 := HI.res.cell 3
      have e4 := HI.res.cell 4
      have e5 := HI.res.cell 5
      have ef := HI.res.free
      have HII := Lib.hid HI
      clear HI
      go_wp2
      refine bodyPost_ret (v := .tuple #[bxv cur, .int .i64 0]) (by simp [results, Tryz.results92, go_sem, e0, e1, e2, e3, e4, e5, ef]) rfl ⟨by rw [HQ.out], ?_⟩
      exact HII.out.below.grown (grown_set6 _ _ _ _ _ _ _ _) HII.out.below.size (fun g e => by cases e; exact Nat.le_refl _)
end

section
open Go.RowKit
set_option linter.unusedVariables false
set_option linter.unusedSimpArgs false

def pb (p : Pt) : Bx := ⟨p, p⟩
def OwnBxs (w : World) (base : Nat) (v : Value) (l : List Bx) : Prop := OwnN w base 134 6 bxCells v l

set_option maxRecDepth 100000 in
set_option maxHeartbeats 2000000 in
theorem points_any (v : Value) (l : List Pt) (w : World) (hp : Pts w v l) (hl : l.length ≤ 1000000) :
    Calls Tryz.prog 93 #[v] w fun e w' => ∃ o, e = .returned o ∧ Hid (OwnBxs w' w.heap.size o (l.map pb)) ∧ Below w.heap.size w w' := by
  obtain ⟨ao, cap, rfl⟩ := hp.at_
  have HP := Lib.hid hp
  clear hp
  go_enter Tryz.func93, Tryz.ntmps93
  go_wp2
  go_loopw [3, 8] (fun o i wr => ∃ k : Nat, k ≤ l.length ∧ i = .int .i64 k ∧ Below w.heap.size w wr ∧ OwnBxs wr w.heap.size o ((l.take k).map pb)) (fun _ i _ => l.length - (intOf i).toNat)
  case atStart => exact ⟨0, Nat.zero_le _, rfl, Below.refl _ _, OwnN.nil _ _ _ _ _⟩
  case round =>
    obtain ⟨k, hk, rfl, hBr, hown⟩ := hrel
    by_cases hk2 : k < l.length
    · obtain ⟨p, hy⟩ : ∃ y, l[k]? = some y := ⟨_, List.getElem?_eq_getElem hk2⟩
      obtain ⟨b, off, rfl, hbl, c0, c1, c2⟩ := pts_get (HP.out.below hBr) hy
      have HM := Lib.hid (snoc_map pb hy)
      have HB := Lib.hid (hBr.alloc hBr.size (.cells #[.int .i64 p.x, .int .i64 p.y, .int .i64 p.z] 88))
      have HO := Lib.hid (OwnN.alloc hown (.cells #[.int .i64 p.x, .int .i64 p.y, .int .i64 p.z] 88))
      have hl2 : ((l.take k).map pb).length + 1 ≤ 1099511627776 := by simp; omega
      have hbase : w.heap.size ≤ wr.heap.size + 1 := by have := hBr.size; omega
      clear hy hBr hown
      go_wp2_with (at_builtin; refine wpList_pushAt _ (wr.heap.size + 1) (by simp) rfl _ _ 71 rfl 134 6 48 elemBx w.heap.size bxCells _ _ (pb p) _ rfl rfl (bx_one _) HO.out rfl rfl hl2 (by omega) hbase ?_; intro v' w' hown' hg' hat'; have HO9 := Lib.hid hown'; have HB9 := Lib.hid (HB.out.grown hg' HB.out.size (fun j hj => (HO.out.lt j hj).1)); clear hown' hg' hat')
      go_roundw
      case rel => exact ⟨k + 1, by omega, by go_num, HB9.out, by rw [HM.out]; exact HO9.out⟩
      case measure => simp [intOf]; omega
    · obtain rfl : k = l.length := by omega
      rw [List.take_length] at hown
      have HO := Lib.hid hown
      have HB := Lib.hid hBr
      clear hown hBr
      go_wp2
      go_ret
      exact ⟨_, rfl, HO.out, HB.out⟩

def legB (a b : Pt) : Bx := hullN (pb a) [pb a, pb b] 2
def legsN (q : List Pt) (k : Nat) : List Bx := (List.range k).map fun j => legB (q.getD j ⟨0, 0, 0⟩) (q.getD (j + 1) ⟨0, 0, 0⟩)
def hullP (q : List Pt) : Bx := hullN (pb (q.getD 0 ⟨0, 0, 0⟩)) (q.map pb) (q.map pb).length
theorem legsN_succ (q : List Pt) (k : Nat) : legsN q (k + 1) = legsN q k ++ [legB (q.getD k ⟨0, 0, 0⟩) (q.getD (k + 1) ⟨0, 0, 0⟩)] := by unfold legsN; rw [List.range_succ, List.map_append]; rfl
theorem legsN_len (q : List Pt) (k : Nat) : (legsN q k).length = k := by simp [legsN]
theorem pb_ok {p : Pt} (h : ptIn 1048576 p = true) : bxOk (pb p) = true := by
  rw [ptIn_iff] at h
  obtain ⟨h1, h2, h3, h4, h5, h6⟩ := h
  exact dec_yes ⟨⟨Int.le_refl _, h1, h2⟩, ⟨Int.le_refl _, h3, h4⟩, ⟨Int.le_refl _, h5, h6⟩⟩

/-- All points of a laid bar lie within the space. -/
theorem lin_bd {x k c s : Int} (h0 : 0 ≤ k) (h1 : k ≤ c) (a1 : -1048576 ≤ x) (a2 : x ≤ 1048576) (b1 : -1048576 ≤ x + c * s) (b2 : x + c * s ≤ 1048576) : -1048576 ≤ x + k * s ∧ x + k * s ≤ 1048576 := by
  rcases Int.le_total 0 s with hs | hs
  · have e1 : k * s ≤ c * s := Int.mul_le_mul_of_nonneg_right h1 hs
    have e2 : 0 ≤ k * s := Int.mul_nonneg h0 hs
    omega
  · have e1 : k * (-s) ≤ c * (-s) := Int.mul_le_mul_of_nonneg_right h1 (by omega)
    have e2 : 0 ≤ k * (-s) := Int.mul_nonneg h0 (by omega)
    rw [Int.mul_neg, Int.mul_neg] at e1
    rw [Int.mul_neg] at e2
    omega
theorem shift_near {r : RunD} {p : Pt} {k : Nat} (hk : (k : Int) < r.count) (h0 : ptIn 1048576 (shiftP r (kOf r.count 0) p) = true) (h1 : ptIn 1048576 (shiftP r (kOf r.count 1) p) = true) : ptIn 1048576 (shiftP r (k : Int) p) = true := by
  have e0 : kOf r.count 0 = 0 := rfl
  have e1 : kOf r.count 1 = r.count - 1 := rfl
  rw [e0] at h0
  rw [e1] at h1
  rw [ptIn_iff] at h0 h1 ⊢
  by_cases hk0 : 0 < k
  · unfold shiftP at h0 h1 ⊢
    rw [if_neg (by omega)] at h0
    rw [if_pos (by omega)] at h1
    rw [if_pos (by omega)]
    obtain ⟨a1, a2, a3, a4, a5, a6⟩ := h0
    obtain ⟨b1, b2, b3, b4, b5, b6⟩ := h1
    have c1 := lin_bd (k := (k : Int)) (by omega) (by omega : (k : Int) ≤ r.count - 1) a1 a2 b1 b2
    have c2 := lin_bd (k := (k : Int)) (by omega) (by omega : (k : Int) ≤ r.count - 1) a3 a4 b3 b4
    have c3 := lin_bd (k := (k : Int)) (by omega) (by omega : (k : Int) ≤ r.count - 1) a5 a6 b5 b6
    exact ⟨c1.1, c1.2, c2.1, c2.2, c3.1, c3.2⟩
  · obtain rfl : k = 0 := by omega
    exact h0
theorem laid_near {l : List BarD} {rs : List RunD} (h : laidOk l rs = true) {i : Nat} {q : List Pt} (hq : (laidPts l rs)[i]? = some q) : q.all (ptIn 1048576) = true ∧ q.length ≤ 7 ∧ 0 < q.length := by
  obtain ⟨q1, q2, q3, q4⟩ := laidOk_parts h
  have hm := List.mem_of_getElem? hq
  unfold laidPts at hm
  obtain ⟨r, hr, hm2⟩ := List.mem_flatMap.1 hm
  obtain ⟨k, hk, rfl⟩ := List.mem_map.1 hm2
  rw [List.mem_range] at hk
  obtain ⟨b, r1, r2, r3, r4, r5, r6, r7, r8, r9⟩ := right_parts q1 (q3 r hr)
  have e : barPts l r k = (turnedOf b r).map (shiftP r (k : Int)) := by unfold barPts ptsOf; rw [r1]
  have el : (turnedOf b r).length = (pathOf b).length := by unfold turnedOf; rw [List.length_map]
  rw [e]
  refine ⟨?_, ?_, ?_⟩
  · rw [List.all_eq_true]
    intro p hp
    obtain ⟨t, ht, rfl⟩ := List.mem_map.1 hp
    exact shift_near (by omega) (List.all_eq_true.1 r8 t ht) (List.all_eq_true.1 r9 t ht)
  · rw [List.length_map, el]; exact path_len
  · rw [List.length_map, el]; unfold pathOf; rw [pathN_len]; omega

theorem take2 {q : List Pt} {t : Nat} {a b : Pt} (ha : q[t]? = some a) (hb : q[t + 1]? = some b) : (q.drop t).take 2 = [a, b] := by
  have h1 := (List.getElem?_eq_some_iff.1 ha).1
  have h2 := (List.getElem?_eq_some_iff.1 hb).1
  rw [List.drop_eq_getElem_cons h1, List.drop_eq_getElem_cons h2, (List.getElem?_eq_some_iff.1 ha).2, (List.getElem?_eq_some_iff.1 hb).2]
  rfl
def LegsPost (w : World) (l : List BarD) (rs : List RunD) (i : Int) (e : Ending) (w' : World) : Prop :=
  (∃ (q : List Pt) (v : Value), 0 ≤ i ∧ (laidPts l rs)[i.toNat]? = some q ∧ e = .returned (.tuple #[v, .int .i64 0]) ∧ OwnBxs w' w.heap.size v (legsN q (q.length - 1)) ∧ Below w.heap.size w w') ∨
  ((i < 0 ∨ (cumN rs : Int) ≤ i) ∧ e = .returned (.tuple #[.slice none 0 0, .int .i64 2]) ∧ Below w.heap.size w w')

set_option maxRecDepth 100000 in
set_option maxHeartbeats 4000000 in
theorem legs_good (v vr : Value) (i : Int) (l : List BarD) (rs : List RunD) (w : World) (hp : Bars w v l) (hr : Runs w vr rs) (hl : l.length ≤ 140737488355328) (hlr : rs.length ≤ 140737488355328) (hf : FitB l) (h : laidOk l rs = true) :
    Calls Tryz.prog 68 #[v, vr, .int .i64 i] w (LegsPost w l rs i) := by
  have HG := Lib.hid (path_good v vr i l rs w hp hr hl hlr hf h)
  have HN := Lib.hid (fun k q (hq : (laidPts l rs)[k]? = some q) => laid_near h hq)
  clear hp hr h
  go_enter Tryz.func68, Tryz.ntmps68
  go_wp2_with fail
  refine HG.out.mono ?_
  rintro e w1 (⟨q, o, hi0, hq, rfl, ho, hb1⟩ | ⟨hi, rfl, hb1⟩)
  · obtain ⟨n1, n2, n3⟩ := HN.out _ _ hq
    obtain ⟨oo, oc, rfl⟩ := OwnN.shape ho
    have HO := Lib.hid ho
    have HNR := Lib.hid (List.all_eq_true.1 n1)
    have HQ := Lib.hid (And.intro hi0 hq)
    have HB1 := Lib.hid hb1
    clear hb1 hi0 hq n1 ho
    go_wp2_with fail
    go_loopw [10, 11] (fun o i wr => ∃ t : Nat, t + 1 ≤ q.length ∧ i = .int .i64 ((t : Int) + 1) ∧ Below w1.heap.size w1 wr ∧ OwnBxs wr w1.heap.size o (legsN q t)) (fun _ i _ => q.length - (intOf i).toNat)
    case atStart => exact ⟨0, by omega, rfl, Below.refl _ _, OwnN.nil _ _ _ _ _⟩
    case round =>
      obtain ⟨t, ht, rfl, hBr, hown⟩ := hrel
      by_cases hlt : t + 1 < q.length
      · obtain ⟨g, gcap, hv, hlt2, hbg⟩ : ∃ g cap, (Value.slice oo q.length oc) = .slice (some ⟨g, 0, none⟩) q.length cap ∧ q.length ≤ cap ∧ g < w1.heap.size := by
          rcases HO.out.2 with ⟨h', h0⟩ | ⟨g, cap', cur, h', hb, hg, hcap, _⟩
          · omega
          · exact ⟨g, cap', h', hcap, (Array.getElem?_eq_some_iff.1 hg).1⟩
        cases hv
        have t0 : (0 : Int) ≤ (t : Int) := Int.natCast_nonneg _
        have t1 : (t : Int) + 1 < (q.length : Int) := by omega
        have t2 : (t : Int) + 1 + 1 ≤ (oc : Int) := by omega
        have tt1 : decide ((t : Int) + 1 < (q.length : Int)) = true := dec_yes t1
        have HBr := Lib.hid hBr
        have HOr := Lib.hid hown
        obtain ⟨a, ha⟩ : ∃ y, q[t]? = some y := ⟨_, List.getElem?_eq_getElem (by omega)⟩
        obtain ⟨b, hb⟩ : ∃ y, q[t + 1]? = some y := ⟨_, List.getElem?_eq_getElem hlt⟩
        have PS : Hid (Pts wr (.slice (some ⟨g, t * 3, none⟩) (t + 1 + 1 - t) (oc - t)) [a, b]) := by
          have h1 := Fl.drop_ ((OwnN.fl pt_len HO.out).below hBr) t (oc - t) (by omega)
          have h2 := h1.take_ 2 (oc - t) (by omega)
          rw [show (q.drop t).take 2 = [a, b] from take2 ha hb, Nat.zero_add] at h2
          rw [show t + 1 + 1 - t = 2 by omega]
          exact h2
        have HAB : Hid (bxOk (pb a) = true ∧ bxOk (pb b) = true) := ⟨pb_ok (HNR.out a (List.mem_of_getElem? ha)), pb_ok (HNR.out b (List.mem_of_getElem? hb))⟩
        have HST : Hid (legsN q (t + 1) = legsN q t ++ [legB a b]) := by
          show legsN q (t + 1) = _
          rw [legsN_succ, List.getD_eq_getElem?_getD, List.getD_eq_getElem?_getD, ha, hb]; rfl
        have HPO := Lib.hid (points_any _ [a, b] wr PS.out (by simp))
        clear hBr hown ha hb
        go_wp2_with fail
        refine HPO.out.mono ?_
        rintro e w5 ⟨o5, rfl, HO5, hb5⟩
        have HBH := Lib.hid (bhull_any o5 [pb a, pb b] (pb a) w5 (OwnN.fl bx_len HO5.out) (by simp) rfl (by simp [HAB.out.1, HAB.out.2]))
        have HB5 := Lib.hid (bstep HBr.out hb5)
        have HOR5 := Lib.hid (OwnN.below HOr.out hb5)
        clear hb5
        go_wp2_with fail
        refine HBH.out.mono ?_
        rintro e w6 ⟨rfl, hb6⟩
        have HLB : Hid (hullN (pb a) [pb a, pb b] [pb a, pb b].length = legB a b) := rfl
        rw [HLB.out]
        generalize legB a b = lg at *
        have HB6 := Lib.hid ((bstep HB5.out hb6).alloc (bstep HB5.out hb6).size (.cells (bxCellsA lg) 134))
        have HOR6 := Lib.hid (OwnN.alloc (OwnN.below HOR5.out hb6) (.cells (bxCellsA lg) 134))
        have hl2 : (legsN q t).length + 1 ≤ 1099511627776 := by rw [legsN_len]; omega
        have hbase : w1.heap.size ≤ w6.heap.size + 1 := by have := HB6.out.size; simp at this; omega
        clear hb6
        go_wp2_with (at_builtin; refine wpList_pushAt _ (w6.heap.size + 1) (by simp) rfl _ _ 71 rfl 134 6 48 elemBx w1.heap.size bxCells _ _ lg _ rfl rfl (bx_one _) HOR6.out rfl rfl hl2 (by omega) hbase ?_; intro v' w' hown' hg' hat'; have HO9 := Lib.hid hown'; have HB9 := Lib.hid (HB6.out.grown hg' HB6.out.size (fun j hj => (HOR6.out.lt j hj).1)); clear hown' hg' hat')
        go_roundw
        case rel => exact ⟨t + 1, by omega, by go_num, HB9.out, by rw [HST.out]; exact HO9.out⟩
        case measure => simp [intOf]; omega
      · have e : t = q.length - 1 := by omega
        have hi1 : ¬ (t : Int) + 1 < (q.length : Int) := by omega
        subst e
        have HOr := Lib.hid hown
        have HBZ := Lib.hid (bstep HB1.out hBr)
        have hz := HB1.out.size
        clear hown hBr
        go_wp2
        go_ret2
        exact .inl ⟨q, _, HQ.out.1, HQ.out.2, rfl, OwnN.mono HOr.out hz, HBZ.out⟩
  · have HI := Lib.hid hi
    have HB1 := Lib.hid hb1
    clear hb1 hi
    go_wp2
    go_ret2
    exact .inr ⟨HI.out, rfl, HB1.out⟩
end

section
section
open Go.RowKit
set_option linter.unusedVariables false
set_option linter.unusedSimpArgs false

end

section
open Go.RowKit
set_option linter.unusedVariables false
set_option linter.unusedSimpArgs false

def laidMarks (rs : List RunD) : List ByteArray := rs.flatMap fun r => List.replicate r.count.toNat r.mark
theorem laidMarks_len (rs : List RunD) : (laidMarks rs).length = cumN rs := by
  induction rs with
  | nil => rfl
  | cons r rs ih =>
    have e : laidMarks (r :: rs) = List.replicate r.count.toNat r.mark ++ laidMarks rs := rfl
    have e2 : cumN (r :: rs) = r.count.toNat + cumN rs := by simp [cumN]
    rw [e, List.length_append, ih, e2]; simp
theorem laidMarks_at {rs : List RunD} {i k : Nat} {r : RunD} (hr : rs[i]? = some r) (hk : k < r.count.toNat) : (laidMarks rs)[cumN (rs.take i) + k]? = some r.mark := by
  have hi := (List.getElem?_eq_some_iff.1 hr).1
  have e : laidMarks rs = laidMarks (rs.take i) ++ laidMarks (rs.drop i) := by
    unfold laidMarks
    rw [← List.flatMap_append, List.take_append_drop]
  have e2 : rs.drop i = r :: rs.drop (i + 1) := by rw [List.drop_eq_getElem_cons hi, (List.getElem?_eq_some_iff.1 hr).2]
  have e3 : laidMarks (rs.drop i) = List.replicate r.count.toNat r.mark ++ laidMarks (rs.drop (i + 1)) := by rw [e2]; rfl
  rw [e, List.getElem?_append_right (by rw [laidMarks_len]; omega), laidMarks_len, e3, List.getElem?_append_left (by simp; omega)]
  simp [hk]

theorem count_bad (v vr : Value) (l : List BarD) (rs : List RunD) (w : World) (hp : Bars w v l) (hr : Runs w vr rs) (hl : l.length ≤ 140737488355328) (hlr : rs.length ≤ 140737488355328) (hf : FitB l) (h : laidOk l rs = false) :
    Calls Tryz.prog 17 #[v, vr] w fun e w' => e = .returned (.tuple #[.int .i64 0, .int .i64 1]) ∧ Below w.heap.size w w' := by
  have HV := Lib.hid (lvalid_any v vr l rs w hp hr hl hlr hf)
  rw [h] at HV
  clear hp hr h
  go_enter Tryz.func17, Tryz.ntmps17
  go_wp2_with fail
  refine HV.out.mono ?_
  rintro e w1 ⟨rfl, hb1⟩
  have HB1 := Lib.hid hb1
  clear hb1
  go_wp2
  go_ret2
  exact ⟨rfl, HB1.out⟩
set_option maxHeartbeats 1000000 in
theorem count_good (v vr : Value) (l : List BarD) (rs : List RunD) (w : World) (hp : Bars w v l) (hr : Runs w vr rs) (hl : l.length ≤ 140737488355328) (hlr : rs.length ≤ 140737488355328) (hf : FitB l) (h : laidOk l rs = true) :
    Calls Tryz.prog 17 #[v, vr] w fun e w' => e = .returned (.tuple #[.int .i64 (cumN rs), .int .i64 0]) ∧ Below w.heap.size w w' := by
  obtain ⟨q1, q2, q3, q4⟩ := laidOk_parts h
  have HV := Lib.hid (lvalid_any v vr l rs w hp hr hl hlr hf)
  rw [h] at HV
  have HR := Lib.hid hr
  have HC := Lib.hid (fun r hr => right_count (q3 r hr))
  have HS := Lib.hid (cumN_sum (fun r hr => (right_count (q3 r hr)).1))
  have HLE := Lib.hid (fun k => sumC_le (l := l) (rs := rs) (fun r hr => (right_count (q3 r hr)).1) k)
  have HG : Hid (sumC rs ≤ 2000) := q4
  obtain ⟨ro, rcap, rfl⟩ := hr.at_
  clear hp hr h q1 q2 q3 q4
  go_enter Tryz.func17, Tryz.ntmps17
  go_wp2_with fail
  refine HV.out.mono ?_
  rintro e w1 ⟨rfl, hb1⟩
  have HB1 := Lib.hid hb1
  clear hb1
  go_wp2_with fail
  go_loopw [6, 15] (fun n i wr => ∃ k : Nat, k ≤ rs.length ∧ i = .int .i64 k ∧ n = .int .i64 (sumC (rs.take k)) ∧ Below w.heap.size w wr ∧ Hid (0 ≤ sumC (rs.take k))) (fun _ i _ => rs.length - (intOf i).toNat)
  case atStart => exact ⟨0, Nat.zero_le _, rfl, rfl, HB1.out, by rw [List.take_zero]; show (0 : Int) ≤ sumC []; decide⟩
  case round =>
    obtain ⟨k, hk, rfl, rfl, hBr, hR⟩ := hrel
    by_cases hk2 : k < rs.length
    · obtain ⟨r, hy⟩ : ∃ y, rs[k]? = some y := ⟨_, List.getElem?_eq_getElem hk2⟩
      obtain ⟨b, off, rfl, hbl, c0, c1, c2, c3, c4, c5, c6, c7, c8, c9⟩ := runs_get (HR.out.below hBr) hy
      have HSN := Lib.hid (sumC_snoc hy)
      obtain ⟨n1, n2⟩ := HC.out r (List.mem_of_getElem? hy)
      have s1 := hR.out
      have s2 := HLE.out k
      have s3 := HG.out
      generalize sumC (rs.take k) = q at *
      have HB := Lib.hid (hBr.alloc hBr.size (.cells #[.string r.mark, .int .i64 r.tx, .int .i64 r.ty, .int .i64 r.at_.x, .int .i64 r.at_.y, .int .i64 r.at_.z, .int .i64 r.step.x, .int .i64 r.step.y, .int .i64 r.step.z, .int .i64 r.count] 90))
      clear hy hBr
      have s4 : q ≤ 2000 := by omega
      clear s2 s3
      go_wp2
      go_roundw
      case rel => exact ⟨k + 1, by omega, by go_num, by rw [HSN.out], HB.out, by rw [HSN.out]; show (0 : Int) ≤ _; omega⟩
      case measure => simp [intOf]; omega
    · obtain rfl : k = rs.length := by omega
      rw [List.take_length]
      have HB := Lib.hid hBr
      clear hBr
      go_wp2
      go_ret2
      exact ⟨ret2_any (val_int HS.out.symm) rfl, HB.out⟩

def MarkPost (w : World) (rs : List RunD) (i : Int) (e : Ending) (w' : World) : Prop :=
  (∃ m, 0 ≤ i ∧ (laidMarks rs)[i.toNat]? = some m ∧ e = .returned (.tuple #[.string m, .int .i64 0]) ∧ Below w.heap.size w w') ∨
  ((i < 0 ∨ (cumN rs : Int) ≤ i) ∧ e = .returned (.tuple #[.string ⟨#[]⟩, .int .i64 2]) ∧ Below w.heap.size w w')
set_option maxHeartbeats 1000000 in
theorem mark_good (v vr : Value) (i : Int) (l : List BarD) (rs : List RunD) (w : World) (hp : Bars w v l) (hr : Runs w vr rs) (hl : l.length ≤ 140737488355328) (hlr : rs.length ≤ 140737488355328) (hf : FitB l) (h : laidOk l rs = true) (h64 : i ≤ 9223372036854775807) :
    Calls Tryz.prog 67 #[v, vr, .int .i64 i] w (MarkPost w rs i) := by
  obtain ⟨q1, q2, q3, q4⟩ := laidOk_parts h
  have HV := Lib.hid (lvalid_any v vr l rs w hp hr hl hlr hf)
  rw [h] at HV
  have HR := Lib.hid hr
  have HC := Lib.hid (fun r hr => right_count (q3 r hr))
  obtain ⟨ro, rcap, rfl⟩ := hr.at_
  clear hp hr h q1 q2 q3 q4
  by_cases hi : i < 0
  · have HF : Hid (∀ (w' : World), Below w.heap.size w w' → MarkPost w rs i (.returned (.tuple #[.string ⟨#[]⟩, .int .i64 2])) w') := fun w' hb => .inr ⟨.inl hi, rfl, hb⟩
    go_enter Tryz.func67, Tryz.ntmps67
    go_wp2_with fail
    refine HV.out.mono ?_
    rintro e w1 ⟨rfl, hb1⟩
    have HB1 := Lib.hid hb1
    clear hb1
    go_wp2
    go_ret2
    exact HF.out _ HB1.out
  · skip
    go_enter Tryz.func67, Tryz.ntmps67
    go_wp2_with fail
    refine HV.out.mono ?_
    rintro e w1 ⟨rfl, hb1⟩
    have HB1 := Lib.hid hb1
    clear hb1
    go_wp2_with fail
    go_loopw [2, 18] (fun n s wr => ∃ (k t : Nat), k ≤ rs.length ∧ s = .int .i64 k ∧ n = .int .i64 t ∧ Below w.heap.size w wr ∧ Hid (i = (cumN (rs.take k) : Int) + t)) (fun _ s _ => rs.length - (intOf s).toNat)
    case atStart => exact ⟨0, i.toNat, Nat.zero_le _, rfl, val_int (by omega), HB1.out, by rw [List.take_zero]; show i = ((0 : Nat) : Int) + _; omega⟩
    case round =>
      obtain ⟨k, t, hk, rfl, rfl, hBr, hR⟩ := hrel
      by_cases hk2 : k < rs.length
      · obtain ⟨r, hy⟩ : ∃ y, rs[k]? = some y := ⟨_, List.getElem?_eq_getElem hk2⟩
        obtain ⟨b, off, rfl, hbl, c0, c1, c2, c3, c4, c5, c6, c7, c8, c9⟩ := runs_get (HR.out.below hBr) hy
        have HSN := Lib.hid (cumN_snoc hy)
        obtain ⟨n1, n2⟩ := HC.out r (List.mem_of_getElem? hy)
        have HLM := Lib.hid (fun j (hj : j < r.count.toNat) => laidMarks_at hy hj)
        have HB := Lib.hid (hBr.alloc hBr.size (.cells #[.string r.mark, .int .i64 r.tx, .int .i64 r.ty, .int .i64 r.at_.x, .int .i64 r.at_.y, .int .i64 r.at_.z, .int .i64 r.step.x, .int .i64 r.step.y, .int .i64 r.step.z, .int .i64 r.count] 90))
        have hti : (t : Int) ≤ 9223372036854775807 := by have := hR.out; omega
        clear hy hBr
        by_cases hc : (t : Int) < r.count
        · have HF : Hid (∀ (w' : World), Below w.heap.size w w' → MarkPost w rs i (.returned (.tuple #[.string r.mark, .int .i64 0])) w') := fun w' hb =>
            .inl ⟨r.mark, by omega, by rw [show i.toNat = cumN (rs.take k) + t by have := hR.out; omega]; exact HLM.out t (by omega), rfl, hb⟩
          go_wp2
          go_ret2
          exact HF.out _ HB.out
        · have HF : Hid (i = (cumN (rs.take (k + 1)) : Int) + (t - r.count.toNat : Nat)) := by rw [HSN.out]; have := hR.out; show i = _; omega
          go_wp2
          go_roundw
          case rel => exact ⟨k + 1, t - r.count.toNat, by omega, by go_num, by exact val_int (by omega), HB.out, HF.out⟩
          case measure => simp [intOf]; omega
      · obtain rfl : k = rs.length := by omega
        have HF : Hid (∀ (w' : World), Below w.heap.size w w' → MarkPost w rs i (.returned (.tuple #[.string ⟨#[]⟩, .int .i64 2])) w') := fun w' hb => .inr ⟨.inr (by have := hR.out; rw [List.take_length] at this; omega), rfl, hb⟩
        have HB := Lib.hid hBr
        clear hBr
        go_wp2
        go_ret2
        exact HF.out _ HB.out
end
end

section
section
open Go.RowKit Go.Maps
set_option linter.unusedVariables false
set_option linter.unusedSimpArgs false

theorem strKey : Keyed Tryz.prog 9 := string_keyed Tryz.underlying9
theorem strKey_mk {s : ByteArray} (h : s.size ≤ 9223372036854775807) : keyOf Tryz.prog 9 (.string s) = some (.string s.data.toList) := Go.WideMaps.keyOf_string_mk Tryz.underlying9 (by unfold maxLen; omega)
def ski (i : Int) : DataW Unit := .lit (.int .i64 i)

theorem bytes_of_lit {a b : ByteArray} (h : Lit.string a.data.toList = .string b.data.toList) : a = b := by
  injection h with h
  exact ByteArray.ext (Array.toList_inj.1 h)

/-- Block b is a map from strings to ints, which gives m, 0 where nothing is. -/
def SMap (w : World) (b n : Nat) (m : ByteArray → Int) : Prop :=
  ∃ D : DataW Unit, w.ownsMap Tryz.prog 9 (plainElem Tryz.prog 3) b n D ∧ ∀ x : ByteArray, D.atKey (.string x.data.toList) (ski 0) = ski (m x)

def sput (m : ByteArray → Int) (x : ByteArray) (y : Int) : ByteArray → Int := fun k => if k = x then y else m k

section
variable {w w1 : World} {b n : Nat} {m : ByteArray → Int}
theorem SMap.new (w : World) : SMap (w.alloc (.map #[] 0)) w.heap.size 0 (fun _ => 0) := ⟨.map [], World.ownsMap_made _ _ _ _, fun x => rfl⟩
theorem SMap.lt (h : SMap w b n m) : b < w.heap.size := by obtain ⟨D, h, _⟩ := h; exact h.lt
theorem SMap.only (h : SMap w b n m) {r : Option Nat} (hg : w.grownBy w1 r) (hne : some b ≠ r) : SMap w1 b n m := by
  obtain ⟨D, h, hD⟩ := h
  exact ⟨D, h.kept hg hne, hD⟩
theorem SMap.below (h : SMap w b n m) (hb : Below w.heap.size w w1) : SMap w1 b n m := h.only (only_below hb none) (by simp)
theorem SMap.alloc (h : SMap w b n m) (o : Obj) : SMap (w.alloc o) b n m := h.below (below_new w o)
end

end

section
open Go.RowKit
set_option linter.unusedVariables false
set_option linter.unusedSimpArgs false

theorem sput_same (m : ByteArray → Int) (x : ByteArray) (y : Int) : sput m x y x = y := if_pos rfl
theorem sput_other (m : ByteArray → Int) {x k : ByteArray} (y : Int) (h : k ≠ x) : sput m x y k = m k := if_neg h
structure BalW (w : World) (B n : Nat) (m : ByteArray → Int) (wr : World) : Prop where
  below : Below w.heap.size w wr
  map : SMap wr B n m
  far : w.heap.size ≤ B
theorem BalW.alloc {w wr : World} {B n : Nat} {m : ByteArray → Int} (h : BalW w B n m wr) (o : Obj) : BalW w B n m (wr.alloc o) := ⟨h.below.alloc h.below.size o, h.map.alloc o, h.far⟩
theorem BalW.step {w wr w' : World} {B n n' : Nat} {m m' : ByteArray → Int} (h : BalW w B n m wr) (hm : SMap w' B n' m') (hg : wr.grownBy w' (some B)) : BalW w B n' m' w' :=
  ⟨h.below.grown hg h.below.size (fun j hj => by cases hj; exact h.far), hm, h.far⟩
theorem BalW.push {w wr w' : World} {B n : Nat} {m : ByteArray → Int} {r : Option Nat} (h : BalW w B n m wr) (hg : wr.grownBy w' r) (hr : ∀ g, r = some g → B + 1 ≤ g) : BalW w B n m w' :=
  ⟨h.below.grown hg h.below.size (fun j hj => by have := hr j hj; have := h.far; omega), h.map.only hg (fun e => by have := hr B e.symm; omega), h.far⟩

end
end
end
end Go.Proofs.YtamogedpgkofjaaGreat
