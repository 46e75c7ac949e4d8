/-
  box.Square of valid boxes; the length of a leg; the lengths of the legs of a bar. The lengths of the legs of a bar: plain part; shape.Legs. shape.Legs of a bar that is right; the place of a mark.
-/
import Derived.Test.YtpidjgljeooblaaStp
namespace Go.Proofs.Ytpidjgljeooblaa
section
open Go.RowKit
set_option linter.unusedVariables false
set_option linter.unusedSimpArgs false
attribute [local go_sem ↓] Go.wp_at_zero Go.wp_at_succ

def gp (a b : Bx) (k : Nat) : Int := mx (ax b.lo k - ax a.hi k) (ax a.lo k - ax b.hi k)
def gq (a b : Bx) (k : Nat) : Int := mx 0 (gp a b k)
def sqN (a b : Bx) : Nat → Int
  | 0 => 0
  | k + 1 => sqN a b k + gq a b k * gq a b k
theorem ax_bd {b : Bx} (h : bxOk b = true) {k : Nat} (hk : k < 3) : -1048576 ≤ ax b.lo k ∧ ax b.lo k ≤ 1048576 ∧ -1048576 ≤ ax b.hi k ∧ ax b.hi k ≤ 1048576 := by
  have := bxOk_iff h k hk
  unfold axB3 at this
  omega
theorem gq_bd {a b : Bx} (ha : bxOk a = true) (hb : bxOk b = true) {k : Nat} (hk : k < 3) : 0 ≤ gq a b k ∧ gq a b k ≤ 2097152 := by
  have h1 := ax_bd ha hk
  have h2 := ax_bd hb hk
  unfold gq gp mx
  (repeat' split) <;> omega
theorem sq_bd {n : Int} (h0 : 0 ≤ n) (h1 : n ≤ 2097152) : 0 ≤ n * n ∧ n * n ≤ 4398046511104 := by
  have e1 : n * n ≤ n * 2097152 := Int.mul_le_mul_of_nonneg_left h1 h0
  have e2 : n * 0 ≤ n * n := Int.mul_le_mul_of_nonneg_left h0 h0
  omega
theorem sqN_bd {a b : Bx} (ha : bxOk a = true) (hb : bxOk b = true) : ∀ k : Nat, k ≤ 3 → 0 ≤ sqN a b k ∧ sqN a b k ≤ k * 4398046511104 := by
  intro k
  induction k with
  | zero => intro _; exact ⟨Int.le_refl _, Int.le_refl _⟩
  | succ k ih =>
    intro hk
    have h1 := ih (by omega)
    have h2 := gq_bd ha hb (show k < 3 by omega)
    have h3 := sq_bd h2.1 h2.2
    simp only [sqN]
    omega

set_option maxHeartbeats 1000000 in
theorem along_any (a b : Bx) (k : Nat) (w : World) (hk : k < 3) (ha : bxOk a = true) (hb : bxOk b = true) :
    Calls Try.prog 62 #[bxv a, bxv b, .int .i64 (k : Int)] w fun e w' => e = .returned (.int .i64 (gp a b k)) ∧ Below w.heap.size w w' := by
  obtain ⟨a1, a2, a3, a4⟩ := ax_bd ha hk
  obtain ⟨b1, b2, b3, b4⟩ := ax_bd hb hk
  have HA := Lib.hid (fun W => ends_any a k W hk)
  have HB := Lib.hid (fun W => ends_any b k W hk)
  have HG : Hid (gp a b k = if ax b.lo k - ax a.hi k < ax a.lo k - ax b.hi k then ax a.lo k - ax b.hi k else ax b.lo k - ax a.hi k) := rfl
  generalize gp a b k = G at *
  generalize ax a.lo k = al at *
  generalize ax a.hi k = ah at *
  generalize ax b.lo k = bl at *
  generalize ax b.hi k = bh at *
  clear ha hb
  go_enter Try.func62, Try.ntmps62
  go_wp2_with fail
  refine (HA.out _).mono ?_
  rintro e w1 ⟨rfl, hb1⟩
  have HB1 := Lib.hid (bstep (by go_grown) hb1 : Below w.heap.size w w1)
  have HX1 := Lib.hid (BlkIs.below (BlkIs.new1 w (.cells (bxCellsA a) 33) (bxCellsA b) 33) hb1)
  have c0 := HX1.out.cell 0
  have c1 := HX1.out.cell 1
  have c2 := HX1.out.cell 2
  have c3 := HX1.out.cell 3
  have c4 := HX1.out.cell 4
  have c5 := HX1.out.cell 5
  clear hb1
  go_wp2_with fail
  refine (HB.out _).mono ?_
  rintro e w2 ⟨rfl, hb2⟩
  have HB2 := Lib.hid (bstep HB1.out hb2)
  clear hb2 c0 c1 c2 c3 c4 c5
  go_wp2
  all_goals (go_ret; exact ⟨ret_int (by rw [HG.out]; first | rw [if_pos (by omega)] | rw [if_neg (by omega)]), HB2.out⟩)

structure SqW (w : World) (a b : Bx) (wr : World) : Prop where
  below : Below w.heap.size w wr
  ba : BlkIs wr w.heap.size 33 (bxCellsA a)
  bb : BlkIs wr (w.heap.size + 1) 33 (bxCellsA b)
theorem SqW.after {w wr w' : World} {a b : Bx} (h : SqW w a b wr) (hb : Below wr.heap.size wr w') : SqW w a b w' := ⟨bstep h.below hb, h.ba.below hb, h.bb.below hb⟩

set_option maxRecDepth 100000 in
set_option maxHeartbeats 2000000 in
theorem square_any (a b : Bx) (w : World) (ha : bxOk a = true) (hb : bxOk b = true) :
    Calls Try.prog 38 #[bxv a, bxv b] w fun e w' => e = .returned (.tuple #[.int .i64 (sqN a b 3), .int .i64 0]) ∧ Below w.heap.size w w' := by
  have HVA := Lib.hid (fun W => bvalid_any a W)
  have HVB := Lib.hid (fun W => bvalid_any b W)
  rw [ha] at HVA
  rw [hb] at HVB
  have HAL := Lib.hid (fun k (hk : k < 3) W => along_any a b k W hk ha hb)
  have HGB := Lib.hid (fun k (hk : k < 3) => gq_bd ha hb hk)
  have HSB := Lib.hid (sqN_bd ha hb)
  have HGE : Hid (∀ k, gq a b k = if 0 < gp a b k then gp a b k else 0) := fun _ => rfl
  have HSN : Hid (∀ k, sqN a b (k + 1) = sqN a b k + gq a b k * gq a b k) := fun _ => rfl
  clear ha hb
  go_enter Try.func38, Try.ntmps38
  go_wp2_with fail
  refine (HVA.out _).mono ?_
  rintro e w1 ⟨rfl, hb1⟩
  have HW1 : Hid (SqW w a b w1) := ⟨bstep (by go_grown) hb1, BlkIs.below ((BlkIs.new w _ _).alloc _) hb1, BlkIs.below (BlkIs.new1 w _ _ _) hb1⟩
  clear hb1
  have c0 := HW1.out.bb.cell 0
  have c1 := HW1.out.bb.cell 1
  have c2 := HW1.out.bb.cell 2
  have c3 := HW1.out.bb.cell 3
  have c4 := HW1.out.bb.cell 4
  have c5 := HW1.out.bb.cell 5
  go_wp2_with fail
  refine (HVB.out _).mono ?_
  rintro e w2 ⟨rfl, hb2⟩
  have HW2 := Lib.hid (HW1.out.after hb2)
  clear hb2 c0 c1 c2 c3 c4 c5 HVA HVB HW1
  go_wp2_with fail
  go_loopw [6, 17] (fun t i wr => ∃ k : Nat, k ≤ 3 ∧ i = .int .i64 (k : Int) ∧ t = .int .i64 (sqN a b k) ∧ SqW w a b wr) (fun _ i _ => 3 - (intOf i).toNat)
  case atStart => exact ⟨0, by omega, rfl, rfl, HW2.out⟩
  case round =>
    clear HW2
    obtain ⟨k, hk, rfl, rfl, hW⟩ := hrel
    have HW := Lib.hid hW
    clear hW
    by_cases hk2 : k < 3
    · have a0 := HW.out.ba.cell 0
      have a1 := HW.out.ba.cell 1
      have a2 := HW.out.ba.cell 2
      have a3 := HW.out.ba.cell 3
      have a4 := HW.out.ba.cell 4
      have a5 := HW.out.ba.cell 5
      have c0 := HW.out.bb.cell 0
      have c1 := HW.out.bb.cell 1
      have c2 := HW.out.bb.cell 2
      have c3 := HW.out.bb.cell 3
      have c4 := HW.out.bb.cell 4
      have c5 := HW.out.bb.cell 5
      have HALK := Lib.hid (HAL.out k hk2)
      obtain ⟨g0, g1⟩ := HGB.out k hk2
      obtain ⟨s0, s1⟩ := HSB.out k hk
      have HN := Lib.hid (HSN.out k)
      have HE := Lib.hid (HGE.out k)
      go_wp2_with fail
      refine (HALK.out _).mono ?_
      rintro e w3 ⟨rfl, hb3⟩
      have HW3 := Lib.hid (HW.out.after hb3)
      clear hb3 a0 a1 a2 a3 a4 a5 c0 c1 c2 c3 c4 c5 HALK HAL HGB HSB HSN HGE
      have hgq := HE.out
      generalize gp a b k = g at *
      generalize gq a b k = n at *
      generalize sqN a b k = s at *
      obtain ⟨q0, q1⟩ := sq_bd g0 g1
      by_cases hg : 0 < g
      · have hn : n = g := by rw [hgq, if_pos hg]
        subst hn
        clear hgq HE
        generalize hsq : n * n = m at *
        go_wp2_with fail
        go_roundw
        case rel => exact ⟨k + 1, by omega, by go_num, by rw [HN.out], HW3.out⟩
        case measure => simp [intOf]; omega
      · have hn : n = 0 := by rw [hgq, if_neg hg]
        subst hn
        clear hgq HE
        go_wp2_with fail
        go_roundw
        case rel => exact ⟨k + 1, by omega, by go_num, by rw [HN.out]; exact val_int (by omega), HW3.out⟩
        case measure => simp [intOf]; omega
    · obtain rfl : k = 3 := by omega
      go_wp2
      go_ret2
      exact ⟨rfl, HW.out.below⟩

def lenB (b : Bx) : Int := b.hi.x - b.lo.x + b.hi.y - b.lo.y + b.hi.z - b.lo.z
theorem length_any (b : Bx) (w : World) (h1 : PtIn 1048576 b.lo) (h2 : PtIn 1048576 b.hi) :
    Calls Try.prog 37 #[bxv b] w fun e w' => e = .returned (.int .i64 (lenB b)) ∧ Below w.heap.size w w' := by
  obtain ⟨a1, a2, a3, a4, a5, a6⟩ := h1
  obtain ⟨b1, b2, b3, b4, b5, b6⟩ := h2
  have HL : Hid (lenB b = b.hi.x - b.lo.x + b.hi.y - b.lo.y + b.hi.z - b.lo.z) := rfl
  generalize lenB b = L at *
  obtain ⟨⟨lx, ly, lz⟩, hx, hy, hz⟩ := b
  simp only at *
  go_enter Try.func37, Try.ntmps37
  go_wp2
  go_ret
  exact ⟨ret_int HL.out.symm, by go_grown⟩
end

section
open Go.RowKit
set_option linter.unusedVariables false
set_option linter.unusedSimpArgs false
attribute [local go_sem ↓] Go.wp_at_zero Go.wp_at_succ

def ab (n : Int) : Int := if n < 0 then -n else n
theorem ab_ax (a b : Int) : mx a b - mn a b = ab (b - a) := by unfold mx mn ab; (repeat' split) <;> omega
theorem legB_eq (a b : Pt) : legB a b = hull2 (pb a) (pb b) := by
  have e : legB a b = hull2 (hull2 (pb a) (pb a)) (pb b) := rfl
  rw [e, hull2_self]
theorem len_legB (a b : Pt) : lenB (legB a b) = ab (b.x - a.x) + ab (b.y - a.y) + ab (b.z - a.z) := by
  rw [legB_eq, ← ab_ax, ← ab_ax, ← ab_ax]
  unfold lenB hull2 pb
  simp only
  omega
theorem sq_axis (a b c : Int) : mx 0 (mx (mn b c - mx a b) (mn a b - mx b c)) = 0 := by
  unfold mx mn
  (repeat' split) <;> omega
theorem gq_share (a b c : Pt) (k : Nat) : gq (legB a b) (legB b c) k = 0 := by
  rw [legB_eq, legB_eq]
  unfold gq gp hull2 pb ax
  simp only
  (repeat' split) <;> exact sq_axis _ _ _
theorem sq_share (a b c : Pt) : ∀ k, sqN (legB a b) (legB b c) k = 0 := by
  intro k
  induction k with
  | zero => rfl
  | succ k ih => simp only [sqN]; rw [ih, gq_share]; rfl
theorem legB_ok {a b : Pt} (ha : PtIn 1048576 a) (hb : PtIn 1048576 b) : bxOk (legB a b) = true := by
  obtain ⟨⟨l1, l2, l3, l4, l5, l6⟩, h1, h2, h3, h4, h5, h6⟩ := legB_near ha hb
  have k : ∀ x y : Int, mn x y ≤ mx x y := by intro x y; unfold mn mx; (repeat' split) <;> omega
  have kx := k a.x b.x
  have ky := k a.y b.y
  have kz := k a.z b.z
  have e1 : (legB a b).lo.x ≤ (legB a b).hi.x := by rw [legB_eq]; exact kx
  have e2 : (legB a b).lo.y ≤ (legB a b).hi.y := by rw [legB_eq]; exact ky
  have e3 : (legB a b).lo.z ≤ (legB a b).hi.z := by rw [legB_eq]; exact kz
  unfold bxOk
  exact dec_yes ⟨⟨e1, l1, h2⟩, ⟨e2, l3, h4⟩, e3, l5, h6⟩

/-! ### the hull of the legs -/
theorem mn_asc (a b c : Int) : mn (mn a b) c = mn a (mn b c) := by unfold mn; (repeat' split) <;> omega
theorem mx_asc (a b c : Int) : mx (mx a b) c = mx a (mx b c) := by unfold mx; (repeat' split) <;> omega
theorem mn_same (a : Int) : mn a a = a := by unfold mn; split <;> rfl
theorem mx_same (a : Int) : mx a a = a := by unfold mx; split <;> rfl
theorem hull2_asc (a b c : Bx) : hull2 (hull2 a b) c = hull2 a (hull2 b c) := by unfold hull2; simp only [mn_asc, mx_asc]
theorem hull2_same (a : Bx) : hull2 a a = a := by unfold hull2; simp only [mn_same, mx_same]
theorem legsN_at (q : List Pt) (n t : Nat) (h : t < n) : (legsN q n)[t]? = some (legB (q.getD t ⟨0, 0, 0⟩) (q.getD (t + 1) ⟨0, 0, 0⟩)) := by
  unfold legsN
  rw [List.getElem?_map, List.getElem?_range h]
  rfl
theorem getD_at {q : List Pt} {t : Nat} (h : t < q.length) : q[t]? = some (q.getD t ⟨0, 0, 0⟩) := by
  rw [List.getD_eq_getElem?_getD, List.getElem?_eq_getElem h]; rfl
theorem hull_legs {q : List Pt} (n : Nat) (hn : n < q.length) : ∀ k, k < n → hullN (legB (q.getD 0 ⟨0, 0, 0⟩) (q.getD 1 ⟨0, 0, 0⟩)) (legsN q n) (k + 1) = hullN (pb (q.getD 0 ⟨0, 0, 0⟩)) (q.map pb) (k + 2) := by
  have hp : ∀ t, t < q.length → (q.map pb)[t]? = some (pb (q.getD t ⟨0, 0, 0⟩)) := fun t ht => by rw [List.getElem?_map, getD_at ht]; rfl
  have hone : hullN (pb (q.getD 0 ⟨0, 0, 0⟩)) (q.map pb) 1 = pb (q.getD 0 ⟨0, 0, 0⟩) := hullN_one (getD_at (by omega))
  intro k
  induction k with
  | zero =>
    intro hk
    rw [hullN_succ (legsN_at q n 0 hk), hullN_succ (hp 1 (by omega)), hone]
    have e : ∀ (x : Bx) (l : List Bx), hullN x l 0 = x := fun x l => rfl
    rw [e, Nat.zero_add, hull2_same, legB_eq]
  | succ k ih =>
    intro hk
    rw [hullN_succ (legsN_at q n (k + 1) hk), ih (by omega), hullN_succ (hp (k + 2) (by omega)), legB_eq]
    rw [hullN_succ (hp (k + 1) (by omega)), hull2_asc, ← hull2_asc (pb (q.getD (k + 1) ⟨0, 0, 0⟩)), hull2_same, ← hull2_asc]
theorem hull_of_legs {q : List Pt} (h : 2 ≤ q.length) : hullN (legB (q.getD 0 ⟨0, 0, 0⟩) (q.getD 1 ⟨0, 0, 0⟩)) (legsN q (q.length - 1)) (legsN q (q.length - 1)).length = hullP q := by
  obtain ⟨n, hn⟩ : ∃ n, q.length = n + 2 := ⟨q.length - 2, by omega⟩
  have := hull_legs (q := q) (n + 1) (by omega) n (by omega)
  rw [hn, show n + 2 - 1 = n + 1 by omega, legsN_len, this]
  unfold hullP
  rw [List.length_map, hn]

/-! ### how long a leg is -/
def IsU (e : Pt) : Prop := e = ⟨1, 0, 0⟩ ∨ e = ⟨-1, 0, 0⟩ ∨ e = ⟨0, 1, 0⟩ ∨ e = ⟨0, -1, 0⟩ ∨ e = ⟨0, 0, 1⟩ ∨ e = ⟨0, 0, -1⟩
theorem unit_len {e : Pt} (h : IsU e) {d s : Int} (hd : 0 ≤ d) (hs : s = d ∨ s = -d) : ab (e.x * s) + ab (e.y * s) + ab (e.z * s) = d := by
  unfold ab
  rcases h with rfl | rfl | rfl | rfl | rfl | rfl
  all_goals
    simp only [Int.one_mul, Int.zero_mul, Int.neg_mul]
    rcases hs with rfl | rfl <;> (repeat' split) <;> omega
theorem turn_units {x y : Int} (h : turnB x y = true) : IsU (uv x) ∧ IsU (uv y) ∧ IsU (crossP (uv x) (uv y)) := by
  unfold turnB at h
  rw [decide_eq_true_eq] at h
  obtain ⟨⟨⟨x0, x1, x2⟩, y0, y1, y2⟩, h1, h2⟩ := h
  have hx : x = 1 ∨ x = 2 ∨ x = 3 ∨ x = -1 ∨ x = -2 ∨ x = -3 := by omega
  have hy : y = 1 ∨ y = 2 ∨ y = 3 ∨ y = -1 ∨ y = -2 ∨ y = -3 := by omega
  rcases hx with rfl | rfl | rfl | rfl | rfl | rfl <;> rcases hy with rfl | rfl | rfl | rfl | rfl | rfl <;> first | (exfalso; omega) | (unfold IsU; decide)
theorem step_len {x y : Int} (ht : turnB x y = true) {way : Nat} (hw : way = 120 ∨ way = 88 ∨ way = 121 ∨ way = 89 ∨ way = 122) {d : Int} (hd : 0 ≤ d) (a p : Pt) :
    lenB (legB (padd a (img x y p)) (padd a (img x y (stepP p way d)))) = d := by
  obtain ⟨u1, u2, u3⟩ := turn_units ht
  rw [len_legB]
  unfold img
  generalize crossP (uv x) (uv y) = c at *
  generalize uv x = e at *
  generalize uv y = f at *
  obtain ⟨px, py, pz⟩ := p
  obtain ⟨ax, ay, az⟩ := a
  rcases hw with rfl | rfl | rfl | rfl | rfl
  · refine Eq.trans ?_ (unit_len u1 hd (.inl rfl))
    simp only [padd, stepP, Int.mul_add, if_true]
    congr 1
    · congr 1 <;> (congr 1; omega)
    · congr 1; omega
  · refine Eq.trans ?_ (unit_len u1 hd (.inr rfl))
    simp only [padd, stepP, Int.mul_sub, Int.mul_neg, if_true, if_false, Nat.reduceEqDiff]
    congr 1
    · congr 1 <;> (congr 1; omega)
    · congr 1; omega
  · refine Eq.trans ?_ (unit_len u2 hd (.inl rfl))
    simp only [padd, stepP, Int.mul_add, if_true, if_false, Nat.reduceEqDiff]
    congr 1
    · congr 1 <;> (congr 1; omega)
    · congr 1; omega
  · refine Eq.trans ?_ (unit_len u2 hd (.inr rfl))
    simp only [padd, stepP, Int.mul_sub, Int.mul_neg, if_true, if_false, Nat.reduceEqDiff]
    congr 1
    · congr 1 <;> (congr 1; omega)
    · congr 1; omega
  · refine Eq.trans ?_ (unit_len u3 hd (.inl rfl))
    simp only [padd, stepP, Int.mul_add, if_true, if_false, Nat.reduceEqDiff]
    congr 1
    · congr 1 <;> (congr 1; omega)
    · congr 1; omega

def dimsL (d : List Int) (ls : List (Nat × Nat)) : List Int := ls.map fun l => d[l.1]?.getD 0
def dimL (b : BarD) : List Int := dimsL b.dims (legsOf b.code)
theorem dimsL_len (d : List Int) (ls : List (Nat × Nat)) : (dimsL d ls).length = ls.length := List.length_map ..
theorem dimsL_snoc (d : List Int) {ls : List (Nat × Nat)} {k : Nat} {l : Nat × Nat} (h : ls[k]? = some l) : dimsL d (ls.take (k + 1)) = dimsL d (ls.take k) ++ [d[l.1]?.getD 0] := by
  have hk := (List.getElem?_eq_some_iff.1 h).1
  unfold dimsL
  rw [List.take_succ_eq_append_getElem hk, List.map_append, (List.getElem?_eq_some_iff.1 h).2]
  rfl
theorem dims_there {x : BarD} (h : barOk x = true) {k : Nat} {l : Nat × Nat} (hl : (legsOf x.code)[k]? = some l) : ∃ d, x.dims[l.1]? = some d ∧ 1 ≤ d := by
  unfold barOk headB at h
  simp only [Bool.and_eq_true, decide_eq_true_eq] at h
  have h1 := (legs_ok x.code l (List.mem_of_getElem? hl)).1
  have h3 := h.1.1.2
  have hlt : l.1 < x.dims.length := by omega
  exact ⟨_, List.getElem?_eq_getElem hlt, (dimsB_yes h.2).1 _ (List.getElem_mem hlt)⟩
theorem rpts_length (b : BarD) (r : RunD) (j : Int) : (rptsOf b r j).length = (legsOf b.code).length + 1 := by
  unfold rptsOf pathOf pathN
  rw [List.length_map, List.length_map, List.length_range]
theorem rpts_at (b : BarD) (r : RunD) (j : Int) {t : Nat} (h : t ≤ (legsOf b.code).length) : (rptsOf b r j).getD t ⟨0, 0, 0⟩ = padd (atK r j) (img r.tx r.ty (posP b.dims (legsOf b.code) t)) := by
  unfold rptsOf pathOf pathN
  rw [List.getD_eq_getElem?_getD, List.getElem?_map, List.getElem?_map, List.getElem?_range (by omega)]
  rfl
theorem rpts_leg {b : BarD} {r : RunD} (ok : barOk b = true) (turn : turnB r.tx r.ty = true) (j : Int) {t : Nat} {u : Bx} (hu : (legsN (rptsOf b r j) ((rptsOf b r j).length - 1))[t]? = some u) :
    (dimL b)[t]? = some (lenB u) := by
  have ht := (List.getElem?_eq_some_iff.1 hu).1
  rw [legsN_len, rpts_length] at ht
  rw [legsN_at _ _ t (by rw [rpts_length]; omega)] at hu
  cases hu
  rw [rpts_at b r j (by omega), rpts_at b r j (by omega)]
  obtain ⟨l, hl⟩ : ∃ y, (legsOf b.code)[t]? = some y := ⟨_, List.getElem?_eq_getElem (by omega)⟩
  obtain ⟨d, hd, hd1⟩ := dims_there ok hl
  rw [posP_succ hl, hd]
  rw [step_len turn (legs_ok b.code l (List.mem_of_getElem? hl)).2 (show (0 : Int) ≤ (some d).getD 0 by simp only [Option.getD_some]; omega)]
  unfold dimL dimsL
  rw [List.getElem?_map, hl, Option.map_some, hd]
end

section
open Go.RowKit
set_option linter.unusedVariables false
set_option linter.unusedSimpArgs false
attribute [local go_sem ↓] Go.wp_at_zero Go.wp_at_succ

theorem lfind2_any (B : Nat) (m : ByteArray) (x : BarD) (u : Value) (w : World) (hB : w.cell? ⟨B, 0, none⟩ = some (.string m)) (hlt : B < w.heap.size) :
    Calls Try.prog 35 #[barv x u, .pointer (some ⟨B, 0, none⟩)] w fun e w' => e = .returned (.bool (isMark m x)) ∧ Below w.heap.size w w' := by
  have H := Lib.hid (bytes_beq x.mark m)
  obtain ⟨mk, s, c, co, ds⟩ := x
  go_enter Try.func35, Try.ntmps35
  go_wp2
  go_ret
  exact ⟨ret_bool H.out, by go_grown⟩

theorem zints_get {w : World} {ao : Option Addr} {n cap k : Nat} {l : List Int} {x : Int} (h : Ints w (.slice ao n cap) l) (hk : l[k]? = some x) :
    ∃ b off, ao = some ⟨b, off, none⟩ ∧ b < w.heap.size ∧ w.cell? ⟨b, off + k, none⟩ = some (.int .i64 x) := by
  obtain ⟨ao', cap', hv, h2⟩ := h
  cases hv
  obtain ⟨b, off, rfl, hlt, hc⟩ := h2 (by have := (List.getElem?_eq_some_iff.1 hk).1; omega)
  exact ⟨b, off, rfl, hlt, hc k x hk⟩
abbrev intv (x : Int) : Value := .int .i64 x
abbrev OwnI (w : World) (B : Nat) (o : Value) (l : List Int) : Prop := Own w B 3 intv o l

theorem wpList_pushO {α : Type} {P : Program} (w0 : World) (N : Nat) (hN : w0.heap.size = N) {ops : Array Oper} {rest : List Oper} {o : Oper} {a : Act} {Q : Exit → Act → World → Prop} (hgd : o.guard = none) (s x : Operand) (t : TypeId)
    (ho : o.op = .call { callee := .builtin .append, args := #[s, x], argTypes := #[t, t] })
    (e bytes : Nat) (he : Elem P t e bytes) (base : Nat) (f : α → Value) (v : Value) (l : List α) (y : α) (h1 : (f y).oneCell' = true)
    (hown : Own w0 base e f v l) (hs : a.eval s = v) (hx : a.eval x = .slice (some ⟨N, 0, none⟩) 1 1)
    (h63 : l.length + 1 ≤ 1099511627776) (hby : bytes ≤ 64) (hbase : base ≤ N)
    (hK : ∀ v' w', Own w' base e f v' (l ++ [y]) → w0.grownBy w' v.ownBlock → (v'.ownBlock = v.ownBlock ∨ ∃ g, w0.heap.size ≤ g ∧ v'.ownBlock = some g) → wpList P ops Q rest (a.put o.dst v') w') :
    wpList P ops Q (o :: rest) a (w0.alloc (.cells #[f y] e)) := by
  subst hN
  exact wpList_push w0 hgd s x t ho e bytes he base f v l y h1 hown hs hx h63 hby hbase hK
set_option maxRecDepth 100000 in
set_option maxHeartbeats 4000000 in
theorem shLegs_any (x : BarD) (uo : Option Addr) (uc : Nat) (w : World) (hd : Ints w (.slice uo x.dims.length uc) x.dims) (hm : x.mark.size ≤ maxLen) (hl : x.dims.length ≤ 140737488355328) (hok : barOk x = true) :
    Calls Try.prog 36 #[barv x (.slice uo x.dims.length uc)] w fun e w' => ∃ o, e = .returned (.tuple #[o, .int .i64 0]) ∧ OwnI w' w.heap.size o (dimL x) ∧ Below w.heap.size w w' := by
  have hb0 := below_new w (.cells #[.string x.mark, .int .i64 x.size, .int .i64 x.count, .int .i64 x.code, .slice uo x.dims.length uc] 54)
  have HV := Lib.hid (svalid_any x (.slice uo x.dims.length uc) _ (Sl.below hd hb0) hm hl)
  rw [hok] at HV
  have HDT := Lib.hid (fun (k : Nat) p (hk : (legsOf x.code)[k]? = some p) => dims_there hok hk)
  have HD := Lib.hid hd
  have HL6 := Lib.hid (legs_len6 x.code)
  have HLG := Lib.hid (fun W => slegs_full x.code W)
  have HSN := Lib.hid (fun (k : Nat) p (hk : (legsOf x.code)[k]? = some p) => dimsL_snoc x.dims hk)
  have HDL : Hid (dimL x = dimsL x.dims (legsOf x.code)) := rfl
  generalize dimL x = RS at *
  obtain ⟨m, s, c, co, ds⟩ := x
  simp only at *
  generalize legsOf co = ls at *
  clear hd hm hok
  go_enter Try.func36, Try.ntmps36
  go_wp2_with fail
  refine HV.out.mono ?_
  rintro e w1 ⟨rfl, hb1⟩
  have HB1 := Lib.hid (bstep hb0 hb1)
  have HX1 := Lib.hid ((BlkIs.new w #[.string m, .int .i64 s, .int .i64 c, .int .i64 co, .slice uo ds.length uc] 54).below hb1)
  have c3 := HX1.out.cell 3
  clear hb1 hb0 HV
  go_wp2_with fail
  refine (HLG.out w1).mono ?_
  rintro e w2 ⟨v, rfl, HL, HF, hb2⟩
  obtain ⟨lo, lc, rfl⟩ := HL.out.at_
  have HB2 := Lib.hid (bstep HB1.out hb2)
  have HX2 := Lib.hid (HX1.out.below hb2)
  have h6 : ls.length ≤ 6 := HL6.out
  clear hb2 HLG HF c3 HB1 HX1
  go_wp2_with fail
  go_loopw [4, 14] (fun o i wr => ∃ k : Nat, k ≤ ls.length ∧ i = .int .i64 (k : Int) ∧ Below w2.heap.size w2 wr ∧ OwnI wr w2.heap.size o (dimsL ds (ls.take k))) (fun _ i _ => ls.length - (intOf i).toNat)
  case atStart => exact ⟨0, Nat.zero_le _, rfl, Below.refl _ _, Own.nil _ _ _ _⟩
  case round =>
    obtain ⟨k, hk, rfl, hBr, hown⟩ := hrel
    have HB := Lib.hid hBr
    have HO := Lib.hid hown
    clear hBr hown
    by_cases hk2 : k < ls.length
    · obtain ⟨p, hp⟩ : ∃ y, ls[k]? = some y := ⟨_, List.getElem?_eq_getElem hk2⟩
      obtain ⟨d, hd, hd1⟩ := HDT.out k p hp
      have HS := Lib.hid (HSN.out k p hp)
      rw [hd] at HS
      simp only [Option.getD_some] at HS
      obtain ⟨lb, loff, rfl, hbl, g0, g1⟩ := legs_get (HL.out.below HB.out) hp
      have hx := HX2.out.below HB.out
      have b4 := hx.cell 4
      have bz := hx.lt
      obtain ⟨b, off, rfl, hdl, d0⟩ := zints_get (Sl.below (Sl.below HD.out HB2.out) HB.out) hd
      have k0 : (0 : Int) ≤ (p.1 : Int) := by omega
      have k1 : (p.1 : Int) < (ds.length : Int) := by have := (List.getElem?_eq_some_iff.1 hd).1; omega
      have hlen1 : (dimsL ds (ls.take k)).length + 1 ≤ 1099511627776 := by rw [dimsL_len, List.length_take]; omega
      have HO2 := Lib.hid (Own.alloc HO.out (.cells #[.int .i64 (p.1 : Int), .int .u8 (p.2 : Int)] 101))
      have HB2' := Lib.hid (HB.out.alloc HB.out.size (.cells #[.int .i64 (p.1 : Int), .int .u8 (p.2 : Int)] 101))
      have hN1 : (wr.alloc (.cells #[.int .i64 (p.1 : Int), .int .u8 (p.2 : Int)] 101)).heap.size = wr.heap.size + 1 := by simp
      have hbase : w2.heap.size ≤ wr.heap.size + 1 := by have := HB.out.size; omega
      clear hp hd hx
      go_wp2_with (at_builtin; refine wpList_pushO (wr.alloc (.cells #[.int .i64 (p.1 : Int), .int .u8 (p.2 : Int)] 101)) (wr.heap.size + 1) hN1 rfl _ _ 52 rfl 3 8 elemInt w2.heap.size intv _ _ d rfl HO2.out rfl rfl hlen1 (by omega) hbase ?_; intro v' w' hown' hg' hat'; have HO9 := Lib.hid hown'; have HB9 := Lib.hid (HB2'.out.grown hg' HB2'.out.size (fun j hj => (HO2.out.lt j hj).1)); clear hown' hg' hat')
      go_roundw
      case rel => exact ⟨k + 1, by omega, by go_num, HB9.out, by rw [HS.out]; exact HO9.out⟩
      case measure => simp [intOf]; omega
    · obtain rfl : k = ls.length := by omega
      rw [List.take_length] at HO
      have hz := HB2.out.size
      go_wp2
      go_ret2
      exact ⟨_, rfl, by rw [HDL.out]; exact Own.mono HO.out hz, bstep HB2.out HB.out⟩
end
end Go.Proofs.Ytpidjgljeooblaa
