/-
  The walk of ClashPoints.
-/
import Derived.Test.YtnlloecbjohfdaaCsi
import Derived.Test.YtnlloecbjohfdaaBkR
namespace Go.Proofs.Ytnlloecbjohfdaa
section
open Go.RowKit
set_option linter.unusedVariables false
set_option linter.unusedSimpArgs false
attribute [local go_sem ↓] Go.wp_at_zero Go.wp_at_succ

theorem sq_bd2 {d : Int} (h : -2097152 ≤ d ∧ d ≤ 2097152) : 0 ≤ d * d ∧ d * d ≤ 4398046511104 := by
  rcases Int.le_total 0 d with h0 | h0
  · exact sq_bd h0 h.2
  · have := sq_bd (n := -d) (by omega) (by omega)
    rw [Int.neg_mul_neg] at this
    exact this
/-! ### a point of a leg -/
def prt (lo hi p : Int) : Int := lo + Int.tdiv ((hi - lo) * p) 65535
theorem prt_in {lo hi p : Int} (h : lo ≤ hi) (h2 : hi - lo ≤ 2097152) (p0 : 0 ≤ p) (p1 : p ≤ 65535) : lo ≤ prt lo hi p ∧ prt lo hi p ≤ hi ∧ 0 ≤ (hi - lo) * p ∧ (hi - lo) * p ≤ 137438953472 ∧ 0 ≤ Int.tdiv ((hi - lo) * p) 65535 ∧ Int.tdiv ((hi - lo) * p) 65535 ≤ hi - lo := by
  have h0 : 0 ≤ (hi - lo) * p := Int.mul_nonneg (by omega) p0
  have h3 : (hi - lo) * p ≤ (hi - lo) * 65535 := Int.mul_le_mul_of_nonneg_left p1 (by omega)
  have e : Int.tdiv ((hi - lo) * p) 65535 = (hi - lo) * p / 65535 := Int.tdiv_eq_ediv_of_nonneg h0
  unfold prt
  rw [e]
  omega
theorem part_any (lo hi p : Int) (g : Nat) (w : World) (hg : BlkIs w g 48 #[.int .u16 p]) (h1 : -1048576 ≤ lo) (h : lo ≤ hi) (h2 : hi ≤ 1048576) (p0 : 0 ≤ p) (p1 : p ≤ 65535) :
    Calls Try.prog 28 #[.int .i64 lo, .int .i64 hi, .pointer (some ⟨g, 0, none⟩)] w fun e w' => e = .returned (.int .i64 (prt lo hi p)) ∧ Below w.heap.size w w' := by
  obtain ⟨a1, a2, a3, a4, a5, a6⟩ := prt_in h (by omega) p0 p1
  have HE : Hid (prt lo hi p = lo + Int.tdiv ((hi - lo) * p) 65535) := rfl
  rw [HE.out]
  have s1 : IntKind.i64.wrap (hi - lo) = hi - lo := IntWalk.i64_in _ (by omega)
  have s0 : IntKind.i64.wrap p = p := IntWalk.i64_in _ (by omega)
  have s2 : IntKind.i64.wrap ((hi - lo) * p) = (hi - lo) * p := IntWalk.i64_in _ (by omega)
  have s3 : IntKind.i64.wrap (Int.tdiv ((hi - lo) * p) 65535) = Int.tdiv ((hi - lo) * p) 65535 := IntWalk.i64_in _ (by omega)
  have s4 : IntKind.i64.wrap (lo + Int.tdiv ((hi - lo) * p) 65535) = lo + Int.tdiv ((hi - lo) * p) 65535 := IntWalk.i64_in _ (by omega)
  have c0 := hg.cell 0
  clear hg a1 a2 a3 a4 a5 a6
  go_enter Try.func28, Try.ntmps28
  go_wp2
  go_ret
  exact ⟨rfl, Below.refl _ _⟩
def ptAt (b : Bx) (p : Int) : Pt := ⟨prt b.lo.x b.hi.x p, prt b.lo.y b.hi.y p, prt b.lo.z b.hi.z p⟩
theorem ptAt_in {b : Bx} {p : Int} (h : bxOk b = true) (p0 : 0 ≤ p) (p1 : p ≤ 65535) : inBx b (ptAt b p) := by
  obtain ⟨⟨x1, x2, x3⟩, ⟨y1, y2, y3⟩, z1, z2, z3⟩ := bxOk_dec.1 h
  have a := prt_in x1 (by omega) p0 p1
  have b' := prt_in y1 (by omega) p0 p1
  have c := prt_in z1 (by omega) p0 p1
  exact ⟨⟨a.1, a.2.1⟩, ⟨b'.1, b'.2.1⟩, c.1, c.2.1⟩
set_option maxRecDepth 100000 in
set_option maxHeartbeats 4000000 in
theorem ptat_any (b : Bx) (p : Int) (w : World) (h : bxOk b = true) (p0 : 0 ≤ p) (p1 : p ≤ 65535) :
    Calls Try.prog 27 #[bxv b, .int .u16 p] w fun e w' => e = .returned (ptv (ptAt b p)) ∧ Below w.heap.size w w' := by
  obtain ⟨⟨x1, x2, x3⟩, ⟨y1, y2, y3⟩, z1, z2, z3⟩ := bxOk_dec.1 h
  have HPX := Lib.hid (fun g W (hg : BlkIs W g 48 #[.int .u16 p]) => part_any b.lo.x b.hi.x p g W hg x2 x1 x3 p0 p1)
  have HPY := Lib.hid (fun g W (hg : BlkIs W g 48 #[.int .u16 p]) => part_any b.lo.y b.hi.y p g W hg y2 y1 y3 p0 p1)
  have HPZ := Lib.hid (fun g W (hg : BlkIs W g 48 #[.int .u16 p]) => part_any b.lo.z b.hi.z p g W hg z2 z1 z3 p0 p1)
  have HPT : Hid (ptAt b p = ⟨prt b.lo.x b.hi.x p, prt b.lo.y b.hi.y p, prt b.lo.z b.hi.z p⟩) := rfl
  rw [HPT.out]
  generalize prt b.lo.x b.hi.x p = X at *
  generalize prt b.lo.y b.hi.y p = Y at *
  generalize prt b.lo.z b.hi.z p = Z at *
  obtain ⟨W0, hW0⟩ : ∃ W, ((w.alloc (.cells (bxCellsA b) 39)).alloc (.cells #[.int .u16 p] 48)).alloc (.cells #[.int .i64 0, .int .i64 0, .int .i64 0] 35) = W := ⟨_, rfl⟩
  have hx2 := BlkIs.new1 (w.alloc (.cells (bxCellsA b) 39)) (.cells #[.int .u16 p] 48) #[.int .i64 0, .int .i64 0, .int .i64 0] 35
  simp only [World.size_alloc] at hx2
  have HX0 : Hid (BlkIs W0 w.heap.size 39 (bxCellsA b) ∧ BlkIs W0 (w.heap.size + 1) 48 #[.int .u16 p] ∧ BlkIs W0 (w.heap.size + 1 + 1) 35 #[.int .i64 0, .int .i64 0, .int .i64 0] ∧ Below w.heap.size w W0) := by
    unfold Hid
    rw [← hW0]
    exact ⟨((BlkIs.new w _ _).alloc _).alloc _, (BlkIs.new1 w _ _ _).alloc _, hx2, by go_grown⟩
  clear x1 x2 x3 y1 y2 y3 z1 z2 z3 h p0 p1 hx2 HPT
  go_enter Try.func27, Try.ntmps27
  go_wp2_with fail
  clear hW0
  have c0 := fun d os => cell_regrown (HX0.out.1.cell 0) d os
  have c1 := fun d os => cell_regrown (HX0.out.1.cell 1) d os
  have c2 := fun d os => cell_regrown (HX0.out.1.cell 2) d os
  have c3 := fun d os => cell_regrown (HX0.out.1.cell 3) d os
  have c4 := fun d os => cell_regrown (HX0.out.1.cell 4) d os
  have c5 := fun d os => cell_regrown (HX0.out.1.cell 5) d os
  refine wp_region_below_tail 25 (by kernel_rfl) (by kernel_rfl) ?_
  simp only [List.take_succ_cons, List.take_zero, List.drop_succ_cons, List.drop_zero]
  repeat (go_big_quiet_step ((first
    | (go_at_call 28; with_reducible exact Calls.regrown_of (HPX.out _ _ (HX0.out.2.1.below (below_regrown _ _ _))))
    | (go_at_call 28; with_reducible exact Calls.regrown_of (HPY.out _ _ (HX0.out.2.1.below (below_regrown _ _ _))))
    | (go_at_call 28; with_reducible exact Calls.regrown_of (HPZ.out _ _ (HX0.out.2.1.below (below_regrown _ _ _)))))))
  refine wpQuiet_nil ?_
  intro _ hw'
  obtain ⟨⟨nq, osq⟩, hw''⟩ := hw'
  subst hw''
  have HB2 := Lib.hid (bstep HX0.out.2.2.2 (below_regrown _ nq osq))
  have HR2 := Lib.hid (HX0.out.2.2.1.below (below_regrown _ nq osq))
  clear c0 c1 c2 c3 c4 c5
  generalize Go.Sort.grow (redrawn W0 nq) osq = W2 at *
  have e0 := HR2.out.cell 0
  have e1 := HR2.out.cell 1
  have e2 := HR2.out.cell 2
  have ef := HR2.out.free
  have ez := HR2.out.lt
  have g0 : W2.cell? ⟨w.heap.size + 2, 0, none⟩ = some (.int .i64 0) := HR2.out.cell 0
  have g1 : W2.cell? ⟨w.heap.size + 2, 1, none⟩ = some (.int .i64 0) := HR2.out.cell 1
  have g2 : W2.cell? ⟨w.heap.size + 2, 2, none⟩ = some (.int .i64 0) := HR2.out.cell 2
  have gf : ∀ i, W2.frozen? ⟨w.heap.size + 2, i, none⟩ = false := HR2.out.free
  have gz : w.heap.size + 2 < W2.heap.size := HR2.out.lt
  go_wp2
  refine bodyPost_ret (v := ptv ⟨X, Y, Z⟩) (by simp [results, Try.results27, go_sem, e0, e1, e2, ef, ez, g0, g1, g2, gf, gz]) rfl ⟨rfl, ?_⟩
  exact ((HB2.out.setCell (p := ⟨w.heap.size + 1 + 1, 0, none⟩) (Nat.le_add_right _ 2) _).setCell (p := ⟨w.heap.size + 1 + 1, 1, none⟩) (Nat.le_add_right _ 2) _).setCell (p := ⟨w.heap.size + 1 + 1, 2, none⟩) (Nat.le_add_right _ 2) _

/-! ### the law -/
structure CpW (w : World) (xv yv : Value) (X Y : List Bx) (wr : World) : Prop where
  below : Below w.heap.size w wr
  xs : Bxs wr xv X
  ys : Bxs wr yv Y
theorem CpW.after {w wr w' : World} {xv yv : Value} {X Y : List Bx} (h : CpW w xv yv X Y wr) (hb : Below wr.heap.size wr w') : CpW w xv yv X Y w' := ⟨bstep h.below hb, Fl.below h.xs hb, Fl.below h.ys hb⟩
abbrev CSix (b o : Nat) (p : Bx) (W : World) : Prop :=
  W.cell? ⟨b, o, none⟩ = some (.int .i64 p.lo.x) ∧ W.cell? ⟨b, o + 1, none⟩ = some (.int .i64 p.lo.y) ∧ W.cell? ⟨b, o + 2, none⟩ = some (.int .i64 p.lo.z) ∧ W.cell? ⟨b, o + 3, none⟩ = some (.int .i64 p.hi.x) ∧ W.cell? ⟨b, o + 4, none⟩ = some (.int .i64 p.hi.y) ∧ W.cell? ⟨b, o + 5, none⟩ = some (.int .i64 p.hi.z)
theorem csix_of {W : World} {b off len cap k : Nat} {l : List Bx} {p : Bx} (h : Bxs W (.slice (some ⟨b, off, none⟩) len cap) l) (hk : l[k]? = some p) : CSix b (off + k * 6) p W := by
  obtain ⟨b', off', he, _, h0, h1, h2, h3, h4, h5⟩ := bxs_get h hk
  cases he
  exact ⟨h0, h1, h2, h3, h4, h5⟩
theorem bxs_else {W W' : World} {b off len cap g : Nat} {l : List Bx} (h : Bxs W (.slice (some ⟨b, off, none⟩) len cap) l) (hg : W.grownBy W' (some g)) (hne : b ≠ g) : Bxs W' (.slice (some ⟨b, off, none⟩) len cap) l :=
  Fl.keep h hg.size fun b' o hb ⟨_, _, _, e⟩ => by cases e; exact grown_cell hg hb hne
theorem CpW.other {w wr w' : World} {X Y : List Bx} {b off len cap b' off' len' cap' g : Nat} (h : CpW w (.slice (some ⟨b, off, none⟩) len cap) (.slice (some ⟨b', off', none⟩) len' cap') X Y wr) (hg : wr.grownBy w' (some g)) (h0 : w.heap.size ≤ g) (h1 : b < g) (h2 : b' < g) :
    CpW w (.slice (some ⟨b, off, none⟩) len cap) (.slice (some ⟨b', off', none⟩) len' cap') X Y w' :=
  ⟨h.below.grown hg h.below.size (fun j hj => by cases hj; omega), bxs_else h.xs hg (by omega), bxs_else h.ys hg (by omega)⟩
/-- A remainder by a length, as a place. -/
theorem rem_at (i : Int) (n : Nat) (h0 : 0 ≤ i) (hn : 0 < n) : ∃ a : Nat, Int.tmod i (n : Int) = (a : Int) ∧ i % (n : Int) = (a : Int) ∧ a < n := by
  have h1 := Int.emod_nonneg i (show (n : Int) ≠ 0 by omega)
  have h2 := Int.emod_lt_of_pos i (show (0 : Int) < (n : Int) by omega)
  refine ⟨(i % (n : Int)).toNat, ?_, by omega, by omega⟩
  rw [Int.tmod_eq_emod_of_nonneg h0]
  omega
theorem pts_far {L : List (List Bx)} {Z : List Int} {i k : Nat} (hz : LzOk L Z) (hi : i < L.length) (hk : k < L.length) {a b : Bx} {p q : Pt} (ha : a ∈ L.getD i []) (hb : b ∈ L.getD k []) (hp : inBx a p) (hq : inBx b q) : (sqAt L i k).n ≤ dist2 p q := by
  obtain ⟨p1, _, _⟩ := hz.legs i hi
  obtain ⟨q1, _, _⟩ := hz.legs k hk
  obtain ⟨c, d, _, _, he, hle⟩ := allS_best p1 q1
  have h : sqAt L i k = ⟨sqN c d 3, nearP c d, nearQ c d⟩ := he
  rw [h]
  exact Int.le_trans (hle a ha b hb) (dist_ge hp hq)

set_option maxRecDepth 100000 in
set_option maxHeartbeats 32000000 in
theorem clashPoints_walk (w : World) (v : Value) (l : List BarD) (hp : Bars w v l) (hf : FitB l) (hl : l.length * 64 ≤ 140737488351232) (vr : Value) (rs : List RunD) (hr : Runs w vr rs) (hm : ∀ r ∈ rs, r.mark.size ≤ maxLen) (hlr : rs.length * 88 ≤ 140737488351232)
    (i : Int) (wi : (Lit.int .u8 i).wf = true) (k : Int) (wk : (Lit.int .u8 k).wf = true) (u : Int) (wu : (Lit.int .u8 u).wf = true) (vv : Int) (wv : (Lit.int .u8 vv).wf = true) (s : Int) (ws : (Lit.int .u16 s).wf = true) (t : Int) (wt : (Lit.int .u16 t).wf = true) :
    Calls Try.prog 6 #[v, vr, .int .u8 i, .int .u8 k, .int .u8 u, .int .u8 vv, .int .u16 s, .int .u16 t] w fun e w' => e = .returned (.bool true) ∧ Below w.heap.size w w' := by
  have hl2 : l.length ≤ 140737488355328 := by omega
  have hlr2 : rs.length ≤ 140737488355328 := by omega
  have HRD := Lib.hid (fun W (hW : Below w.heap.size w W) => ready_any v vr l rs W (hp.below hW) (hr.below hW) hl2 hlr2 hf)
  have HP := Lib.hid hp
  have HR := Lib.hid hr
  have HFI := Lib.hid hf
  obtain ⟨i0, i1⟩ := Go.bounds_u8 wi
  obtain ⟨k0, k1⟩ := Go.bounds_u8 wk
  obtain ⟨u0, u1⟩ := Go.bounds_u8 wu
  obtain ⟨v0, v1⟩ := Go.bounds_u8 wv
  obtain ⟨s0, s1⟩ := Go.bounds_u16 ws
  obtain ⟨t0, t1⟩ := Go.bounds_u16 wt
  have ci : IntKind.i64.wrap i = i := IntWalk.i64_in _ (by omega)
  have ck : IntKind.i64.wrap k = k := IntWalk.i64_in _ (by omega)
  have cu : IntKind.i64.wrap u = u := IntWalk.i64_in _ (by omega)
  have cv : IntKind.i64.wrap vv = vv := IntWalk.i64_in _ (by omega)
  clear hp hr hf hl hm hlr wi wk wu wv ws wt
  go_enter Try.func6, Try.ntmps6
  go_wp2_with fail
  refine (cawake_any _).mono ?_
  rintro e w1 ⟨rfl, hb1⟩
  have HW1 := Lib.hid hb1
  clear hb1
  go_wp2_with fail
  refine (HRD.out _ HW1.out).mono ?_
  rintro e w2 ⟨q, rfl, hb2, hq⟩
  have HW2 := Lib.hid (bstep HW1.out hb2)
  have HQ := Lib.hid hq
  clear hb2 hq HW1
  cases q
  · go_wp2
    go_ret
    exact ⟨rfl, HW2.out⟩
  · obtain ⟨hok, h14⟩ := HQ.out rfl
    have HLZ := Lib.hid (lzOk_of hok)
    have HCO := Lib.hid (fun W (hW : Below w.heap.size w W) => count_good v vr l rs W (HP.out.below hW) (HR.out.below hW) hl2 hlr2 HFI.out hok)
    have HLG := Lib.hid (fun (i : Nat) (hi : i < (lgsOf l rs).length) W (hW : Below w.heap.size w W) => legsI_good v vr l rs i W (HP.out.below hW) (HR.out.below hW) hl2 hlr2 HFI.out hok hi)
    have HSQ := Lib.hid (fun i k W (hW : Below w.heap.size w W) => csqI_good v vr i k l rs W (HP.out.below hW) (HR.out.below hW) hl2 hlr2 HFI.out hok)
    rw [← lgsOf_len l rs] at HCO
    generalize lgsOf l rs = L at *
    generalize szsOf l rs = Z at *
    clear hok HQ HRD
    go_wp2_with fail
    refine (HCO.out _ HW2.out).mono ?_
    rintro e w3 ⟨rfl, hb3⟩
    have HW3 := Lib.hid (bstep HW2.out hb3)
    clear hb3 HW2 HCO
    by_cases hn2 : L.length < 2
    · have d1 : decide ((L.length : Int) < 2) = true := dec_yes (by omega)
      have hh1 : (L.length : Int) < 2 := by omega
      go_wp2
      go_ret
      exact ⟨rfl, HW3.out⟩
    · have d1 : decide ((L.length : Int) < 2) = false := dec_no (by omega)
      have hh1 : ¬ (L.length : Int) < 2 := by omega
      obtain ⟨a, ra1, ra2, ra3⟩ := rem_at i L.length i0 (by omega)
      obtain ⟨b, rb1, rb2, rb3⟩ := rem_at k L.length k0 (by omega)
      have nz : ¬ (L.length : Int) = 0 := by omega
      have wa : IntKind.i64.wrap (a : Int) = (a : Int) := IntWalk.i64_in _ (by omega)
      have wb : IntKind.i64.wrap (b : Int) = (b : Int) := IntWalk.i64_in _ (by omega)
      go_wp2_with fail
      refine wp_region_quiet_below (by kernel_rfl) (by kernel_rfl) ?_
      repeat (go_big_quiet_step ((first
        | fail)))
      refine wpQuiet_nil ?_
      intro _ hw'
      obtain ⟨⟨nq, osq⟩, hw''⟩ := hw'
      subst hw''
      have HW4 := Lib.hid (bstep HW3.out (below_regrown w3 nq osq))
      generalize Go.Sort.grow (redrawn w3 nq) osq = w4 at *
      clear HW3
      by_cases hab : a = b
      · have d2 : ((a : Int) == (b : Int)) = true := beq_yes (by omega)
        clear hab
        go_wp2
        go_ret
        exact ⟨rfl, HW4.out⟩
      · have d2 : ((a : Int) == (b : Int)) = false := beq_no (by omega)
        have HE := Lib.hid (sqE_ok (n := (L.length : Int)) (i := (a : Int)) (k := (b : Int)) (by omega) (by omega))
        have HV : Hid (sqV L a b = (sqAt L a b).n) := by
          unfold Hid sqV
          rw [if_pos HE.out]
          rfl
        have HSQ2 := Lib.hid (HSQ.out (a : Int) (b : Int))
        rw [HE.out, HV.out] at HSQ2
        have HFAR := Lib.hid (fun (x y : Bx) p q hx hy hp hq => pts_far (a := x) (b := y) (p := p) (q := q) HLZ.out ra3 rb3 hx hy hp hq)
        obtain ⟨p1, p2, p3⟩ := HLZ.out.legs a ra3
        obtain ⟨q1, q2, q3⟩ := HLZ.out.legs b rb3
        have HLA := Lib.hid (HLG.out a ra3)
        have HLB := Lib.hid (HLG.out b rb3)
        generalize L.getD a [] = A at *
        generalize L.getD b [] = B at *
        generalize (sqAt L a b).n = sq at *
        have HOA := Lib.hid (List.all_eq_true.1 p3)
        have HOB := Lib.hid (List.all_eq_true.1 q3)
        clear HSQ HE HV HLG p3 q3 hab
        go_wp2_with fail
        refine (HLA.out _ HW4.out).mono ?_
        rintro e w5 ⟨xo, rfl, hxo, hb5⟩
        obtain ⟨xa, xc, rfl⟩ := OwnN.shape hxo
        have HW5 := Lib.hid (bstep HW4.out hb5)
        have HX5 := Lib.hid (OwnN.fl bx_len hxo)
        clear hb5 hxo HLA HW4
        go_wp2_with fail
        refine (HLB.out _ HW5.out).mono ?_
        rintro e w6 ⟨yo, rfl, hyo, hb6⟩
        obtain ⟨ya, yc, rfl⟩ := OwnN.shape hyo
        have HC6 : Hid (CpW w (.slice xa A.length xc) (.slice ya B.length yc) A B w6) := ⟨bstep HW5.out hb6, Fl.below HX5.out hb6, OwnN.fl bx_len hyo⟩
        clear hb6 hyo HLB HW5 HX5
        go_wp2_with fail
        refine (HSQ2.out _ HC6.out.below).mono ?_
        rintro e w7 ⟨rfl, hb7⟩
        have HC7 := Lib.hid (HC6.out.after hb7)
        clear hb7 HC6 HSQ2
        have d3 : ((A.length : Int) == 0) = false := beq_no (by omega)
        have d4 : ((B.length : Int) == 0) = false := beq_no (by omega)
        have d5 : ¬ (A.length : Int) = 0 := by omega
        have d6 : ¬ (B.length : Int) = 0 := by omega
        obtain ⟨m, rm1, rm2, rm3⟩ := rem_at u A.length u0 (by omega)
        obtain ⟨n, rn1, rn2, rn3⟩ := rem_at vv B.length v0 (by omega)
        have wm : IntKind.i64.wrap (m : Int) = (m : Int) := IntWalk.i64_in _ (by omega)
        have wn : IntKind.i64.wrap (n : Int) = (n : Int) := IntWalk.i64_in _ (by omega)
        have m0 : (0 : Int) ≤ (m : Int) := by omega
        have m1 : (m : Int) < (A.length : Int) := by omega
        have n0 : (0 : Int) ≤ (n : Int) := by omega
        have n1 : (n : Int) < (B.length : Int) := by omega
        obtain ⟨x, hx⟩ : ∃ y, A[m]? = some y := ⟨_, List.getElem?_eq_getElem rm3⟩
        obtain ⟨y, hy⟩ : ∃ y, B[n]? = some y := ⟨_, List.getElem?_eq_getElem rn3⟩
        obtain ⟨b0, off0, rfl, hbl0, _, _, _, _, _, _⟩ := bxs_get HC7.out.xs hx
        obtain ⟨b1, off1, rfl, hbl1, _, _, _, _, _, _⟩ := bxs_get HC7.out.ys hy
        have HXA := Lib.hid hx
        have HYB := Lib.hid hy
        have hox := HOA.out x (List.mem_of_getElem? hx)
        have hoy := HOB.out y (List.mem_of_getElem? hy)
        have hpx := ptAt_in hox s0 (by omega)
        have hpy := ptAt_in hoy t0 (by omega)
        have HD := Lib.hid (HFAR.out x y _ _ (List.mem_of_getElem? hx) (List.mem_of_getElem? hy) hpx hpy)
        have HCA := Lib.hid (fun W => ptat_any x s W hox s0 (by omega))
        have HCB := Lib.hid (fun W => ptat_any y t W hoy t0 (by omega))
        have hbx := bxOk_dec.1 hox
        have hby := bxOk_dec.1 hoy
        have HZ7 : Hid (b0 < w7.heap.size ∧ b1 < w7.heap.size ∧ w.heap.size ≤ w7.heap.size) := ⟨hbl0, hbl1, HC7.out.below.size⟩
        unfold inBx at hpx hpy
        generalize ptAt x s = P at *
        generalize ptAt y t = Q at *
        have hd1 : -2097152 ≤ P.x - Q.x ∧ P.x - Q.x ≤ 2097152 := by omega
        have hd2 : -2097152 ≤ P.y - Q.y ∧ P.y - Q.y ≤ 2097152 := by omega
        have hd3 : -2097152 ≤ P.z - Q.z ∧ P.z - Q.z ≤ 2097152 := by omega
        have sb1 := sq_bd2 hd1
        have sb2 := sq_bd2 hd2
        have sb3 := sq_bd2 hd3
        have vq1 : wrap64 ((P.x - Q.x) * (P.x - Q.x)) = (P.x - Q.x) * (P.x - Q.x) := IntWalk.wrap64_in _ (by omega)
        have vq2 : wrap64 ((P.y - Q.y) * (P.y - Q.y)) = (P.y - Q.y) * (P.y - Q.y) := IntWalk.wrap64_in _ (by omega)
        have vq3 : wrap64 ((P.z - Q.z) * (P.z - Q.z)) = (P.z - Q.z) * (P.z - Q.z) := IntWalk.wrap64_in _ (by omega)
        have vq4 : wrap64 ((P.x - Q.x) * (P.x - Q.x) + (P.y - Q.y) * (P.y - Q.y)) = (P.x - Q.x) * (P.x - Q.x) + (P.y - Q.y) * (P.y - Q.y) := IntWalk.wrap64_in _ (by omega)
        have vq5 : wrap64 ((P.x - Q.x) * (P.x - Q.x) + (P.y - Q.y) * (P.y - Q.y) + (P.z - Q.z) * (P.z - Q.z)) = (P.x - Q.x) * (P.x - Q.x) + (P.y - Q.y) * (P.y - Q.y) + (P.z - Q.z) * (P.z - Q.z) := IntWalk.wrap64_in _ (by omega)
        have HDD : Hid (dist2 P Q = (P.x - Q.x) * (P.x - Q.x) + (P.y - Q.y) * (P.y - Q.y) + (P.z - Q.z) * (P.z - Q.z)) := rfl
        rw [HDD.out] at HD
        clear hx hy hox hoy hpx hpy hbx hby hbl0 hbl1 HFAR HOA HOB HDD HLZ
        go_wp2_with fail
        refine wp_region_held_drew (S := fun W => CSix b0 (off0 + m * 6) x W ∧ CSix b1 (off1 + n * 6) y W) (by kernel_rfl) ⟨csix_of HC7.out.xs HXA.out, csix_of HC7.out.ys HYB.out⟩ (fun hS => ?_)
        have HX0 : Hid (CpW w (.slice (some ⟨b0, off0, none⟩) A.length xc) (.slice (some ⟨b1, off1, none⟩) B.length yc) A B w7.drew) := HC7.out.after (Below.refl _ _).drew
        have HZ0 : Hid (b0 < w7.drew.heap.size ∧ b1 < w7.drew.heap.size ∧ w.heap.size ≤ w7.drew.heap.size) := HZ7.out
        clear HC7 HZ7
        refine wpAnyH_takeV (i := 0) (some 106) (.func (.func 27) #[] #[]) rfl rfl (by kernel_rfl) (fun _ _ _ h => h) (Or.inl ⟨by rfl, (fun W _ => by rfl)⟩) hS ?_
        simp only [Act.put, List.setIfInBounds_toArray, List.set_cons_zero, List.set_cons_succ]
        refine wpAnyH_takeV (i := 1) (some 107) (.slice (some ⟨b0, off0, none⟩) A.length xc) rfl rfl (by kernel_rfl) (fun _ _ _ h => h) (Or.inl ⟨by rfl, (fun W _ => by rfl)⟩) hS ?_
        simp only [Act.put, List.setIfInBounds_toArray, List.set_cons_zero, List.set_cons_succ]
        refine wpAnyH_takeV (i := 2) (some 108) (.int .u8 u) rfl rfl (by kernel_rfl) (fun _ _ _ h => h) (Or.inl ⟨by rfl, (fun W _ => by rfl)⟩) hS ?_
        simp only [Act.put, List.setIfInBounds_toArray, List.set_cons_zero, List.set_cons_succ]
        refine wpAnyH_takeV (i := 3) (some 109) (.int .i64 u) rfl rfl (by kernel_rfl) (fun _ _ _ h => h) (Or.inl ⟨by rfl, (by intro W hW; obtain ⟨⟨x0, x1, x2, x3, x4, x5⟩, y0, y1, y2, y3, y4, y5⟩ := hW; go_simp)⟩) hS ?_
        simp only [Act.put, List.setIfInBounds_toArray, List.set_cons_zero, List.set_cons_succ]
        refine wpAnyH_takeV (i := 4) (some 110) (.slice (some ⟨b0, off0, none⟩) A.length xc) rfl rfl (by kernel_rfl) (fun _ _ _ h => h) (Or.inl ⟨by rfl, (fun W _ => by rfl)⟩) hS ?_
        simp only [Act.put, List.setIfInBounds_toArray, List.set_cons_zero, List.set_cons_succ]
        refine wpAnyH_takeV (i := 5) (some 111) (.int .i64 (A.length : Int)) rfl rfl (by kernel_rfl) (fun _ _ _ h => h) (Or.inl ⟨by rfl, (by intro W hW; obtain ⟨⟨x0, x1, x2, x3, x4, x5⟩, y0, y1, y2, y3, y4, y5⟩ := hW; go_simp)⟩) hS ?_
        simp only [Act.put, List.setIfInBounds_toArray, List.set_cons_zero, List.set_cons_succ]
        refine wpAnyH_takeV (i := 6) (some 112) (.int .i64 (m : Int)) rfl rfl (by kernel_rfl) (fun _ _ _ h => h) (Or.inl ⟨by rfl, (fun W _ => by go_simp; exact List.ne_nil_of_length_pos p1)⟩) hS ?_
        simp only [Act.put, List.setIfInBounds_toArray, List.set_cons_zero, List.set_cons_succ]
        refine wpAnyH_takeV (i := 7) (some 113) (.pointer (some ⟨b0, off0 + m * 6, none⟩)) rfl rfl (by kernel_rfl) (fun _ _ _ h => h) (Or.inl ⟨by rfl, (by intro W hW; obtain ⟨⟨x0, x1, x2, x3, x4, x5⟩, y0, y1, y2, y3, y4, y5⟩ := hW; go_simp)⟩) hS ?_
        simp only [Act.put, List.setIfInBounds_toArray, List.set_cons_zero, List.set_cons_succ]
        refine wpAnyH_takeV (i := 8) (some 114) (.agg #[.int .i64 x.lo.x, .int .i64 x.lo.y, .int .i64 x.lo.z, .int .i64 x.hi.x, .int .i64 x.hi.y, .int .i64 x.hi.z]) rfl rfl (by kernel_rfl) (fun _ _ _ h => h) (Or.inl ⟨by rfl, (by intro W hW; obtain ⟨⟨x0, x1, x2, x3, x4, x5⟩, y0, y1, y2, y3, y4, y5⟩ := hW; go_simp)⟩) hS ?_
        simp only [Act.put, List.setIfInBounds_toArray, List.set_cons_zero, List.set_cons_succ]
        refine wpAnyH_takeV (i := 9) (some 115) (.int .u16 s) rfl rfl (by kernel_rfl) (fun _ _ _ h => h) (Or.inl ⟨by rfl, (fun W _ => by rfl)⟩) hS ?_
        simp only [Act.put, List.setIfInBounds_toArray, List.set_cons_zero, List.set_cons_succ]
        refine wpAnyH_takeV (i := 11) (some 117) (.func (.func 27) #[] #[]) rfl rfl (by kernel_rfl) (fun _ _ _ h => h) (Or.inl ⟨by rfl, (fun W _ => by rfl)⟩) hS ?_
        simp only [Act.put, List.setIfInBounds_toArray, List.set_cons_zero, List.set_cons_succ]
        refine wpAnyH_takeV (i := 12) (some 118) (.slice (some ⟨b1, off1, none⟩) B.length yc) rfl rfl (by kernel_rfl) (fun _ _ _ h => h) (Or.inl ⟨by rfl, (fun W _ => by rfl)⟩) hS ?_
        simp only [Act.put, List.setIfInBounds_toArray, List.set_cons_zero, List.set_cons_succ]
        refine wpAnyH_takeV (i := 13) (some 119) (.int .u8 vv) rfl rfl (by kernel_rfl) (fun _ _ _ h => h) (Or.inl ⟨by rfl, (fun W _ => by rfl)⟩) hS ?_
        simp only [Act.put, List.setIfInBounds_toArray, List.set_cons_zero, List.set_cons_succ]
        refine wpAnyH_takeV (i := 14) (some 120) (.int .i64 vv) rfl rfl (by kernel_rfl) (fun _ _ _ h => h) (Or.inl ⟨by rfl, (by intro W hW; obtain ⟨⟨x0, x1, x2, x3, x4, x5⟩, y0, y1, y2, y3, y4, y5⟩ := hW; go_simp)⟩) hS ?_
        simp only [Act.put, List.setIfInBounds_toArray, List.set_cons_zero, List.set_cons_succ]
        refine wpAnyH_takeV (i := 15) (some 121) (.slice (some ⟨b1, off1, none⟩) B.length yc) rfl rfl (by kernel_rfl) (fun _ _ _ h => h) (Or.inl ⟨by rfl, (fun W _ => by rfl)⟩) hS ?_
        simp only [Act.put, List.setIfInBounds_toArray, List.set_cons_zero, List.set_cons_succ]
        refine wpAnyH_takeV (i := 16) (some 122) (.int .i64 (B.length : Int)) rfl rfl (by kernel_rfl) (fun _ _ _ h => h) (Or.inl ⟨by rfl, (by intro W hW; obtain ⟨⟨x0, x1, x2, x3, x4, x5⟩, y0, y1, y2, y3, y4, y5⟩ := hW; go_simp)⟩) hS ?_
        simp only [Act.put, List.setIfInBounds_toArray, List.set_cons_zero, List.set_cons_succ]
        refine wpAnyH_takeV (i := 17) (some 123) (.int .i64 (n : Int)) rfl rfl (by kernel_rfl) (fun _ _ _ h => h) (Or.inl ⟨by rfl, (fun W _ => by go_simp; exact List.ne_nil_of_length_pos q1)⟩) hS ?_
        simp only [Act.put, List.setIfInBounds_toArray, List.set_cons_zero, List.set_cons_succ]
        refine wpAnyH_takeV (i := 18) (some 124) (.pointer (some ⟨b1, off1 + n * 6, none⟩)) rfl rfl (by kernel_rfl) (fun _ _ _ h => h) (Or.inl ⟨by rfl, (by intro W hW; obtain ⟨⟨x0, x1, x2, x3, x4, x5⟩, y0, y1, y2, y3, y4, y5⟩ := hW; go_simp)⟩) hS ?_
        simp only [Act.put, List.setIfInBounds_toArray, List.set_cons_zero, List.set_cons_succ]
        refine wpAnyH_takeV (i := 19) (some 125) (.agg #[.int .i64 y.lo.x, .int .i64 y.lo.y, .int .i64 y.lo.z, .int .i64 y.hi.x, .int .i64 y.hi.y, .int .i64 y.hi.z]) rfl rfl (by kernel_rfl) (fun _ _ _ h => h) (Or.inl ⟨by rfl, (by intro W hW; obtain ⟨⟨x0, x1, x2, x3, x4, x5⟩, y0, y1, y2, y3, y4, y5⟩ := hW; go_simp)⟩) hS ?_
        simp only [Act.put, List.setIfInBounds_toArray, List.set_cons_zero, List.set_cons_succ]
        refine wpAnyH_takeV (i := 20) (some 126) (.int .u16 t) rfl rfl (by kernel_rfl) (fun _ _ _ h => h) (Or.inl ⟨by rfl, (fun W _ => by rfl)⟩) hS ?_
        simp only [Act.put, List.setIfInBounds_toArray, List.set_cons_zero, List.set_cons_succ]
        clear hS
        refine wpAnyH_ready (rs := [10, 22, 23]) (by kernel_rfl) (by simp) ?_
        refine (AllReadyH.cons (o := _) rfl (fun K' HK => ?_) (AllReadyH.cons (o := _) rfl (fun K' HK => ?_) (AllReadyH.cons (o := _) rfl (fun K' HK => ?_) AllReadyH.nil)))
        · skip
          refine step_callA rfl (some 116) rfl 27 #[bxv x, .int .u16 s] (by go_simp) (fun v W => v = ptv P ∧ Below w7.drew.heap.size w7.drew W) ((HCA.out _).mono fun e w' h => ⟨_, h.1, rfl, h.2⟩) ?_
          rintro v9 y1_ ⟨rfl, hb9⟩
          have HX1 := Lib.hid (HX0.out.after hb9)
          have HZ1 : Hid (b0 < y1_.heap.size ∧ b1 < y1_.heap.size ∧ w.heap.size ≤ y1_.heap.size) := by
            have h1 := hb9.size
            have h2 := HZ0.out
            exact ⟨by omega, by omega, by omega⟩
          clear hb9
          refine HK.out _ _ ⟨csix_of HX1.out.xs HXA.out, csix_of HX1.out.ys HYB.out⟩ (fun hS => ?_)
          clear HK K'
          simp only [Act.put, List.setIfInBounds_toArray, List.set_cons_zero, List.set_cons_succ]
          clear hS
          refine wpAnyH_ready (rs := [21, 22, 23]) (by kernel_rfl) (by simp) ?_
          refine (AllReadyH.cons (o := _) rfl (fun K' HK => ?_) (AllReadyH.cons (o := _) rfl (fun K' HK => ?_) (AllReadyH.cons (o := _) rfl (fun K' HK => ?_) AllReadyH.nil)))
          · skip
            refine step_callA rfl (some 127) rfl 27 #[bxv y, .int .u16 t] (by go_simp) (fun v W => v = ptv Q ∧ Below y1_.heap.size y1_ W) ((HCB.out _).mono fun e w' h => ⟨_, h.1, rfl, h.2⟩) ?_
            rintro v9 y2_ ⟨rfl, hb9⟩
            have HX2 := Lib.hid (HX1.out.after hb9)
            have HZ2 : Hid (b0 < y2_.heap.size ∧ b1 < y2_.heap.size ∧ w.heap.size ≤ y2_.heap.size) := by
              have h1 := hb9.size
              have h2 := HZ1.out
              exact ⟨by omega, by omega, by omega⟩
            clear hb9
            refine HK.out _ _ ⟨csix_of HX2.out.xs HXA.out, csix_of HX2.out.ys HYB.out⟩ (fun hS => ?_)
            clear HK K'
            simp only [Act.put, List.setIfInBounds_toArray, List.set_cons_zero, List.set_cons_succ]
            clear hS
            refine wpAnyH_ready (rs := [22, 23]) (by kernel_rfl) (by simp) ?_
            refine (AllReadyH.cons (o := _) rfl (fun K' HK => ?_) (AllReadyH.cons (o := _) rfl (fun K' HK => ?_) AllReadyH.nil))
            · skip
              refine step_allocA rfl _ rfl (some 28) rfl _ (run_alloc_pt _) ?_
              intro g3 y3_ hge hbk hb9
              have HX3 := Lib.hid (HX2.out.after hb9)
              have HZ3 : Hid (b0 < y3_.heap.size ∧ b1 < y3_.heap.size ∧ w.heap.size ≤ y3_.heap.size) := by
                have h1 := hb9.size
                have h2 := HZ2.out
                exact ⟨by omega, by omega, by omega⟩
              have HB3 := Lib.hid hbk
              have HG3 : Hid (b0 < g3 ∧ b1 < g3 ∧ w.heap.size ≤ g3) := by
                have h2 := HZ2.out
                exact ⟨by omega, by omega, by omega⟩
              clear hge hbk hb9
              refine HK.out _ _ ⟨csix_of HX3.out.xs HXA.out, csix_of HX3.out.ys HYB.out⟩ (fun hS => ?_)
              clear HK K'
              simp only [Act.put, List.setIfInBounds_toArray, List.set_cons_zero, List.set_cons_succ]
              clear hS
              refine wpAnyH_ready (rs := [23]) (by kernel_rfl) (by simp) ?_
              refine (AllReadyH.cons (o := _) rfl (fun K' HK => ?_) AllReadyH.nil)
              · skip
                refine step_allocA rfl _ rfl (some 29) rfl _ (run_alloc_pt _) ?_
                intro g4 y4_ hge hbk hb9
                have HX4 := Lib.hid (HX3.out.after hb9)
                have HZ4 : Hid (b0 < y4_.heap.size ∧ b1 < y4_.heap.size ∧ w.heap.size ≤ y4_.heap.size) := by
                  have h1 := hb9.size
                  have h2 := HZ3.out
                  exact ⟨by omega, by omega, by omega⟩
                have HB4q28 := Lib.hid (HB3.out.below hb9)
                have HB4 := Lib.hid hbk
                have HG4 : Hid (b0 < g4 ∧ b1 < g4 ∧ w.heap.size ≤ g4) := by
                  have h2 := HZ3.out
                  exact ⟨by omega, by omega, by omega⟩
                have HNEQ4 : Hid (g4 ≠ g3) := by
                  have h3 := HB3.out.lt
                  unfold Hid; omega
                clear hge hbk hb9
                refine HK.out _ _ ⟨csix_of HX4.out.xs HXA.out, csix_of HX4.out.ys HYB.out⟩ (fun hS => ?_)
                clear HK K'
                simp only [Act.put, List.setIfInBounds_toArray, List.set_cons_zero, List.set_cons_succ]
                clear hS
                refine wpAnyH_ready (rs := [24]) (by kernel_rfl) (by simp) ?_
                refine (AllReadyH.cons (o := _) rfl (fun K' HK => ?_) AllReadyH.nil)
                · skip
                  refine step_storeA rfl _ (.tmp 28) (.tmp 116) rfl rfl g3 35 _ #[.int .i64 P.x, .int .i64 P.y, .int .i64 P.z] HB4q28.out rfl rfl rfl (by kernel_rfl) (by kernel_rfl) ?_
                  intro y5_ hbk hg9
                  have HX5 := Lib.hid (HX4.out.other hg9 HG3.out.2.2 HG3.out.1 HG3.out.2.1)
                  have HB5 := Lib.hid hbk
                  have HB5o := Lib.hid (HB4.out.else_ hg9 (fun e => HNEQ4.out (Option.some.inj e)))
                  have HZ5 : Hid (b0 < y5_.heap.size ∧ b1 < y5_.heap.size ∧ w.heap.size ≤ y5_.heap.size) := by
                    have h1 := hg9.size
                    have h2 := HZ4.out
                    exact ⟨by omega, by omega, by omega⟩
                  clear hbk hg9
                  refine HK.out _ _ ⟨csix_of HX5.out.xs HXA.out, csix_of HX5.out.ys HYB.out⟩ (fun hS => ?_)
                  clear HK K'
                  clear hS
                  refine wpAnyH_ready (rs := [25]) (by kernel_rfl) (by simp) ?_
                  refine (AllReadyH.cons (o := _) rfl (fun K' HK => ?_) AllReadyH.nil)
                  · skip
                    refine step_storeA rfl _ (.tmp 29) (.tmp 127) rfl rfl g4 35 _ #[.int .i64 Q.x, .int .i64 Q.y, .int .i64 Q.z] HB5o.out rfl rfl rfl (by kernel_rfl) (by kernel_rfl) ?_
                    intro y6_ hbk hg9
                    have HX6 := Lib.hid (HX5.out.other hg9 HG4.out.2.2 HG4.out.1 HG4.out.2.1)
                    have HB6 := Lib.hid hbk
                    have HB6o := Lib.hid (HB5.out.else_ hg9 (fun e => HNEQ4.out (Option.some.inj e).symm))
                    have HZ6 : Hid (b0 < y6_.heap.size ∧ b1 < y6_.heap.size ∧ w.heap.size ≤ y6_.heap.size) := by
                      have h1 := hg9.size
                      have h2 := HZ5.out
                      exact ⟨by omega, by omega, by omega⟩
                    clear hbk hg9
                    refine HK.out _ _ ⟨csix_of HX6.out.xs HXA.out, csix_of HX6.out.ys HYB.out⟩ (fun hS => ?_)
                    clear HK K'
                    clear hS
                    refine wpAnyH_done (by kernel_rfl) ?_ _
                    have e0 := fun d os => cell_regrown (HB6o.out.cell 0) d os
                    have e1 := fun d os => cell_regrown (HB6o.out.cell 1) d os
                    have e2 := fun d os => cell_regrown (HB6o.out.cell 2) d os
                    have f0 := fun d os => cell_regrown (HB6.out.cell 0) d os
                    have f1 := fun d os => cell_regrown (HB6.out.cell 1) d os
                    have f2 := fun d os => cell_regrown (HB6.out.cell 2) d os
                    go_wp2_with fail
                    refine wp_region_quiet_below (by kernel_rfl) (by kernel_rfl) ?_
                    repeat (go_big_quiet_step ((first
                      | fail)))
                    refine wpQuiet_nil ?_
                    intro _ hw'
                    obtain ⟨⟨nq, osq⟩, hw''⟩ := hw'
                    subst hw''
                    have HBZ := Lib.hid (bstep HX6.out.below (below_regrown _ nq osq))
                    have hle : decide (sq ≤ (P.x - Q.x) * (P.x - Q.x) + (P.y - Q.y) * (P.y - Q.y) + (P.z - Q.z) * (P.z - Q.z)) = true := dec_yes HD.out
                    go_wp2
                    go_ret
                    exact ⟨ret_bool (by first | exact hle | rfl | (rw [vq1, vq2, vq3, vq4, vq5]; exact hle)), HBZ.out⟩
            · skip
              refine step_allocA rfl _ rfl (some 29) rfl _ (run_alloc_pt _) ?_
              intro g7 y7_ hge hbk hb9
              have HX7 := Lib.hid (HX2.out.after hb9)
              have HZ7 : Hid (b0 < y7_.heap.size ∧ b1 < y7_.heap.size ∧ w.heap.size ≤ y7_.heap.size) := by
                have h1 := hb9.size
                have h2 := HZ2.out
                exact ⟨by omega, by omega, by omega⟩
              have HB7 := Lib.hid hbk
              have HG7 : Hid (b0 < g7 ∧ b1 < g7 ∧ w.heap.size ≤ g7) := by
                have h2 := HZ2.out
                exact ⟨by omega, by omega, by omega⟩
              clear hge hbk hb9
              refine HK.out _ _ ⟨csix_of HX7.out.xs HXA.out, csix_of HX7.out.ys HYB.out⟩ (fun hS => ?_)
              clear HK K'
              simp only [Act.put, List.setIfInBounds_toArray, List.set_cons_zero, List.set_cons_succ]
              clear hS
              refine wpAnyH_ready (rs := [22]) (by kernel_rfl) (by simp) ?_
              refine (AllReadyH.cons (o := _) rfl (fun K' HK => ?_) AllReadyH.nil)
              · skip
                refine step_allocA rfl _ rfl (some 28) rfl _ (run_alloc_pt _) ?_
                intro g8 y8_ hge hbk hb9
                have HX8 := Lib.hid (HX7.out.after hb9)
                have HZ8 : Hid (b0 < y8_.heap.size ∧ b1 < y8_.heap.size ∧ w.heap.size ≤ y8_.heap.size) := by
                  have h1 := hb9.size
                  have h2 := HZ7.out
                  exact ⟨by omega, by omega, by omega⟩
                have HB8q29 := Lib.hid (HB7.out.below hb9)
                have HB8 := Lib.hid hbk
                have HG8 : Hid (b0 < g8 ∧ b1 < g8 ∧ w.heap.size ≤ g8) := by
                  have h2 := HZ7.out
                  exact ⟨by omega, by omega, by omega⟩
                have HNEQ8 : Hid (g8 ≠ g7) := by
                  have h3 := HB7.out.lt
                  unfold Hid; omega
                clear hge hbk hb9
                refine HK.out _ _ ⟨csix_of HX8.out.xs HXA.out, csix_of HX8.out.ys HYB.out⟩ (fun hS => ?_)
                clear HK K'
                simp only [Act.put, List.setIfInBounds_toArray, List.set_cons_zero, List.set_cons_succ]
                clear hS
                refine wpAnyH_ready (rs := [24]) (by kernel_rfl) (by simp) ?_
                refine (AllReadyH.cons (o := _) rfl (fun K' HK => ?_) AllReadyH.nil)
                · skip
                  refine step_storeA rfl _ (.tmp 28) (.tmp 116) rfl rfl g8 35 _ #[.int .i64 P.x, .int .i64 P.y, .int .i64 P.z] HB8.out rfl rfl rfl (by kernel_rfl) (by kernel_rfl) ?_
                  intro y9_ hbk hg9
                  have HX9 := Lib.hid (HX8.out.other hg9 HG8.out.2.2 HG8.out.1 HG8.out.2.1)
                  have HB9 := Lib.hid hbk
                  have HB9o := Lib.hid (HB8q29.out.else_ hg9 (fun e => HNEQ8.out (Option.some.inj e).symm))
                  have HZ9 : Hid (b0 < y9_.heap.size ∧ b1 < y9_.heap.size ∧ w.heap.size ≤ y9_.heap.size) := by
                    have h1 := hg9.size
                    have h2 := HZ8.out
                    exact ⟨by omega, by omega, by omega⟩
                  clear hbk hg9
                  refine HK.out _ _ ⟨csix_of HX9.out.xs HXA.out, csix_of HX9.out.ys HYB.out⟩ (fun hS => ?_)
                  clear HK K'
                  clear hS
                  refine wpAnyH_ready (rs := [25]) (by kernel_rfl) (by simp) ?_
                  refine (AllReadyH.cons (o := _) rfl (fun K' HK => ?_) AllReadyH.nil)
                  · skip
                    refine step_storeA rfl _ (.tmp 29) (.tmp 127) rfl rfl g7 35 _ #[.int .i64 Q.x, .int .i64 Q.y, .int .i64 Q.z] HB9o.out rfl rfl rfl (by kernel_rfl) (by kernel_rfl) ?_
                    intro y10_ hbk hg9
                    have HX10 := Lib.hid (HX9.out.other hg9 HG7.out.2.2 HG7.out.1 HG7.out.2.1)
                    have HB10 := Lib.hid hbk
                    have HB10o := Lib.hid (HB9.out.else_ hg9 (fun e => HNEQ8.out (Option.some.inj e)))
                    have HZ10 : Hid (b0 < y10_.heap.size ∧ b1 < y10_.heap.size ∧ w.heap.size ≤ y10_.heap.size) := by
                      have h1 := hg9.size
                      have h2 := HZ9.out
                      exact ⟨by omega, by omega, by omega⟩
                    clear hbk hg9
                    refine HK.out _ _ ⟨csix_of HX10.out.xs HXA.out, csix_of HX10.out.ys HYB.out⟩ (fun hS => ?_)
                    clear HK K'
                    clear hS
                    refine wpAnyH_done (by kernel_rfl) ?_ _
                    have e0 := fun d os => cell_regrown (HB10o.out.cell 0) d os
                    have e1 := fun d os => cell_regrown (HB10o.out.cell 1) d os
                    have e2 := fun d os => cell_regrown (HB10o.out.cell 2) d os
                    have f0 := fun d os => cell_regrown (HB10.out.cell 0) d os
                    have f1 := fun d os => cell_regrown (HB10.out.cell 1) d os
                    have f2 := fun d os => cell_regrown (HB10.out.cell 2) d os
                    go_wp2_with fail
                    refine wp_region_quiet_below (by kernel_rfl) (by kernel_rfl) ?_
                    repeat (go_big_quiet_step ((first
                      | fail)))
                    refine wpQuiet_nil ?_
                    intro _ hw'
                    obtain ⟨⟨nq, osq⟩, hw''⟩ := hw'
                    subst hw''
                    have HBZ := Lib.hid (bstep HX10.out.below (below_regrown _ nq osq))
                    have hle : decide (sq ≤ (P.x - Q.x) * (P.x - Q.x) + (P.y - Q.y) * (P.y - Q.y) + (P.z - Q.z) * (P.z - Q.z)) = true := dec_yes HD.out
                    go_wp2
                    go_ret
                    exact ⟨ret_bool (by first | exact hle | rfl | (rw [vq1, vq2, vq3, vq4, vq5]; exact hle)), HBZ.out⟩
          · skip
            refine step_allocA rfl _ rfl (some 28) rfl _ (run_alloc_pt _) ?_
            intro g11 y11_ hge hbk hb9
            have HX11 := Lib.hid (HX1.out.after hb9)
            have HZ11 : Hid (b0 < y11_.heap.size ∧ b1 < y11_.heap.size ∧ w.heap.size ≤ y11_.heap.size) := by
              have h1 := hb9.size
              have h2 := HZ1.out
              exact ⟨by omega, by omega, by omega⟩
            have HB11 := Lib.hid hbk
            have HG11 : Hid (b0 < g11 ∧ b1 < g11 ∧ w.heap.size ≤ g11) := by
              have h2 := HZ1.out
              exact ⟨by omega, by omega, by omega⟩
            clear hge hbk hb9
            refine HK.out _ _ ⟨csix_of HX11.out.xs HXA.out, csix_of HX11.out.ys HYB.out⟩ (fun hS => ?_)
            clear HK K'
            simp only [Act.put, List.setIfInBounds_toArray, List.set_cons_zero, List.set_cons_succ]
            clear hS
            refine wpAnyH_ready (rs := [21, 23]) (by kernel_rfl) (by simp) ?_
            refine (AllReadyH.cons (o := _) rfl (fun K' HK => ?_) (AllReadyH.cons (o := _) rfl (fun K' HK => ?_) AllReadyH.nil))
            · skip
              refine step_callA rfl (some 127) rfl 27 #[bxv y, .int .u16 t] (by go_simp) (fun v W => v = ptv Q ∧ Below y11_.heap.size y11_ W) ((HCB.out _).mono fun e w' h => ⟨_, h.1, rfl, h.2⟩) ?_
              rintro v9 y12_ ⟨rfl, hb9⟩
              have HX12 := Lib.hid (HX11.out.after hb9)
              have HZ12 : Hid (b0 < y12_.heap.size ∧ b1 < y12_.heap.size ∧ w.heap.size ≤ y12_.heap.size) := by
                have h1 := hb9.size
                have h2 := HZ11.out
                exact ⟨by omega, by omega, by omega⟩
              have HB12q28 := Lib.hid (HB11.out.below hb9)
              clear hb9
              refine HK.out _ _ ⟨csix_of HX12.out.xs HXA.out, csix_of HX12.out.ys HYB.out⟩ (fun hS => ?_)
              clear HK K'
              simp only [Act.put, List.setIfInBounds_toArray, List.set_cons_zero, List.set_cons_succ]
              clear hS
              refine wpAnyH_ready (rs := [23]) (by kernel_rfl) (by simp) ?_
              refine (AllReadyH.cons (o := _) rfl (fun K' HK => ?_) AllReadyH.nil)
              · skip
                refine step_allocA rfl _ rfl (some 29) rfl _ (run_alloc_pt _) ?_
                intro g13 y13_ hge hbk hb9
                have HX13 := Lib.hid (HX12.out.after hb9)
                have HZ13 : Hid (b0 < y13_.heap.size ∧ b1 < y13_.heap.size ∧ w.heap.size ≤ y13_.heap.size) := by
                  have h1 := hb9.size
                  have h2 := HZ12.out
                  exact ⟨by omega, by omega, by omega⟩
                have HB13q28 := Lib.hid (HB12q28.out.below hb9)
                have HB13 := Lib.hid hbk
                have HG13 : Hid (b0 < g13 ∧ b1 < g13 ∧ w.heap.size ≤ g13) := by
                  have h2 := HZ12.out
                  exact ⟨by omega, by omega, by omega⟩
                have HNEQ13 : Hid (g13 ≠ g11) := by
                  have h3 := HB12q28.out.lt
                  unfold Hid; omega
                clear hge hbk hb9
                refine HK.out _ _ ⟨csix_of HX13.out.xs HXA.out, csix_of HX13.out.ys HYB.out⟩ (fun hS => ?_)
                clear HK K'
                simp only [Act.put, List.setIfInBounds_toArray, List.set_cons_zero, List.set_cons_succ]
                clear hS
                refine wpAnyH_ready (rs := [24]) (by kernel_rfl) (by simp) ?_
                refine (AllReadyH.cons (o := _) rfl (fun K' HK => ?_) AllReadyH.nil)
                · skip
                  refine step_storeA rfl _ (.tmp 28) (.tmp 116) rfl rfl g11 35 _ #[.int .i64 P.x, .int .i64 P.y, .int .i64 P.z] HB13q28.out rfl rfl rfl (by kernel_rfl) (by kernel_rfl) ?_
                  intro y14_ hbk hg9
                  have HX14 := Lib.hid (HX13.out.other hg9 HG11.out.2.2 HG11.out.1 HG11.out.2.1)
                  have HB14 := Lib.hid hbk
                  have HB14o := Lib.hid (HB13.out.else_ hg9 (fun e => HNEQ13.out (Option.some.inj e)))
                  have HZ14 : Hid (b0 < y14_.heap.size ∧ b1 < y14_.heap.size ∧ w.heap.size ≤ y14_.heap.size) := by
                    have h1 := hg9.size
                    have h2 := HZ13.out
                    exact ⟨by omega, by omega, by omega⟩
                  clear hbk hg9
                  refine HK.out _ _ ⟨csix_of HX14.out.xs HXA.out, csix_of HX14.out.ys HYB.out⟩ (fun hS => ?_)
                  clear HK K'
                  clear hS
                  refine wpAnyH_ready (rs := [25]) (by kernel_rfl) (by simp) ?_
                  refine (AllReadyH.cons (o := _) rfl (fun K' HK => ?_) AllReadyH.nil)
                  · skip
                    refine step_storeA rfl _ (.tmp 29) (.tmp 127) rfl rfl g13 35 _ #[.int .i64 Q.x, .int .i64 Q.y, .int .i64 Q.z] HB14o.out rfl rfl rfl (by kernel_rfl) (by kernel_rfl) ?_
                    intro y15_ hbk hg9
                    have HX15 := Lib.hid (HX14.out.other hg9 HG13.out.2.2 HG13.out.1 HG13.out.2.1)
                    have HB15 := Lib.hid hbk
                    have HB15o := Lib.hid (HB14.out.else_ hg9 (fun e => HNEQ13.out (Option.some.inj e).symm))
                    have HZ15 : Hid (b0 < y15_.heap.size ∧ b1 < y15_.heap.size ∧ w.heap.size ≤ y15_.heap.size) := by
                      have h1 := hg9.size
                      have h2 := HZ14.out
                      exact ⟨by omega, by omega, by omega⟩
                    clear hbk hg9
                    refine HK.out _ _ ⟨csix_of HX15.out.xs HXA.out, csix_of HX15.out.ys HYB.out⟩ (fun hS => ?_)
                    clear HK K'
                    clear hS
                    refine wpAnyH_done (by kernel_rfl) ?_ _
                    have e0 := fun d os => cell_regrown (HB15o.out.cell 0) d os
                    have e1 := fun d os => cell_regrown (HB15o.out.cell 1) d os
                    have e2 := fun d os => cell_regrown (HB15o.out.cell 2) d os
                    have f0 := fun d os => cell_regrown (HB15.out.cell 0) d os
                    have f1 := fun d os => cell_regrown (HB15.out.cell 1) d os
                    have f2 := fun d os => cell_regrown (HB15.out.cell 2) d os
                    go_wp2_with fail
                    refine wp_region_quiet_below (by kernel_rfl) (by kernel_rfl) ?_
                    repeat (go_big_quiet_step ((first
                      | fail)))
                    refine wpQuiet_nil ?_
                    intro _ hw'
                    obtain ⟨⟨nq, osq⟩, hw''⟩ := hw'
                    subst hw''
                    have HBZ := Lib.hid (bstep HX15.out.below (below_regrown _ nq osq))
                    have hle : decide (sq ≤ (P.x - Q.x) * (P.x - Q.x) + (P.y - Q.y) * (P.y - Q.y) + (P.z - Q.z) * (P.z - Q.z)) = true := dec_yes HD.out
                    go_wp2
                    go_ret
                    exact ⟨ret_bool (by first | exact hle | rfl | (rw [vq1, vq2, vq3, vq4, vq5]; exact hle)), HBZ.out⟩
            · skip
              refine step_allocA rfl _ rfl (some 29) rfl _ (run_alloc_pt _) ?_
              intro g16 y16_ hge hbk hb9
              have HX16 := Lib.hid (HX11.out.after hb9)
              have HZ16 : Hid (b0 < y16_.heap.size ∧ b1 < y16_.heap.size ∧ w.heap.size ≤ y16_.heap.size) := by
                have h1 := hb9.size
                have h2 := HZ11.out
                exact ⟨by omega, by omega, by omega⟩
              have HB16q28 := Lib.hid (HB11.out.below hb9)
              have HB16 := Lib.hid hbk
              have HG16 : Hid (b0 < g16 ∧ b1 < g16 ∧ w.heap.size ≤ g16) := by
                have h2 := HZ11.out
                exact ⟨by omega, by omega, by omega⟩
              have HNEQ16 : Hid (g16 ≠ g11) := by
                have h3 := HB11.out.lt
                unfold Hid; omega
              clear hge hbk hb9
              refine HK.out _ _ ⟨csix_of HX16.out.xs HXA.out, csix_of HX16.out.ys HYB.out⟩ (fun hS => ?_)
              clear HK K'
              simp only [Act.put, List.setIfInBounds_toArray, List.set_cons_zero, List.set_cons_succ]
              clear hS
              refine wpAnyH_ready (rs := [21]) (by kernel_rfl) (by simp) ?_
              refine (AllReadyH.cons (o := _) rfl (fun K' HK => ?_) AllReadyH.nil)
              · skip
                refine step_callA rfl (some 127) rfl 27 #[bxv y, .int .u16 t] (by go_simp) (fun v W => v = ptv Q ∧ Below y16_.heap.size y16_ W) ((HCB.out _).mono fun e w' h => ⟨_, h.1, rfl, h.2⟩) ?_
                rintro v9 y17_ ⟨rfl, hb9⟩
                have HX17 := Lib.hid (HX16.out.after hb9)
                have HZ17 : Hid (b0 < y17_.heap.size ∧ b1 < y17_.heap.size ∧ w.heap.size ≤ y17_.heap.size) := by
                  have h1 := hb9.size
                  have h2 := HZ16.out
                  exact ⟨by omega, by omega, by omega⟩
                have HB17q28 := Lib.hid (HB16q28.out.below hb9)
                have HB17q29 := Lib.hid (HB16.out.below hb9)
                clear hb9
                refine HK.out _ _ ⟨csix_of HX17.out.xs HXA.out, csix_of HX17.out.ys HYB.out⟩ (fun hS => ?_)
                clear HK K'
                simp only [Act.put, List.setIfInBounds_toArray, List.set_cons_zero, List.set_cons_succ]
                clear hS
                refine wpAnyH_ready (rs := [24]) (by kernel_rfl) (by simp) ?_
                refine (AllReadyH.cons (o := _) rfl (fun K' HK => ?_) AllReadyH.nil)
                · skip
                  refine step_storeA rfl _ (.tmp 28) (.tmp 116) rfl rfl g11 35 _ #[.int .i64 P.x, .int .i64 P.y, .int .i64 P.z] HB17q28.out rfl rfl rfl (by kernel_rfl) (by kernel_rfl) ?_
                  intro y18_ hbk hg9
                  have HX18 := Lib.hid (HX17.out.other hg9 HG11.out.2.2 HG11.out.1 HG11.out.2.1)
                  have HB18 := Lib.hid hbk
                  have HB18o := Lib.hid (HB17q29.out.else_ hg9 (fun e => HNEQ16.out (Option.some.inj e)))
                  have HZ18 : Hid (b0 < y18_.heap.size ∧ b1 < y18_.heap.size ∧ w.heap.size ≤ y18_.heap.size) := by
                    have h1 := hg9.size
                    have h2 := HZ17.out
                    exact ⟨by omega, by omega, by omega⟩
                  clear hbk hg9
                  refine HK.out _ _ ⟨csix_of HX18.out.xs HXA.out, csix_of HX18.out.ys HYB.out⟩ (fun hS => ?_)
                  clear HK K'
                  clear hS
                  refine wpAnyH_ready (rs := [25]) (by kernel_rfl) (by simp) ?_
                  refine (AllReadyH.cons (o := _) rfl (fun K' HK => ?_) AllReadyH.nil)
                  · skip
                    refine step_storeA rfl _ (.tmp 29) (.tmp 127) rfl rfl g16 35 _ #[.int .i64 Q.x, .int .i64 Q.y, .int .i64 Q.z] HB18o.out rfl rfl rfl (by kernel_rfl) (by kernel_rfl) ?_
                    intro y19_ hbk hg9
                    have HX19 := Lib.hid (HX18.out.other hg9 HG16.out.2.2 HG16.out.1 HG16.out.2.1)
                    have HB19 := Lib.hid hbk
                    have HB19o := Lib.hid (HB18.out.else_ hg9 (fun e => HNEQ16.out (Option.some.inj e).symm))
                    have HZ19 : Hid (b0 < y19_.heap.size ∧ b1 < y19_.heap.size ∧ w.heap.size ≤ y19_.heap.size) := by
                      have h1 := hg9.size
                      have h2 := HZ18.out
                      exact ⟨by omega, by omega, by omega⟩
                    clear hbk hg9
                    refine HK.out _ _ ⟨csix_of HX19.out.xs HXA.out, csix_of HX19.out.ys HYB.out⟩ (fun hS => ?_)
                    clear HK K'
                    clear hS
                    refine wpAnyH_done (by kernel_rfl) ?_ _
                    have e0 := fun d os => cell_regrown (HB19o.out.cell 0) d os
                    have e1 := fun d os => cell_regrown (HB19o.out.cell 1) d os
                    have e2 := fun d os => cell_regrown (HB19o.out.cell 2) d os
                    have f0 := fun d os => cell_regrown (HB19.out.cell 0) d os
                    have f1 := fun d os => cell_regrown (HB19.out.cell 1) d os
                    have f2 := fun d os => cell_regrown (HB19.out.cell 2) d os
                    go_wp2_with fail
                    refine wp_region_quiet_below (by kernel_rfl) (by kernel_rfl) ?_
                    repeat (go_big_quiet_step ((first
                      | fail)))
                    refine wpQuiet_nil ?_
                    intro _ hw'
                    obtain ⟨⟨nq, osq⟩, hw''⟩ := hw'
                    subst hw''
                    have HBZ := Lib.hid (bstep HX19.out.below (below_regrown _ nq osq))
                    have hle : decide (sq ≤ (P.x - Q.x) * (P.x - Q.x) + (P.y - Q.y) * (P.y - Q.y) + (P.z - Q.z) * (P.z - Q.z)) = true := dec_yes HD.out
                    go_wp2
                    go_ret
                    exact ⟨ret_bool (by first | exact hle | rfl | (rw [vq1, vq2, vq3, vq4, vq5]; exact hle)), HBZ.out⟩
          · skip
            refine step_allocA rfl _ rfl (some 29) rfl _ (run_alloc_pt _) ?_
            intro g20 y20_ hge hbk hb9
            have HX20 := Lib.hid (HX1.out.after hb9)
            have HZ20 : Hid (b0 < y20_.heap.size ∧ b1 < y20_.heap.size ∧ w.heap.size ≤ y20_.heap.size) := by
              have h1 := hb9.size
              have h2 := HZ1.out
              exact ⟨by omega, by omega, by omega⟩
            have HB20 := Lib.hid hbk
            have HG20 : Hid (b0 < g20 ∧ b1 < g20 ∧ w.heap.size ≤ g20) := by
              have h2 := HZ1.out
              exact ⟨by omega, by omega, by omega⟩
            clear hge hbk hb9
            refine HK.out _ _ ⟨csix_of HX20.out.xs HXA.out, csix_of HX20.out.ys HYB.out⟩ (fun hS => ?_)
            clear HK K'
            simp only [Act.put, List.setIfInBounds_toArray, List.set_cons_zero, List.set_cons_succ]
            clear hS
            refine wpAnyH_ready (rs := [21, 22]) (by kernel_rfl) (by simp) ?_
            refine (AllReadyH.cons (o := _) rfl (fun K' HK => ?_) (AllReadyH.cons (o := _) rfl (fun K' HK => ?_) AllReadyH.nil))
            · skip
              refine step_callA rfl (some 127) rfl 27 #[bxv y, .int .u16 t] (by go_simp) (fun v W => v = ptv Q ∧ Below y20_.heap.size y20_ W) ((HCB.out _).mono fun e w' h => ⟨_, h.1, rfl, h.2⟩) ?_
              rintro v9 y21_ ⟨rfl, hb9⟩
              have HX21 := Lib.hid (HX20.out.after hb9)
              have HZ21 : Hid (b0 < y21_.heap.size ∧ b1 < y21_.heap.size ∧ w.heap.size ≤ y21_.heap.size) := by
                have h1 := hb9.size
                have h2 := HZ20.out
                exact ⟨by omega, by omega, by omega⟩
              have HB21q29 := Lib.hid (HB20.out.below hb9)
              clear hb9
              refine HK.out _ _ ⟨csix_of HX21.out.xs HXA.out, csix_of HX21.out.ys HYB.out⟩ (fun hS => ?_)
              clear HK K'
              simp only [Act.put, List.setIfInBounds_toArray, List.set_cons_zero, List.set_cons_succ]
              clear hS
              refine wpAnyH_ready (rs := [22]) (by kernel_rfl) (by simp) ?_
              refine (AllReadyH.cons (o := _) rfl (fun K' HK => ?_) AllReadyH.nil)
              · skip
                refine step_allocA rfl _ rfl (some 28) rfl _ (run_alloc_pt _) ?_
                intro g22 y22_ hge hbk hb9
                have HX22 := Lib.hid (HX21.out.after hb9)
                have HZ22 : Hid (b0 < y22_.heap.size ∧ b1 < y22_.heap.size ∧ w.heap.size ≤ y22_.heap.size) := by
                  have h1 := hb9.size
                  have h2 := HZ21.out
                  exact ⟨by omega, by omega, by omega⟩
                have HB22q29 := Lib.hid (HB21q29.out.below hb9)
                have HB22 := Lib.hid hbk
                have HG22 : Hid (b0 < g22 ∧ b1 < g22 ∧ w.heap.size ≤ g22) := by
                  have h2 := HZ21.out
                  exact ⟨by omega, by omega, by omega⟩
                have HNEQ22 : Hid (g22 ≠ g20) := by
                  have h3 := HB21q29.out.lt
                  unfold Hid; omega
                clear hge hbk hb9
                refine HK.out _ _ ⟨csix_of HX22.out.xs HXA.out, csix_of HX22.out.ys HYB.out⟩ (fun hS => ?_)
                clear HK K'
                simp only [Act.put, List.setIfInBounds_toArray, List.set_cons_zero, List.set_cons_succ]
                clear hS
                refine wpAnyH_ready (rs := [24]) (by kernel_rfl) (by simp) ?_
                refine (AllReadyH.cons (o := _) rfl (fun K' HK => ?_) AllReadyH.nil)
                · skip
                  refine step_storeA rfl _ (.tmp 28) (.tmp 116) rfl rfl g22 35 _ #[.int .i64 P.x, .int .i64 P.y, .int .i64 P.z] HB22.out rfl rfl rfl (by kernel_rfl) (by kernel_rfl) ?_
                  intro y23_ hbk hg9
                  have HX23 := Lib.hid (HX22.out.other hg9 HG22.out.2.2 HG22.out.1 HG22.out.2.1)
                  have HB23 := Lib.hid hbk
                  have HB23o := Lib.hid (HB22q29.out.else_ hg9 (fun e => HNEQ22.out (Option.some.inj e).symm))
                  have HZ23 : Hid (b0 < y23_.heap.size ∧ b1 < y23_.heap.size ∧ w.heap.size ≤ y23_.heap.size) := by
                    have h1 := hg9.size
                    have h2 := HZ22.out
                    exact ⟨by omega, by omega, by omega⟩
                  clear hbk hg9
                  refine HK.out _ _ ⟨csix_of HX23.out.xs HXA.out, csix_of HX23.out.ys HYB.out⟩ (fun hS => ?_)
                  clear HK K'
                  clear hS
                  refine wpAnyH_ready (rs := [25]) (by kernel_rfl) (by simp) ?_
                  refine (AllReadyH.cons (o := _) rfl (fun K' HK => ?_) AllReadyH.nil)
                  · skip
                    refine step_storeA rfl _ (.tmp 29) (.tmp 127) rfl rfl g20 35 _ #[.int .i64 Q.x, .int .i64 Q.y, .int .i64 Q.z] HB23o.out rfl rfl rfl (by kernel_rfl) (by kernel_rfl) ?_
                    intro y24_ hbk hg9
                    have HX24 := Lib.hid (HX23.out.other hg9 HG20.out.2.2 HG20.out.1 HG20.out.2.1)
                    have HB24 := Lib.hid hbk
                    have HB24o := Lib.hid (HB23.out.else_ hg9 (fun e => HNEQ22.out (Option.some.inj e)))
                    have HZ24 : Hid (b0 < y24_.heap.size ∧ b1 < y24_.heap.size ∧ w.heap.size ≤ y24_.heap.size) := by
                      have h1 := hg9.size
                      have h2 := HZ23.out
                      exact ⟨by omega, by omega, by omega⟩
                    clear hbk hg9
                    refine HK.out _ _ ⟨csix_of HX24.out.xs HXA.out, csix_of HX24.out.ys HYB.out⟩ (fun hS => ?_)
                    clear HK K'
                    clear hS
                    refine wpAnyH_done (by kernel_rfl) ?_ _
                    have e0 := fun d os => cell_regrown (HB24o.out.cell 0) d os
                    have e1 := fun d os => cell_regrown (HB24o.out.cell 1) d os
                    have e2 := fun d os => cell_regrown (HB24o.out.cell 2) d os
                    have f0 := fun d os => cell_regrown (HB24.out.cell 0) d os
                    have f1 := fun d os => cell_regrown (HB24.out.cell 1) d os
                    have f2 := fun d os => cell_regrown (HB24.out.cell 2) d os
                    go_wp2_with fail
                    refine wp_region_quiet_below (by kernel_rfl) (by kernel_rfl) ?_
                    repeat (go_big_quiet_step ((first
                      | fail)))
                    refine wpQuiet_nil ?_
                    intro _ hw'
                    obtain ⟨⟨nq, osq⟩, hw''⟩ := hw'
                    subst hw''
                    have HBZ := Lib.hid (bstep HX24.out.below (below_regrown _ nq osq))
                    have hle : decide (sq ≤ (P.x - Q.x) * (P.x - Q.x) + (P.y - Q.y) * (P.y - Q.y) + (P.z - Q.z) * (P.z - Q.z)) = true := dec_yes HD.out
                    go_wp2
                    go_ret
                    exact ⟨ret_bool (by first | exact hle | rfl | (rw [vq1, vq2, vq3, vq4, vq5]; exact hle)), HBZ.out⟩
            · skip
              refine step_allocA rfl _ rfl (some 28) rfl _ (run_alloc_pt _) ?_
              intro g25 y25_ hge hbk hb9
              have HX25 := Lib.hid (HX20.out.after hb9)
              have HZ25 : Hid (b0 < y25_.heap.size ∧ b1 < y25_.heap.size ∧ w.heap.size ≤ y25_.heap.size) := by
                have h1 := hb9.size
                have h2 := HZ20.out
                exact ⟨by omega, by omega, by omega⟩
              have HB25q29 := Lib.hid (HB20.out.below hb9)
              have HB25 := Lib.hid hbk
              have HG25 : Hid (b0 < g25 ∧ b1 < g25 ∧ w.heap.size ≤ g25) := by
                have h2 := HZ20.out
                exact ⟨by omega, by omega, by omega⟩
              have HNEQ25 : Hid (g25 ≠ g20) := by
                have h3 := HB20.out.lt
                unfold Hid; omega
              clear hge hbk hb9
              refine HK.out _ _ ⟨csix_of HX25.out.xs HXA.out, csix_of HX25.out.ys HYB.out⟩ (fun hS => ?_)
              clear HK K'
              simp only [Act.put, List.setIfInBounds_toArray, List.set_cons_zero, List.set_cons_succ]
              clear hS
              refine wpAnyH_ready (rs := [21]) (by kernel_rfl) (by simp) ?_
              refine (AllReadyH.cons (o := _) rfl (fun K' HK => ?_) AllReadyH.nil)
              · skip
                refine step_callA rfl (some 127) rfl 27 #[bxv y, .int .u16 t] (by go_simp) (fun v W => v = ptv Q ∧ Below y25_.heap.size y25_ W) ((HCB.out _).mono fun e w' h => ⟨_, h.1, rfl, h.2⟩) ?_
                rintro v9 y26_ ⟨rfl, hb9⟩
                have HX26 := Lib.hid (HX25.out.after hb9)
                have HZ26 : Hid (b0 < y26_.heap.size ∧ b1 < y26_.heap.size ∧ w.heap.size ≤ y26_.heap.size) := by
                  have h1 := hb9.size
                  have h2 := HZ25.out
                  exact ⟨by omega, by omega, by omega⟩
                have HB26q28 := Lib.hid (HB25.out.below hb9)
                have HB26q29 := Lib.hid (HB25q29.out.below hb9)
                clear hb9
                refine HK.out _ _ ⟨csix_of HX26.out.xs HXA.out, csix_of HX26.out.ys HYB.out⟩ (fun hS => ?_)
                clear HK K'
                simp only [Act.put, List.setIfInBounds_toArray, List.set_cons_zero, List.set_cons_succ]
                clear hS
                refine wpAnyH_ready (rs := [24]) (by kernel_rfl) (by simp) ?_
                refine (AllReadyH.cons (o := _) rfl (fun K' HK => ?_) AllReadyH.nil)
                · skip
                  refine step_storeA rfl _ (.tmp 28) (.tmp 116) rfl rfl g25 35 _ #[.int .i64 P.x, .int .i64 P.y, .int .i64 P.z] HB26q28.out rfl rfl rfl (by kernel_rfl) (by kernel_rfl) ?_
                  intro y27_ hbk hg9
                  have HX27 := Lib.hid (HX26.out.other hg9 HG25.out.2.2 HG25.out.1 HG25.out.2.1)
                  have HB27 := Lib.hid hbk
                  have HB27o := Lib.hid (HB26q29.out.else_ hg9 (fun e => HNEQ25.out (Option.some.inj e).symm))
                  have HZ27 : Hid (b0 < y27_.heap.size ∧ b1 < y27_.heap.size ∧ w.heap.size ≤ y27_.heap.size) := by
                    have h1 := hg9.size
                    have h2 := HZ26.out
                    exact ⟨by omega, by omega, by omega⟩
                  clear hbk hg9
                  refine HK.out _ _ ⟨csix_of HX27.out.xs HXA.out, csix_of HX27.out.ys HYB.out⟩ (fun hS => ?_)
                  clear HK K'
                  clear hS
                  refine wpAnyH_ready (rs := [25]) (by kernel_rfl) (by simp) ?_
                  refine (AllReadyH.cons (o := _) rfl (fun K' HK => ?_) AllReadyH.nil)
                  · skip
                    refine step_storeA rfl _ (.tmp 29) (.tmp 127) rfl rfl g20 35 _ #[.int .i64 Q.x, .int .i64 Q.y, .int .i64 Q.z] HB27o.out rfl rfl rfl (by kernel_rfl) (by kernel_rfl) ?_
                    intro y28_ hbk hg9
                    have HX28 := Lib.hid (HX27.out.other hg9 HG20.out.2.2 HG20.out.1 HG20.out.2.1)
                    have HB28 := Lib.hid hbk
                    have HB28o := Lib.hid (HB27.out.else_ hg9 (fun e => HNEQ25.out (Option.some.inj e)))
                    have HZ28 : Hid (b0 < y28_.heap.size ∧ b1 < y28_.heap.size ∧ w.heap.size ≤ y28_.heap.size) := by
                      have h1 := hg9.size
                      have h2 := HZ27.out
                      exact ⟨by omega, by omega, by omega⟩
                    clear hbk hg9
                    refine HK.out _ _ ⟨csix_of HX28.out.xs HXA.out, csix_of HX28.out.ys HYB.out⟩ (fun hS => ?_)
                    clear HK K'
                    clear hS
                    refine wpAnyH_done (by kernel_rfl) ?_ _
                    have e0 := fun d os => cell_regrown (HB28o.out.cell 0) d os
                    have e1 := fun d os => cell_regrown (HB28o.out.cell 1) d os
                    have e2 := fun d os => cell_regrown (HB28o.out.cell 2) d os
                    have f0 := fun d os => cell_regrown (HB28.out.cell 0) d os
                    have f1 := fun d os => cell_regrown (HB28.out.cell 1) d os
                    have f2 := fun d os => cell_regrown (HB28.out.cell 2) d os
                    go_wp2_with fail
                    refine wp_region_quiet_below (by kernel_rfl) (by kernel_rfl) ?_
                    repeat (go_big_quiet_step ((first
                      | fail)))
                    refine wpQuiet_nil ?_
                    intro _ hw'
                    obtain ⟨⟨nq, osq⟩, hw''⟩ := hw'
                    subst hw''
                    have HBZ := Lib.hid (bstep HX28.out.below (below_regrown _ nq osq))
                    have hle : decide (sq ≤ (P.x - Q.x) * (P.x - Q.x) + (P.y - Q.y) * (P.y - Q.y) + (P.z - Q.z) * (P.z - Q.z)) = true := dec_yes HD.out
                    go_wp2
                    go_ret
                    exact ⟨ret_bool (by first | exact hle | rfl | (rw [vq1, vq2, vq3, vq4, vq5]; exact hle)), HBZ.out⟩
        · skip
          refine step_allocA rfl _ rfl (some 28) rfl _ (run_alloc_pt _) ?_
          intro g29 y29_ hge hbk hb9
          have HX29 := Lib.hid (HX0.out.after hb9)
          have HZ29 : Hid (b0 < y29_.heap.size ∧ b1 < y29_.heap.size ∧ w.heap.size ≤ y29_.heap.size) := by
            have h1 := hb9.size
            have h2 := HZ0.out
            exact ⟨by omega, by omega, by omega⟩
          have HB29 := Lib.hid hbk
          have HG29 : Hid (b0 < g29 ∧ b1 < g29 ∧ w.heap.size ≤ g29) := by
            have h2 := HZ0.out
            exact ⟨by omega, by omega, by omega⟩
          clear hge hbk hb9
          refine HK.out _ _ ⟨csix_of HX29.out.xs HXA.out, csix_of HX29.out.ys HYB.out⟩ (fun hS => ?_)
          clear HK K'
          simp only [Act.put, List.setIfInBounds_toArray, List.set_cons_zero, List.set_cons_succ]
          clear hS
          refine wpAnyH_ready (rs := [10, 23]) (by kernel_rfl) (by simp) ?_
          refine (AllReadyH.cons (o := _) rfl (fun K' HK => ?_) (AllReadyH.cons (o := _) rfl (fun K' HK => ?_) AllReadyH.nil))
          · skip
            refine step_callA rfl (some 116) rfl 27 #[bxv x, .int .u16 s] (by go_simp) (fun v W => v = ptv P ∧ Below y29_.heap.size y29_ W) ((HCA.out _).mono fun e w' h => ⟨_, h.1, rfl, h.2⟩) ?_
            rintro v9 y30_ ⟨rfl, hb9⟩
            have HX30 := Lib.hid (HX29.out.after hb9)
            have HZ30 : Hid (b0 < y30_.heap.size ∧ b1 < y30_.heap.size ∧ w.heap.size ≤ y30_.heap.size) := by
              have h1 := hb9.size
              have h2 := HZ29.out
              exact ⟨by omega, by omega, by omega⟩
            have HB30q28 := Lib.hid (HB29.out.below hb9)
            clear hb9
            refine HK.out _ _ ⟨csix_of HX30.out.xs HXA.out, csix_of HX30.out.ys HYB.out⟩ (fun hS => ?_)
            clear HK K'
            simp only [Act.put, List.setIfInBounds_toArray, List.set_cons_zero, List.set_cons_succ]
            clear hS
            refine wpAnyH_ready (rs := [21, 23]) (by kernel_rfl) (by simp) ?_
            refine (AllReadyH.cons (o := _) rfl (fun K' HK => ?_) (AllReadyH.cons (o := _) rfl (fun K' HK => ?_) AllReadyH.nil))
            · skip
              refine step_callA rfl (some 127) rfl 27 #[bxv y, .int .u16 t] (by go_simp) (fun v W => v = ptv Q ∧ Below y30_.heap.size y30_ W) ((HCB.out _).mono fun e w' h => ⟨_, h.1, rfl, h.2⟩) ?_
              rintro v9 y31_ ⟨rfl, hb9⟩
              have HX31 := Lib.hid (HX30.out.after hb9)
              have HZ31 : Hid (b0 < y31_.heap.size ∧ b1 < y31_.heap.size ∧ w.heap.size ≤ y31_.heap.size) := by
                have h1 := hb9.size
                have h2 := HZ30.out
                exact ⟨by omega, by omega, by omega⟩
              have HB31q28 := Lib.hid (HB30q28.out.below hb9)
              clear hb9
              refine HK.out _ _ ⟨csix_of HX31.out.xs HXA.out, csix_of HX31.out.ys HYB.out⟩ (fun hS => ?_)
              clear HK K'
              simp only [Act.put, List.setIfInBounds_toArray, List.set_cons_zero, List.set_cons_succ]
              clear hS
              refine wpAnyH_ready (rs := [23]) (by kernel_rfl) (by simp) ?_
              refine (AllReadyH.cons (o := _) rfl (fun K' HK => ?_) AllReadyH.nil)
              · skip
                refine step_allocA rfl _ rfl (some 29) rfl _ (run_alloc_pt _) ?_
                intro g32 y32_ hge hbk hb9
                have HX32 := Lib.hid (HX31.out.after hb9)
                have HZ32 : Hid (b0 < y32_.heap.size ∧ b1 < y32_.heap.size ∧ w.heap.size ≤ y32_.heap.size) := by
                  have h1 := hb9.size
                  have h2 := HZ31.out
                  exact ⟨by omega, by omega, by omega⟩
                have HB32q28 := Lib.hid (HB31q28.out.below hb9)
                have HB32 := Lib.hid hbk
                have HG32 : Hid (b0 < g32 ∧ b1 < g32 ∧ w.heap.size ≤ g32) := by
                  have h2 := HZ31.out
                  exact ⟨by omega, by omega, by omega⟩
                have HNEQ32 : Hid (g32 ≠ g29) := by
                  have h3 := HB31q28.out.lt
                  unfold Hid; omega
                clear hge hbk hb9
                refine HK.out _ _ ⟨csix_of HX32.out.xs HXA.out, csix_of HX32.out.ys HYB.out⟩ (fun hS => ?_)
                clear HK K'
                simp only [Act.put, List.setIfInBounds_toArray, List.set_cons_zero, List.set_cons_succ]
                clear hS
                refine wpAnyH_ready (rs := [24]) (by kernel_rfl) (by simp) ?_
                refine (AllReadyH.cons (o := _) rfl (fun K' HK => ?_) AllReadyH.nil)
                · skip
                  refine step_storeA rfl _ (.tmp 28) (.tmp 116) rfl rfl g29 35 _ #[.int .i64 P.x, .int .i64 P.y, .int .i64 P.z] HB32q28.out rfl rfl rfl (by kernel_rfl) (by kernel_rfl) ?_
                  intro y33_ hbk hg9
                  have HX33 := Lib.hid (HX32.out.other hg9 HG29.out.2.2 HG29.out.1 HG29.out.2.1)
                  have HB33 := Lib.hid hbk
                  have HB33o := Lib.hid (HB32.out.else_ hg9 (fun e => HNEQ32.out (Option.some.inj e)))
                  have HZ33 : Hid (b0 < y33_.heap.size ∧ b1 < y33_.heap.size ∧ w.heap.size ≤ y33_.heap.size) := by
                    have h1 := hg9.size
                    have h2 := HZ32.out
                    exact ⟨by omega, by omega, by omega⟩
                  clear hbk hg9
                  refine HK.out _ _ ⟨csix_of HX33.out.xs HXA.out, csix_of HX33.out.ys HYB.out⟩ (fun hS => ?_)
                  clear HK K'
                  clear hS
                  refine wpAnyH_ready (rs := [25]) (by kernel_rfl) (by simp) ?_
                  refine (AllReadyH.cons (o := _) rfl (fun K' HK => ?_) AllReadyH.nil)
                  · skip
                    refine step_storeA rfl _ (.tmp 29) (.tmp 127) rfl rfl g32 35 _ #[.int .i64 Q.x, .int .i64 Q.y, .int .i64 Q.z] HB33o.out rfl rfl rfl (by kernel_rfl) (by kernel_rfl) ?_
                    intro y34_ hbk hg9
                    have HX34 := Lib.hid (HX33.out.other hg9 HG32.out.2.2 HG32.out.1 HG32.out.2.1)
                    have HB34 := Lib.hid hbk
                    have HB34o := Lib.hid (HB33.out.else_ hg9 (fun e => HNEQ32.out (Option.some.inj e).symm))
                    have HZ34 : Hid (b0 < y34_.heap.size ∧ b1 < y34_.heap.size ∧ w.heap.size ≤ y34_.heap.size) := by
                      have h1 := hg9.size
                      have h2 := HZ33.out
                      exact ⟨by omega, by omega, by omega⟩
                    clear hbk hg9
                    refine HK.out _ _ ⟨csix_of HX34.out.xs HXA.out, csix_of HX34.out.ys HYB.out⟩ (fun hS => ?_)
                    clear HK K'
                    clear hS
                    refine wpAnyH_done (by kernel_rfl) ?_ _
                    have e0 := fun d os => cell_regrown (HB34o.out.cell 0) d os
                    have e1 := fun d os => cell_regrown (HB34o.out.cell 1) d os
                    have e2 := fun d os => cell_regrown (HB34o.out.cell 2) d os
                    have f0 := fun d os => cell_regrown (HB34.out.cell 0) d os
                    have f1 := fun d os => cell_regrown (HB34.out.cell 1) d os
                    have f2 := fun d os => cell_regrown (HB34.out.cell 2) d os
                    go_wp2_with fail
                    refine wp_region_quiet_below (by kernel_rfl) (by kernel_rfl) ?_
                    repeat (go_big_quiet_step ((first
                      | fail)))
                    refine wpQuiet_nil ?_
                    intro _ hw'
                    obtain ⟨⟨nq, osq⟩, hw''⟩ := hw'
                    subst hw''
                    have HBZ := Lib.hid (bstep HX34.out.below (below_regrown _ nq osq))
                    have hle : decide (sq ≤ (P.x - Q.x) * (P.x - Q.x) + (P.y - Q.y) * (P.y - Q.y) + (P.z - Q.z) * (P.z - Q.z)) = true := dec_yes HD.out
                    go_wp2
                    go_ret
                    exact ⟨ret_bool (by first | exact hle | rfl | (rw [vq1, vq2, vq3, vq4, vq5]; exact hle)), HBZ.out⟩
            · skip
              refine step_allocA rfl _ rfl (some 29) rfl _ (run_alloc_pt _) ?_
              intro g35 y35_ hge hbk hb9
              have HX35 := Lib.hid (HX30.out.after hb9)
              have HZ35 : Hid (b0 < y35_.heap.size ∧ b1 < y35_.heap.size ∧ w.heap.size ≤ y35_.heap.size) := by
                have h1 := hb9.size
                have h2 := HZ30.out
                exact ⟨by omega, by omega, by omega⟩
              have HB35q28 := Lib.hid (HB30q28.out.below hb9)
              have HB35 := Lib.hid hbk
              have HG35 : Hid (b0 < g35 ∧ b1 < g35 ∧ w.heap.size ≤ g35) := by
                have h2 := HZ30.out
                exact ⟨by omega, by omega, by omega⟩
              have HNEQ35 : Hid (g35 ≠ g29) := by
                have h3 := HB30q28.out.lt
                unfold Hid; omega
              clear hge hbk hb9
              refine HK.out _ _ ⟨csix_of HX35.out.xs HXA.out, csix_of HX35.out.ys HYB.out⟩ (fun hS => ?_)
              clear HK K'
              simp only [Act.put, List.setIfInBounds_toArray, List.set_cons_zero, List.set_cons_succ]
              clear hS
              refine wpAnyH_ready (rs := [21]) (by kernel_rfl) (by simp) ?_
              refine (AllReadyH.cons (o := _) rfl (fun K' HK => ?_) AllReadyH.nil)
              · skip
                refine step_callA rfl (some 127) rfl 27 #[bxv y, .int .u16 t] (by go_simp) (fun v W => v = ptv Q ∧ Below y35_.heap.size y35_ W) ((HCB.out _).mono fun e w' h => ⟨_, h.1, rfl, h.2⟩) ?_
                rintro v9 y36_ ⟨rfl, hb9⟩
                have HX36 := Lib.hid (HX35.out.after hb9)
                have HZ36 : Hid (b0 < y36_.heap.size ∧ b1 < y36_.heap.size ∧ w.heap.size ≤ y36_.heap.size) := by
                  have h1 := hb9.size
                  have h2 := HZ35.out
                  exact ⟨by omega, by omega, by omega⟩
                have HB36q28 := Lib.hid (HB35q28.out.below hb9)
                have HB36q29 := Lib.hid (HB35.out.below hb9)
                clear hb9
                refine HK.out _ _ ⟨csix_of HX36.out.xs HXA.out, csix_of HX36.out.ys HYB.out⟩ (fun hS => ?_)
                clear HK K'
                simp only [Act.put, List.setIfInBounds_toArray, List.set_cons_zero, List.set_cons_succ]
                clear hS
                refine wpAnyH_ready (rs := [24]) (by kernel_rfl) (by simp) ?_
                refine (AllReadyH.cons (o := _) rfl (fun K' HK => ?_) AllReadyH.nil)
                · skip
                  refine step_storeA rfl _ (.tmp 28) (.tmp 116) rfl rfl g29 35 _ #[.int .i64 P.x, .int .i64 P.y, .int .i64 P.z] HB36q28.out rfl rfl rfl (by kernel_rfl) (by kernel_rfl) ?_
                  intro y37_ hbk hg9
                  have HX37 := Lib.hid (HX36.out.other hg9 HG29.out.2.2 HG29.out.1 HG29.out.2.1)
                  have HB37 := Lib.hid hbk
                  have HB37o := Lib.hid (HB36q29.out.else_ hg9 (fun e => HNEQ35.out (Option.some.inj e)))
                  have HZ37 : Hid (b0 < y37_.heap.size ∧ b1 < y37_.heap.size ∧ w.heap.size ≤ y37_.heap.size) := by
                    have h1 := hg9.size
                    have h2 := HZ36.out
                    exact ⟨by omega, by omega, by omega⟩
                  clear hbk hg9
                  refine HK.out _ _ ⟨csix_of HX37.out.xs HXA.out, csix_of HX37.out.ys HYB.out⟩ (fun hS => ?_)
                  clear HK K'
                  clear hS
                  refine wpAnyH_ready (rs := [25]) (by kernel_rfl) (by simp) ?_
                  refine (AllReadyH.cons (o := _) rfl (fun K' HK => ?_) AllReadyH.nil)
                  · skip
                    refine step_storeA rfl _ (.tmp 29) (.tmp 127) rfl rfl g35 35 _ #[.int .i64 Q.x, .int .i64 Q.y, .int .i64 Q.z] HB37o.out rfl rfl rfl (by kernel_rfl) (by kernel_rfl) ?_
                    intro y38_ hbk hg9
                    have HX38 := Lib.hid (HX37.out.other hg9 HG35.out.2.2 HG35.out.1 HG35.out.2.1)
                    have HB38 := Lib.hid hbk
                    have HB38o := Lib.hid (HB37.out.else_ hg9 (fun e => HNEQ35.out (Option.some.inj e).symm))
                    have HZ38 : Hid (b0 < y38_.heap.size ∧ b1 < y38_.heap.size ∧ w.heap.size ≤ y38_.heap.size) := by
                      have h1 := hg9.size
                      have h2 := HZ37.out
                      exact ⟨by omega, by omega, by omega⟩
                    clear hbk hg9
                    refine HK.out _ _ ⟨csix_of HX38.out.xs HXA.out, csix_of HX38.out.ys HYB.out⟩ (fun hS => ?_)
                    clear HK K'
                    clear hS
                    refine wpAnyH_done (by kernel_rfl) ?_ _
                    have e0 := fun d os => cell_regrown (HB38o.out.cell 0) d os
                    have e1 := fun d os => cell_regrown (HB38o.out.cell 1) d os
                    have e2 := fun d os => cell_regrown (HB38o.out.cell 2) d os
                    have f0 := fun d os => cell_regrown (HB38.out.cell 0) d os
                    have f1 := fun d os => cell_regrown (HB38.out.cell 1) d os
                    have f2 := fun d os => cell_regrown (HB38.out.cell 2) d os
                    go_wp2_with fail
                    refine wp_region_quiet_below (by kernel_rfl) (by kernel_rfl) ?_
                    repeat (go_big_quiet_step ((first
                      | fail)))
                    refine wpQuiet_nil ?_
                    intro _ hw'
                    obtain ⟨⟨nq, osq⟩, hw''⟩ := hw'
                    subst hw''
                    have HBZ := Lib.hid (bstep HX38.out.below (below_regrown _ nq osq))
                    have hle : decide (sq ≤ (P.x - Q.x) * (P.x - Q.x) + (P.y - Q.y) * (P.y - Q.y) + (P.z - Q.z) * (P.z - Q.z)) = true := dec_yes HD.out
                    go_wp2
                    go_ret
                    exact ⟨ret_bool (by first | exact hle | rfl | (rw [vq1, vq2, vq3, vq4, vq5]; exact hle)), HBZ.out⟩
          · skip
            refine step_allocA rfl _ rfl (some 29) rfl _ (run_alloc_pt _) ?_
            intro g39 y39_ hge hbk hb9
            have HX39 := Lib.hid (HX29.out.after hb9)
            have HZ39 : Hid (b0 < y39_.heap.size ∧ b1 < y39_.heap.size ∧ w.heap.size ≤ y39_.heap.size) := by
              have h1 := hb9.size
              have h2 := HZ29.out
              exact ⟨by omega, by omega, by omega⟩
            have HB39q28 := Lib.hid (HB29.out.below hb9)
            have HB39 := Lib.hid hbk
            have HG39 : Hid (b0 < g39 ∧ b1 < g39 ∧ w.heap.size ≤ g39) := by
              have h2 := HZ29.out
              exact ⟨by omega, by omega, by omega⟩
            have HNEQ39 : Hid (g39 ≠ g29) := by
              have h3 := HB29.out.lt
              unfold Hid; omega
            clear hge hbk hb9
            refine HK.out _ _ ⟨csix_of HX39.out.xs HXA.out, csix_of HX39.out.ys HYB.out⟩ (fun hS => ?_)
            clear HK K'
            simp only [Act.put, List.setIfInBounds_toArray, List.set_cons_zero, List.set_cons_succ]
            clear hS
            refine wpAnyH_ready (rs := [10]) (by kernel_rfl) (by simp) ?_
            refine (AllReadyH.cons (o := _) rfl (fun K' HK => ?_) AllReadyH.nil)
            · skip
              refine step_callA rfl (some 116) rfl 27 #[bxv x, .int .u16 s] (by go_simp) (fun v W => v = ptv P ∧ Below y39_.heap.size y39_ W) ((HCA.out _).mono fun e w' h => ⟨_, h.1, rfl, h.2⟩) ?_
              rintro v9 y40_ ⟨rfl, hb9⟩
              have HX40 := Lib.hid (HX39.out.after hb9)
              have HZ40 : Hid (b0 < y40_.heap.size ∧ b1 < y40_.heap.size ∧ w.heap.size ≤ y40_.heap.size) := by
                have h1 := hb9.size
                have h2 := HZ39.out
                exact ⟨by omega, by omega, by omega⟩
              have HB40q28 := Lib.hid (HB39q28.out.below hb9)
              have HB40q29 := Lib.hid (HB39.out.below hb9)
              clear hb9
              refine HK.out _ _ ⟨csix_of HX40.out.xs HXA.out, csix_of HX40.out.ys HYB.out⟩ (fun hS => ?_)
              clear HK K'
              simp only [Act.put, List.setIfInBounds_toArray, List.set_cons_zero, List.set_cons_succ]
              clear hS
              refine wpAnyH_ready (rs := [21]) (by kernel_rfl) (by simp) ?_
              refine (AllReadyH.cons (o := _) rfl (fun K' HK => ?_) AllReadyH.nil)
              · skip
                refine step_callA rfl (some 127) rfl 27 #[bxv y, .int .u16 t] (by go_simp) (fun v W => v = ptv Q ∧ Below y40_.heap.size y40_ W) ((HCB.out _).mono fun e w' h => ⟨_, h.1, rfl, h.2⟩) ?_
                rintro v9 y41_ ⟨rfl, hb9⟩
                have HX41 := Lib.hid (HX40.out.after hb9)
                have HZ41 : Hid (b0 < y41_.heap.size ∧ b1 < y41_.heap.size ∧ w.heap.size ≤ y41_.heap.size) := by
                  have h1 := hb9.size
                  have h2 := HZ40.out
                  exact ⟨by omega, by omega, by omega⟩
                have HB41q28 := Lib.hid (HB40q28.out.below hb9)
                have HB41q29 := Lib.hid (HB40q29.out.below hb9)
                clear hb9
                refine HK.out _ _ ⟨csix_of HX41.out.xs HXA.out, csix_of HX41.out.ys HYB.out⟩ (fun hS => ?_)
                clear HK K'
                simp only [Act.put, List.setIfInBounds_toArray, List.set_cons_zero, List.set_cons_succ]
                clear hS
                refine wpAnyH_ready (rs := [24]) (by kernel_rfl) (by simp) ?_
                refine (AllReadyH.cons (o := _) rfl (fun K' HK => ?_) AllReadyH.nil)
                · skip
                  refine step_storeA rfl _ (.tmp 28) (.tmp 116) rfl rfl g29 35 _ #[.int .i64 P.x, .int .i64 P.y, .int .i64 P.z] HB41q28.out rfl rfl rfl (by kernel_rfl) (by kernel_rfl) ?_
                  intro y42_ hbk hg9
                  have HX42 := Lib.hid (HX41.out.other hg9 HG29.out.2.2 HG29.out.1 HG29.out.2.1)
                  have HB42 := Lib.hid hbk
                  have HB42o := Lib.hid (HB41q29.out.else_ hg9 (fun e => HNEQ39.out (Option.some.inj e)))
                  have HZ42 : Hid (b0 < y42_.heap.size ∧ b1 < y42_.heap.size ∧ w.heap.size ≤ y42_.heap.size) := by
                    have h1 := hg9.size
                    have h2 := HZ41.out
                    exact ⟨by omega, by omega, by omega⟩
                  clear hbk hg9
                  refine HK.out _ _ ⟨csix_of HX42.out.xs HXA.out, csix_of HX42.out.ys HYB.out⟩ (fun hS => ?_)
                  clear HK K'
                  clear hS
                  refine wpAnyH_ready (rs := [25]) (by kernel_rfl) (by simp) ?_
                  refine (AllReadyH.cons (o := _) rfl (fun K' HK => ?_) AllReadyH.nil)
                  · skip
                    refine step_storeA rfl _ (.tmp 29) (.tmp 127) rfl rfl g39 35 _ #[.int .i64 Q.x, .int .i64 Q.y, .int .i64 Q.z] HB42o.out rfl rfl rfl (by kernel_rfl) (by kernel_rfl) ?_
                    intro y43_ hbk hg9
                    have HX43 := Lib.hid (HX42.out.other hg9 HG39.out.2.2 HG39.out.1 HG39.out.2.1)
                    have HB43 := Lib.hid hbk
                    have HB43o := Lib.hid (HB42.out.else_ hg9 (fun e => HNEQ39.out (Option.some.inj e).symm))
                    have HZ43 : Hid (b0 < y43_.heap.size ∧ b1 < y43_.heap.size ∧ w.heap.size ≤ y43_.heap.size) := by
                      have h1 := hg9.size
                      have h2 := HZ42.out
                      exact ⟨by omega, by omega, by omega⟩
                    clear hbk hg9
                    refine HK.out _ _ ⟨csix_of HX43.out.xs HXA.out, csix_of HX43.out.ys HYB.out⟩ (fun hS => ?_)
                    clear HK K'
                    clear hS
                    refine wpAnyH_done (by kernel_rfl) ?_ _
                    have e0 := fun d os => cell_regrown (HB43o.out.cell 0) d os
                    have e1 := fun d os => cell_regrown (HB43o.out.cell 1) d os
                    have e2 := fun d os => cell_regrown (HB43o.out.cell 2) d os
                    have f0 := fun d os => cell_regrown (HB43.out.cell 0) d os
                    have f1 := fun d os => cell_regrown (HB43.out.cell 1) d os
                    have f2 := fun d os => cell_regrown (HB43.out.cell 2) d os
                    go_wp2_with fail
                    refine wp_region_quiet_below (by kernel_rfl) (by kernel_rfl) ?_
                    repeat (go_big_quiet_step ((first
                      | fail)))
                    refine wpQuiet_nil ?_
                    intro _ hw'
                    obtain ⟨⟨nq, osq⟩, hw''⟩ := hw'
                    subst hw''
                    have HBZ := Lib.hid (bstep HX43.out.below (below_regrown _ nq osq))
                    have hle : decide (sq ≤ (P.x - Q.x) * (P.x - Q.x) + (P.y - Q.y) * (P.y - Q.y) + (P.z - Q.z) * (P.z - Q.z)) = true := dec_yes HD.out
                    go_wp2
                    go_ret
                    exact ⟨ret_bool (by first | exact hle | rfl | (rw [vq1, vq2, vq3, vq4, vq5]; exact hle)), HBZ.out⟩
        · skip
          refine step_allocA rfl _ rfl (some 29) rfl _ (run_alloc_pt _) ?_
          intro g44 y44_ hge hbk hb9
          have HX44 := Lib.hid (HX0.out.after hb9)
          have HZ44 : Hid (b0 < y44_.heap.size ∧ b1 < y44_.heap.size ∧ w.heap.size ≤ y44_.heap.size) := by
            have h1 := hb9.size
            have h2 := HZ0.out
            exact ⟨by omega, by omega, by omega⟩
          have HB44 := Lib.hid hbk
          have HG44 : Hid (b0 < g44 ∧ b1 < g44 ∧ w.heap.size ≤ g44) := by
            have h2 := HZ0.out
            exact ⟨by omega, by omega, by omega⟩
          clear hge hbk hb9
          refine HK.out _ _ ⟨csix_of HX44.out.xs HXA.out, csix_of HX44.out.ys HYB.out⟩ (fun hS => ?_)
          clear HK K'
          simp only [Act.put, List.setIfInBounds_toArray, List.set_cons_zero, List.set_cons_succ]
          clear hS
          refine wpAnyH_ready (rs := [10, 22]) (by kernel_rfl) (by simp) ?_
          refine (AllReadyH.cons (o := _) rfl (fun K' HK => ?_) (AllReadyH.cons (o := _) rfl (fun K' HK => ?_) AllReadyH.nil))
          · skip
            refine step_callA rfl (some 116) rfl 27 #[bxv x, .int .u16 s] (by go_simp) (fun v W => v = ptv P ∧ Below y44_.heap.size y44_ W) ((HCA.out _).mono fun e w' h => ⟨_, h.1, rfl, h.2⟩) ?_
            rintro v9 y45_ ⟨rfl, hb9⟩
            have HX45 := Lib.hid (HX44.out.after hb9)
            have HZ45 : Hid (b0 < y45_.heap.size ∧ b1 < y45_.heap.size ∧ w.heap.size ≤ y45_.heap.size) := by
              have h1 := hb9.size
              have h2 := HZ44.out
              exact ⟨by omega, by omega, by omega⟩
            have HB45q29 := Lib.hid (HB44.out.below hb9)
            clear hb9
            refine HK.out _ _ ⟨csix_of HX45.out.xs HXA.out, csix_of HX45.out.ys HYB.out⟩ (fun hS => ?_)
            clear HK K'
            simp only [Act.put, List.setIfInBounds_toArray, List.set_cons_zero, List.set_cons_succ]
            clear hS
            refine wpAnyH_ready (rs := [21, 22]) (by kernel_rfl) (by simp) ?_
            refine (AllReadyH.cons (o := _) rfl (fun K' HK => ?_) (AllReadyH.cons (o := _) rfl (fun K' HK => ?_) AllReadyH.nil))
            · skip
              refine step_callA rfl (some 127) rfl 27 #[bxv y, .int .u16 t] (by go_simp) (fun v W => v = ptv Q ∧ Below y45_.heap.size y45_ W) ((HCB.out _).mono fun e w' h => ⟨_, h.1, rfl, h.2⟩) ?_
              rintro v9 y46_ ⟨rfl, hb9⟩
              have HX46 := Lib.hid (HX45.out.after hb9)
              have HZ46 : Hid (b0 < y46_.heap.size ∧ b1 < y46_.heap.size ∧ w.heap.size ≤ y46_.heap.size) := by
                have h1 := hb9.size
                have h2 := HZ45.out
                exact ⟨by omega, by omega, by omega⟩
              have HB46q29 := Lib.hid (HB45q29.out.below hb9)
              clear hb9
              refine HK.out _ _ ⟨csix_of HX46.out.xs HXA.out, csix_of HX46.out.ys HYB.out⟩ (fun hS => ?_)
              clear HK K'
              simp only [Act.put, List.setIfInBounds_toArray, List.set_cons_zero, List.set_cons_succ]
              clear hS
              refine wpAnyH_ready (rs := [22]) (by kernel_rfl) (by simp) ?_
              refine (AllReadyH.cons (o := _) rfl (fun K' HK => ?_) AllReadyH.nil)
              · skip
                refine step_allocA rfl _ rfl (some 28) rfl _ (run_alloc_pt _) ?_
                intro g47 y47_ hge hbk hb9
                have HX47 := Lib.hid (HX46.out.after hb9)
                have HZ47 : Hid (b0 < y47_.heap.size ∧ b1 < y47_.heap.size ∧ w.heap.size ≤ y47_.heap.size) := by
                  have h1 := hb9.size
                  have h2 := HZ46.out
                  exact ⟨by omega, by omega, by omega⟩
                have HB47q29 := Lib.hid (HB46q29.out.below hb9)
                have HB47 := Lib.hid hbk
                have HG47 : Hid (b0 < g47 ∧ b1 < g47 ∧ w.heap.size ≤ g47) := by
                  have h2 := HZ46.out
                  exact ⟨by omega, by omega, by omega⟩
                have HNEQ47 : Hid (g47 ≠ g44) := by
                  have h3 := HB46q29.out.lt
                  unfold Hid; omega
                clear hge hbk hb9
                refine HK.out _ _ ⟨csix_of HX47.out.xs HXA.out, csix_of HX47.out.ys HYB.out⟩ (fun hS => ?_)
                clear HK K'
                simp only [Act.put, List.setIfInBounds_toArray, List.set_cons_zero, List.set_cons_succ]
                clear hS
                refine wpAnyH_ready (rs := [24]) (by kernel_rfl) (by simp) ?_
                refine (AllReadyH.cons (o := _) rfl (fun K' HK => ?_) AllReadyH.nil)
                · skip
                  refine step_storeA rfl _ (.tmp 28) (.tmp 116) rfl rfl g47 35 _ #[.int .i64 P.x, .int .i64 P.y, .int .i64 P.z] HB47.out rfl rfl rfl (by kernel_rfl) (by kernel_rfl) ?_
                  intro y48_ hbk hg9
                  have HX48 := Lib.hid (HX47.out.other hg9 HG47.out.2.2 HG47.out.1 HG47.out.2.1)
                  have HB48 := Lib.hid hbk
                  have HB48o := Lib.hid (HB47q29.out.else_ hg9 (fun e => HNEQ47.out (Option.some.inj e).symm))
                  have HZ48 : Hid (b0 < y48_.heap.size ∧ b1 < y48_.heap.size ∧ w.heap.size ≤ y48_.heap.size) := by
                    have h1 := hg9.size
                    have h2 := HZ47.out
                    exact ⟨by omega, by omega, by omega⟩
                  clear hbk hg9
                  refine HK.out _ _ ⟨csix_of HX48.out.xs HXA.out, csix_of HX48.out.ys HYB.out⟩ (fun hS => ?_)
                  clear HK K'
                  clear hS
                  refine wpAnyH_ready (rs := [25]) (by kernel_rfl) (by simp) ?_
                  refine (AllReadyH.cons (o := _) rfl (fun K' HK => ?_) AllReadyH.nil)
                  · skip
                    refine step_storeA rfl _ (.tmp 29) (.tmp 127) rfl rfl g44 35 _ #[.int .i64 Q.x, .int .i64 Q.y, .int .i64 Q.z] HB48o.out rfl rfl rfl (by kernel_rfl) (by kernel_rfl) ?_
                    intro y49_ hbk hg9
                    have HX49 := Lib.hid (HX48.out.other hg9 HG44.out.2.2 HG44.out.1 HG44.out.2.1)
                    have HB49 := Lib.hid hbk
                    have HB49o := Lib.hid (HB48.out.else_ hg9 (fun e => HNEQ47.out (Option.some.inj e)))
                    have HZ49 : Hid (b0 < y49_.heap.size ∧ b1 < y49_.heap.size ∧ w.heap.size ≤ y49_.heap.size) := by
                      have h1 := hg9.size
                      have h2 := HZ48.out
                      exact ⟨by omega, by omega, by omega⟩
                    clear hbk hg9
                    refine HK.out _ _ ⟨csix_of HX49.out.xs HXA.out, csix_of HX49.out.ys HYB.out⟩ (fun hS => ?_)
                    clear HK K'
                    clear hS
                    refine wpAnyH_done (by kernel_rfl) ?_ _
                    have e0 := fun d os => cell_regrown (HB49o.out.cell 0) d os
                    have e1 := fun d os => cell_regrown (HB49o.out.cell 1) d os
                    have e2 := fun d os => cell_regrown (HB49o.out.cell 2) d os
                    have f0 := fun d os => cell_regrown (HB49.out.cell 0) d os
                    have f1 := fun d os => cell_regrown (HB49.out.cell 1) d os
                    have f2 := fun d os => cell_regrown (HB49.out.cell 2) d os
                    go_wp2_with fail
                    refine wp_region_quiet_below (by kernel_rfl) (by kernel_rfl) ?_
                    repeat (go_big_quiet_step ((first
                      | fail)))
                    refine wpQuiet_nil ?_
                    intro _ hw'
                    obtain ⟨⟨nq, osq⟩, hw''⟩ := hw'
                    subst hw''
                    have HBZ := Lib.hid (bstep HX49.out.below (below_regrown _ nq osq))
                    have hle : decide (sq ≤ (P.x - Q.x) * (P.x - Q.x) + (P.y - Q.y) * (P.y - Q.y) + (P.z - Q.z) * (P.z - Q.z)) = true := dec_yes HD.out
                    go_wp2
                    go_ret
                    exact ⟨ret_bool (by first | exact hle | rfl | (rw [vq1, vq2, vq3, vq4, vq5]; exact hle)), HBZ.out⟩
            · skip
              refine step_allocA rfl _ rfl (some 28) rfl _ (run_alloc_pt _) ?_
              intro g50 y50_ hge hbk hb9
              have HX50 := Lib.hid (HX45.out.after hb9)
              have HZ50 : Hid (b0 < y50_.heap.size ∧ b1 < y50_.heap.size ∧ w.heap.size ≤ y50_.heap.size) := by
                have h1 := hb9.size
                have h2 := HZ45.out
                exact ⟨by omega, by omega, by omega⟩
              have HB50q29 := Lib.hid (HB45q29.out.below hb9)
              have HB50 := Lib.hid hbk
              have HG50 : Hid (b0 < g50 ∧ b1 < g50 ∧ w.heap.size ≤ g50) := by
                have h2 := HZ45.out
                exact ⟨by omega, by omega, by omega⟩
              have HNEQ50 : Hid (g50 ≠ g44) := by
                have h3 := HB45q29.out.lt
                unfold Hid; omega
              clear hge hbk hb9
              refine HK.out _ _ ⟨csix_of HX50.out.xs HXA.out, csix_of HX50.out.ys HYB.out⟩ (fun hS => ?_)
              clear HK K'
              simp only [Act.put, List.setIfInBounds_toArray, List.set_cons_zero, List.set_cons_succ]
              clear hS
              refine wpAnyH_ready (rs := [21]) (by kernel_rfl) (by simp) ?_
              refine (AllReadyH.cons (o := _) rfl (fun K' HK => ?_) AllReadyH.nil)
              · skip
                refine step_callA rfl (some 127) rfl 27 #[bxv y, .int .u16 t] (by go_simp) (fun v W => v = ptv Q ∧ Below y50_.heap.size y50_ W) ((HCB.out _).mono fun e w' h => ⟨_, h.1, rfl, h.2⟩) ?_
                rintro v9 y51_ ⟨rfl, hb9⟩
                have HX51 := Lib.hid (HX50.out.after hb9)
                have HZ51 : Hid (b0 < y51_.heap.size ∧ b1 < y51_.heap.size ∧ w.heap.size ≤ y51_.heap.size) := by
                  have h1 := hb9.size
                  have h2 := HZ50.out
                  exact ⟨by omega, by omega, by omega⟩
                have HB51q28 := Lib.hid (HB50.out.below hb9)
                have HB51q29 := Lib.hid (HB50q29.out.below hb9)
                clear hb9
                refine HK.out _ _ ⟨csix_of HX51.out.xs HXA.out, csix_of HX51.out.ys HYB.out⟩ (fun hS => ?_)
                clear HK K'
                simp only [Act.put, List.setIfInBounds_toArray, List.set_cons_zero, List.set_cons_succ]
                clear hS
                refine wpAnyH_ready (rs := [24]) (by kernel_rfl) (by simp) ?_
                refine (AllReadyH.cons (o := _) rfl (fun K' HK => ?_) AllReadyH.nil)
                · skip
                  refine step_storeA rfl _ (.tmp 28) (.tmp 116) rfl rfl g50 35 _ #[.int .i64 P.x, .int .i64 P.y, .int .i64 P.z] HB51q28.out rfl rfl rfl (by kernel_rfl) (by kernel_rfl) ?_
                  intro y52_ hbk hg9
                  have HX52 := Lib.hid (HX51.out.other hg9 HG50.out.2.2 HG50.out.1 HG50.out.2.1)
                  have HB52 := Lib.hid hbk
                  have HB52o := Lib.hid (HB51q29.out.else_ hg9 (fun e => HNEQ50.out (Option.some.inj e).symm))
                  have HZ52 : Hid (b0 < y52_.heap.size ∧ b1 < y52_.heap.size ∧ w.heap.size ≤ y52_.heap.size) := by
                    have h1 := hg9.size
                    have h2 := HZ51.out
                    exact ⟨by omega, by omega, by omega⟩
                  clear hbk hg9
                  refine HK.out _ _ ⟨csix_of HX52.out.xs HXA.out, csix_of HX52.out.ys HYB.out⟩ (fun hS => ?_)
                  clear HK K'
                  clear hS
                  refine wpAnyH_ready (rs := [25]) (by kernel_rfl) (by simp) ?_
                  refine (AllReadyH.cons (o := _) rfl (fun K' HK => ?_) AllReadyH.nil)
                  · skip
                    refine step_storeA rfl _ (.tmp 29) (.tmp 127) rfl rfl g44 35 _ #[.int .i64 Q.x, .int .i64 Q.y, .int .i64 Q.z] HB52o.out rfl rfl rfl (by kernel_rfl) (by kernel_rfl) ?_
                    intro y53_ hbk hg9
                    have HX53 := Lib.hid (HX52.out.other hg9 HG44.out.2.2 HG44.out.1 HG44.out.2.1)
                    have HB53 := Lib.hid hbk
                    have HB53o := Lib.hid (HB52.out.else_ hg9 (fun e => HNEQ50.out (Option.some.inj e)))
                    have HZ53 : Hid (b0 < y53_.heap.size ∧ b1 < y53_.heap.size ∧ w.heap.size ≤ y53_.heap.size) := by
                      have h1 := hg9.size
                      have h2 := HZ52.out
                      exact ⟨by omega, by omega, by omega⟩
                    clear hbk hg9
                    refine HK.out _ _ ⟨csix_of HX53.out.xs HXA.out, csix_of HX53.out.ys HYB.out⟩ (fun hS => ?_)
                    clear HK K'
                    clear hS
                    refine wpAnyH_done (by kernel_rfl) ?_ _
                    have e0 := fun d os => cell_regrown (HB53o.out.cell 0) d os
                    have e1 := fun d os => cell_regrown (HB53o.out.cell 1) d os
                    have e2 := fun d os => cell_regrown (HB53o.out.cell 2) d os
                    have f0 := fun d os => cell_regrown (HB53.out.cell 0) d os
                    have f1 := fun d os => cell_regrown (HB53.out.cell 1) d os
                    have f2 := fun d os => cell_regrown (HB53.out.cell 2) d os
                    go_wp2_with fail
                    refine wp_region_quiet_below (by kernel_rfl) (by kernel_rfl) ?_
                    repeat (go_big_quiet_step ((first
                      | fail)))
                    refine wpQuiet_nil ?_
                    intro _ hw'
                    obtain ⟨⟨nq, osq⟩, hw''⟩ := hw'
                    subst hw''
                    have HBZ := Lib.hid (bstep HX53.out.below (below_regrown _ nq osq))
                    have hle : decide (sq ≤ (P.x - Q.x) * (P.x - Q.x) + (P.y - Q.y) * (P.y - Q.y) + (P.z - Q.z) * (P.z - Q.z)) = true := dec_yes HD.out
                    go_wp2
                    go_ret
                    exact ⟨ret_bool (by first | exact hle | rfl | (rw [vq1, vq2, vq3, vq4, vq5]; exact hle)), HBZ.out⟩
          · skip
            refine step_allocA rfl _ rfl (some 28) rfl _ (run_alloc_pt _) ?_
            intro g54 y54_ hge hbk hb9
            have HX54 := Lib.hid (HX44.out.after hb9)
            have HZ54 : Hid (b0 < y54_.heap.size ∧ b1 < y54_.heap.size ∧ w.heap.size ≤ y54_.heap.size) := by
              have h1 := hb9.size
              have h2 := HZ44.out
              exact ⟨by omega, by omega, by omega⟩
            have HB54q29 := Lib.hid (HB44.out.below hb9)
            have HB54 := Lib.hid hbk
            have HG54 : Hid (b0 < g54 ∧ b1 < g54 ∧ w.heap.size ≤ g54) := by
              have h2 := HZ44.out
              exact ⟨by omega, by omega, by omega⟩
            have HNEQ54 : Hid (g54 ≠ g44) := by
              have h3 := HB44.out.lt
              unfold Hid; omega
            clear hge hbk hb9
            refine HK.out _ _ ⟨csix_of HX54.out.xs HXA.out, csix_of HX54.out.ys HYB.out⟩ (fun hS => ?_)
            clear HK K'
            simp only [Act.put, List.setIfInBounds_toArray, List.set_cons_zero, List.set_cons_succ]
            clear hS
            refine wpAnyH_ready (rs := [10]) (by kernel_rfl) (by simp) ?_
            refine (AllReadyH.cons (o := _) rfl (fun K' HK => ?_) AllReadyH.nil)
            · skip
              refine step_callA rfl (some 116) rfl 27 #[bxv x, .int .u16 s] (by go_simp) (fun v W => v = ptv P ∧ Below y54_.heap.size y54_ W) ((HCA.out _).mono fun e w' h => ⟨_, h.1, rfl, h.2⟩) ?_
              rintro v9 y55_ ⟨rfl, hb9⟩
              have HX55 := Lib.hid (HX54.out.after hb9)
              have HZ55 : Hid (b0 < y55_.heap.size ∧ b1 < y55_.heap.size ∧ w.heap.size ≤ y55_.heap.size) := by
                have h1 := hb9.size
                have h2 := HZ54.out
                exact ⟨by omega, by omega, by omega⟩
              have HB55q28 := Lib.hid (HB54.out.below hb9)
              have HB55q29 := Lib.hid (HB54q29.out.below hb9)
              clear hb9
              refine HK.out _ _ ⟨csix_of HX55.out.xs HXA.out, csix_of HX55.out.ys HYB.out⟩ (fun hS => ?_)
              clear HK K'
              simp only [Act.put, List.setIfInBounds_toArray, List.set_cons_zero, List.set_cons_succ]
              clear hS
              refine wpAnyH_ready (rs := [21]) (by kernel_rfl) (by simp) ?_
              refine (AllReadyH.cons (o := _) rfl (fun K' HK => ?_) AllReadyH.nil)
              · skip
                refine step_callA rfl (some 127) rfl 27 #[bxv y, .int .u16 t] (by go_simp) (fun v W => v = ptv Q ∧ Below y55_.heap.size y55_ W) ((HCB.out _).mono fun e w' h => ⟨_, h.1, rfl, h.2⟩) ?_
                rintro v9 y56_ ⟨rfl, hb9⟩
                have HX56 := Lib.hid (HX55.out.after hb9)
                have HZ56 : Hid (b0 < y56_.heap.size ∧ b1 < y56_.heap.size ∧ w.heap.size ≤ y56_.heap.size) := by
                  have h1 := hb9.size
                  have h2 := HZ55.out
                  exact ⟨by omega, by omega, by omega⟩
                have HB56q28 := Lib.hid (HB55q28.out.below hb9)
                have HB56q29 := Lib.hid (HB55q29.out.below hb9)
                clear hb9
                refine HK.out _ _ ⟨csix_of HX56.out.xs HXA.out, csix_of HX56.out.ys HYB.out⟩ (fun hS => ?_)
                clear HK K'
                simp only [Act.put, List.setIfInBounds_toArray, List.set_cons_zero, List.set_cons_succ]
                clear hS
                refine wpAnyH_ready (rs := [24]) (by kernel_rfl) (by simp) ?_
                refine (AllReadyH.cons (o := _) rfl (fun K' HK => ?_) AllReadyH.nil)
                · skip
                  refine step_storeA rfl _ (.tmp 28) (.tmp 116) rfl rfl g54 35 _ #[.int .i64 P.x, .int .i64 P.y, .int .i64 P.z] HB56q28.out rfl rfl rfl (by kernel_rfl) (by kernel_rfl) ?_
                  intro y57_ hbk hg9
                  have HX57 := Lib.hid (HX56.out.other hg9 HG54.out.2.2 HG54.out.1 HG54.out.2.1)
                  have HB57 := Lib.hid hbk
                  have HB57o := Lib.hid (HB56q29.out.else_ hg9 (fun e => HNEQ54.out (Option.some.inj e).symm))
                  have HZ57 : Hid (b0 < y57_.heap.size ∧ b1 < y57_.heap.size ∧ w.heap.size ≤ y57_.heap.size) := by
                    have h1 := hg9.size
                    have h2 := HZ56.out
                    exact ⟨by omega, by omega, by omega⟩
                  clear hbk hg9
                  refine HK.out _ _ ⟨csix_of HX57.out.xs HXA.out, csix_of HX57.out.ys HYB.out⟩ (fun hS => ?_)
                  clear HK K'
                  clear hS
                  refine wpAnyH_ready (rs := [25]) (by kernel_rfl) (by simp) ?_
                  refine (AllReadyH.cons (o := _) rfl (fun K' HK => ?_) AllReadyH.nil)
                  · skip
                    refine step_storeA rfl _ (.tmp 29) (.tmp 127) rfl rfl g44 35 _ #[.int .i64 Q.x, .int .i64 Q.y, .int .i64 Q.z] HB57o.out rfl rfl rfl (by kernel_rfl) (by kernel_rfl) ?_
                    intro y58_ hbk hg9
                    have HX58 := Lib.hid (HX57.out.other hg9 HG44.out.2.2 HG44.out.1 HG44.out.2.1)
                    have HB58 := Lib.hid hbk
                    have HB58o := Lib.hid (HB57.out.else_ hg9 (fun e => HNEQ54.out (Option.some.inj e)))
                    have HZ58 : Hid (b0 < y58_.heap.size ∧ b1 < y58_.heap.size ∧ w.heap.size ≤ y58_.heap.size) := by
                      have h1 := hg9.size
                      have h2 := HZ57.out
                      exact ⟨by omega, by omega, by omega⟩
                    clear hbk hg9
                    refine HK.out _ _ ⟨csix_of HX58.out.xs HXA.out, csix_of HX58.out.ys HYB.out⟩ (fun hS => ?_)
                    clear HK K'
                    clear hS
                    refine wpAnyH_done (by kernel_rfl) ?_ _
                    have e0 := fun d os => cell_regrown (HB58o.out.cell 0) d os
                    have e1 := fun d os => cell_regrown (HB58o.out.cell 1) d os
                    have e2 := fun d os => cell_regrown (HB58o.out.cell 2) d os
                    have f0 := fun d os => cell_regrown (HB58.out.cell 0) d os
                    have f1 := fun d os => cell_regrown (HB58.out.cell 1) d os
                    have f2 := fun d os => cell_regrown (HB58.out.cell 2) d os
                    go_wp2_with fail
                    refine wp_region_quiet_below (by kernel_rfl) (by kernel_rfl) ?_
                    repeat (go_big_quiet_step ((first
                      | fail)))
                    refine wpQuiet_nil ?_
                    intro _ hw'
                    obtain ⟨⟨nq, osq⟩, hw''⟩ := hw'
                    subst hw''
                    have HBZ := Lib.hid (bstep HX58.out.below (below_regrown _ nq osq))
                    have hle : decide (sq ≤ (P.x - Q.x) * (P.x - Q.x) + (P.y - Q.y) * (P.y - Q.y) + (P.z - Q.z) * (P.z - Q.z)) = true := dec_yes HD.out
                    go_wp2
                    go_ret
                    exact ⟨ret_bool (by first | exact hle | rfl | (rw [vq1, vq2, vq3, vq4, vq5]; exact hle)), HBZ.out⟩
end
end Go.Proofs.Ytnlloecbjohfdaa
