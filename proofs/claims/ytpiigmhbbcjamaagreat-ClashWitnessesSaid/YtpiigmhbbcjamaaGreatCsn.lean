/-
  What two laid bars need, and whether they are too near: clash.need, near.
-/
import Derived.Test.YtpiigmhbbcjamaaGreatCsq
import Derived.Test.YtpiigmhbbcjamaaGreatEqC
namespace Go.Proofs.YtpiigmhbbcjamaaGreat
section
open Go.RowKit
set_option linter.unusedVariables false
set_option linter.unusedSimpArgs false
attribute [local go_sem ↓] Go.wp_at_zero Go.wp_at_succ

theorem need_bd {d e c : Int} (hd : 0 ≤ d ∧ d ≤ 10000) (he : 0 ≤ e ∧ e ≤ 10000) (hc : 0 ≤ c ∧ c ≤ 1000) : 0 ≤ needN d e c ∧ needN d e c ≤ 484000000 := by
  have h1 := sq_mono (show (0 : Int) ≤ 0 by omega) (show (0 : Int) ≤ d + e + 2 * c by omega)
  have h2 := sq_mono (show 0 ≤ d + e + 2 * c by omega) (show d + e + 2 * c ≤ 22000 by omega)
  unfold needN
  omega
theorem need_any (d e c : Int) (w : World) (hd : 0 ≤ d ∧ d ≤ 10000) (he : 0 ≤ e ∧ e ≤ 10000) (hc : 0 ≤ c ∧ c ≤ 1000) :
    Calls Tryz.prog 36 #[.int .i64 d, .int .i64 e, .int .i64 c] w fun en w' => en = .returned (.int .i64 (needN d e c)) ∧ Below w.heap.size w w' := by
  have hb := need_bd hd he hc
  have HN : Hid (needN d e c = (d + e + 2 * c) * (d + e + 2 * c)) := rfl
  rw [HN.out] at hb ⊢
  obtain ⟨n0, n1⟩ := hb
  have s1 : IntKind.i64.wrap (d + e) = d + e := IntWalk.i64_in _ (by omega)
  have s2 : IntKind.i64.wrap (2 * c) = 2 * c := IntWalk.i64_in _ (by omega)
  have s3 : IntKind.i64.wrap (d + e + 2 * c) = d + e + 2 * c := IntWalk.i64_in _ (by omega)
  have s4 : IntKind.i64.wrap ((d + e + 2 * c) * (d + e + 2 * c)) = (d + e + 2 * c) * (d + e + 2 * c) := IntWalk.i64_in _ (by omega)
  clear hd he hc
  go_enter Tryz.func36, Tryz.ntmps36
  go_wp2
  go_ret
  exact ⟨rfl, Below.refl _ _⟩
/-- What near has made. -/
structure NrB (w : World) (g : Nat) (P Q : Pt) (cs : Array Value) (wr : World) : Prop where
  below : Below w.heap.size w wr
  res : BlkIs wr w.heap.size 45 cs
  bp : BlkIs wr g 43 #[.int .i64 P.x, .int .i64 P.y, .int .i64 P.z]
  bq : BlkIs wr (g + 1) 43 #[.int .i64 Q.x, .int .i64 Q.y, .int .i64 Q.z]
  far : w.heap.size < g
theorem NrB.after {w wr w' : World} {g : Nat} {P Q : Pt} {cs : Array Value} (h : NrB w g P Q cs wr) (hb : Below wr.heap.size wr w') : NrB w g P Q cs w' := ⟨bstep h.below hb, h.res.below hb, h.bp.below hb, h.bq.below hb, h.far⟩
theorem NrB.put {w wr w' : World} {g : Nat} {P Q : Pt} {cs ds : Array Value} (h : NrB w g P Q cs wr) (hb : BlkIs w' w.heap.size 45 ds) (hg : wr.grownBy w' (some w.heap.size)) : NrB w g P Q ds w' :=
  ⟨h.below.grown hg h.below.size (fun j hj => by cases hj; exact Nat.le_refl _), hb, h.bp.else_ hg (fun e => by have := Option.some.inj e; have := h.far; omega), h.bq.else_ hg (fun e => by have := Option.some.inj e; have := h.far; omega), h.far⟩
abbrev NrS (T g ub uo i k : Nat) (P Q : Pt) (U : Value) (zi zk : Int) (W : World) : Prop :=
  (W.cell? ⟨g, 0, none⟩ = some (.int .i64 P.x) ∧ W.cell? ⟨g, 1, none⟩ = some (.int .i64 P.y) ∧ W.cell? ⟨g, 2, none⟩ = some (.int .i64 P.z)) ∧
  (W.cell? ⟨g + 1, 0, none⟩ = some (.int .i64 Q.x) ∧ W.cell? ⟨g + 1, 1, none⟩ = some (.int .i64 Q.y) ∧ W.cell? ⟨g + 1, 2, none⟩ = some (.int .i64 Q.z)) ∧
  W.cell? ⟨T, 1, none⟩ = some U ∧ W.cell? ⟨ub, uo + i, none⟩ = some (.int .i64 zi) ∧ W.cell? ⟨ub, uo + k, none⟩ = some (.int .i64 zk)
theorem sqAt_bd {L : List (List Bx)} {Z : List Int} {i k : Nat} (hz : LzOk L Z) (hi : i < L.length) (hk : k < L.length) : 0 ≤ (sqAt L i k).n ∧ (sqAt L i k).n ≤ 100000000000000 := by
  obtain ⟨p1, p2, p3⟩ := hz.legs i hi
  obtain ⟨q1, q2, q3⟩ := hz.legs k hk
  obtain ⟨a, b, ha, hb, he, _⟩ := allS_best p1 q1
  have h : sqAt L i k = ⟨sqN a b 3, nearP a b, nearQ a b⟩ := he
  rw [h]
  exact sq_bound (List.all_eq_true.1 p3 a ha) (List.all_eq_true.1 q3 b hb)
theorem Spc.sizes {w : World} {T : Nat} {L : List (List Bx)} {Z : List Int} (h : Spc w T L Z) (hz : Z.length = L.length) {i k : Nat} (hi : i < L.length) (hk : k < L.length) :
    ∃ ub uo uc, T < w.heap.size ∧ ub < w.heap.size ∧ w.cell? ⟨T, 1, none⟩ = some (.slice (some ⟨ub, uo, none⟩) L.length uc) ∧ w.cell? ⟨ub, uo + i, none⟩ = some (.int .i64 (Z.getD i 0)) ∧ w.cell? ⟨ub, uo + k, none⟩ = some (.int .i64 (Z.getD k 0)) := by
  obtain ⟨V, U, h1, _, ao, cap, rfl, h3⟩ := h
  obtain ⟨b, off, rfl, hb, hc⟩ := h3 (by omega)
  have g : ∀ j, j < L.length → Z[j]? = some (Z.getD j 0) := fun j hj => by rw [List.getD_eq_getElem?_getD, List.getElem?_eq_getElem (by omega)]; rfl
  exact ⟨b, off, cap, h1.lt, hb, by rw [← hz]; exact h1.cell 1, hc i _ (g i hi), hc k _ (g k hk)⟩
set_option maxRecDepth 100000 in
set_option maxHeartbeats 8000000 in
theorem cnear_any (T : Nat) (L : List (List Bx)) (Z : List Int) (i k : Nat) (c : Int) (w : World) (hs : Spc w T L Z) (hz : LzOk L Z) (hi : i < L.length) (hk : k < L.length) (hc : 0 ≤ c ∧ c ≤ 1000) :
    Calls Tryz.prog 43 #[.pointer (some ⟨T, 0, none⟩), .int .i64 (i : Int), .int .i64 (k : Int), .int .i64 c] w fun e w' => e = .returned (.tuple #[clv (clOf L i k), .bool (hitC L Z c i k)]) ∧ Below w.heap.size w w' := by
  have HSQ := Lib.hid (fun W (hW : Below w.heap.size w W) => csquare_any T L Z i k W (hs.below hW) hz hi hk)
  have HNE := Lib.hid (fun W => need_any (Z.getD i 0) (Z.getD k 0) c W (hz.size i hi) (hz.size k hk) hc)
  obtain ⟨n0, n1⟩ := sqAt_bd hz hi hk
  obtain ⟨ub, uo, uc, hT, hub, s1, s2, s3⟩ := hs.sizes hz.len hi hk
  have HSW := Lib.hid (fun W (hW : Below w.heap.size w W) => And.intro ((hW.cell (p := ⟨T, 1, none⟩) hT).trans s1) (And.intro ((hW.cell (p := ⟨ub, uo + i, none⟩) hub).trans s2) ((hW.cell (p := ⟨ub, uo + k, none⟩) hub).trans s3)))
  have HCL : Hid (clOf L i k = ⟨i, k, (sqAt L i k).p, (sqAt L i k).q⟩) := rfl
  have HHC : Hid (hitC L Z c i k = decide (4 * (sqAt L i k).n < needN (Z.getD i 0) (Z.getD k 0) c)) := rfl
  rw [HCL.out, HHC.out]
  have i0 : (0 : Int) ≤ (i : Int) := by omega
  have i1 : (i : Int) < (L.length : Int) := by omega
  have k0 : (0 : Int) ≤ (k : Int) := by omega
  have k1 : (k : Int) < (L.length : Int) := by omega
  obtain ⟨st, hst⟩ : ∃ st, sqAt L i k = st := ⟨_, rfl⟩
  rw [hst] at HSQ n0 n1 ⊢
  generalize needN (Z.getD i 0) (Z.getD k 0) c = nd at *
  generalize Z.getD i 0 = zi at *
  generalize Z.getD k 0 = zk at *
  generalize L.length = ll at *
  obtain ⟨n, P, Q⟩ := st
  have hw4 : IntKind.i64.wrap (4 * n) = 4 * n := IntWalk.i64_in _ (by simp at n1 n0; omega)
  simp only at n0 n1
  have hb0 := below_new w (.cells #[.int .i64 0, .int .i64 0, .int .i64 0, .int .i64 0, .int .i64 0, .int .i64 0, .int .i64 0, .int .i64 0] 45)
  have HX0 := Lib.hid (BlkIs.new w #[.int .i64 0, .int .i64 0, .int .i64 0, .int .i64 0, .int .i64 0, .int .i64 0, .int .i64 0, .int .i64 0] 45)
  have HB0 := Lib.hid hb0
  clear hs hz hi hk hc s1 s2 s3 hT hub hb0 HCL HHC hst
  go_enter Tryz.func43, Tryz.ntmps43
  go_wp2_with fail
  refine (HSQ.out _ HB0.out).mono ?_
  rintro e w1 ⟨rfl, hb1⟩
  have HN1 : Hid (NrB w w1.heap.size P Q #[.int .i64 0, .int .i64 0, .int .i64 0, .int .i64 0, .int .i64 0, .int .i64 0, .int .i64 0, .int .i64 0] ((w1.alloc (.cells #[.int .i64 P.x, .int .i64 P.y, .int .i64 P.z] 43)).alloc (.cells #[.int .i64 Q.x, .int .i64 Q.y, .int .i64 Q.z] 43))) :=
    ⟨bstep (bstep HB0.out hb1) (by go_grown), ((HX0.out.below hb1).alloc _).alloc _, (BlkIs.new w1 _ _).alloc _, BlkIs.new1 w1 _ _ _, (HX0.out.below hb1).lt⟩
  clear hb1 HB0 HX0 HSQ
  go_wp2_with fail
  generalize (w1.alloc (.cells #[.int .i64 P.x, .int .i64 P.y, .int .i64 P.z] 43)).alloc (.cells #[.int .i64 Q.x, .int .i64 Q.y, .int .i64 Q.z] 43) = y0 at *
  generalize w1.heap.size = g at *
  have HN2 : Hid (NrB w g P Q #[.int .i64 0, .int .i64 0, .int .i64 0, .int .i64 0, .int .i64 0, .int .i64 0, .int .i64 0, .int .i64 0] y0.drew) := HN1.out.after (Below.refl _ _).drew
  refine wp_region_held_drew (S := fun W => NrS T g ub uo i k P Q (.slice (some ⟨ub, uo, none⟩) ll uc) zi zk W) (by kernel_rfl) ⟨⟨HN2.out.bp.cell 0, HN2.out.bp.cell 1, HN2.out.bp.cell 2⟩, ⟨HN2.out.bq.cell 0, HN2.out.bq.cell 1, HN2.out.bq.cell 2⟩, (HSW.out _ HN2.out.below).1, (HSW.out _ HN2.out.below).2.1, (HSW.out _ HN2.out.below).2.2⟩ (fun hS => ?_)
  clear HN1
  refine wpAnyH_takeV (i := 0) (some 21) (.int .i64 (i : Int)) rfl rfl (by kernel_rfl) (fun _ _ _ h => h) (Or.inl ⟨by rfl, (fun W _ => by rfl)⟩) hS ?_
  simp only [Act.put, List.setIfInBounds_toArray, List.set_cons_zero, List.set_cons_succ]
  refine wpAnyH_takeV (i := 1) (some 22) (.int .i64 (k : Int)) rfl rfl (by kernel_rfl) (fun _ _ _ h => h) (Or.inl ⟨by rfl, (fun W _ => by rfl)⟩) hS ?_
  simp only [Act.put, List.setIfInBounds_toArray, List.set_cons_zero, List.set_cons_succ]
  refine wpAnyH_takeV (i := 2) (some 23) (ptv P) rfl rfl (by kernel_rfl) (fun _ _ _ h => h) (Or.inl ⟨by rfl, (by intro W hW; obtain ⟨⟨x0, x1, x2⟩, ⟨x3, x4, x5⟩, x6, x7, x8⟩ := hW; go_simp)⟩) hS ?_
  simp only [Act.put, List.setIfInBounds_toArray, List.set_cons_zero, List.set_cons_succ]
  refine wpAnyH_takeV (i := 3) (some 24) (ptv Q) rfl rfl (by kernel_rfl) (fun _ _ _ h => h) (Or.inl ⟨by rfl, (by intro W hW; obtain ⟨⟨x0, x1, x2⟩, ⟨x3, x4, x5⟩, x6, x7, x8⟩ := hW; go_simp)⟩) hS ?_
  simp only [Act.put, List.setIfInBounds_toArray, List.set_cons_zero, List.set_cons_succ]
  refine wpAnyH_takeV (i := 4) (some 25) (clv ⟨i, k, P, Q⟩) rfl rfl (by kernel_rfl) (fun _ _ _ h => h) (Or.inl ⟨by rfl, (by intro W hW; obtain ⟨⟨x0, x1, x2⟩, ⟨x3, x4, x5⟩, x6, x7, x8⟩ := hW; go_simp)⟩) hS ?_
  simp only [Act.put, List.setIfInBounds_toArray, List.set_cons_zero, List.set_cons_succ]
  refine wpAnyH_takeV (i := 5) (some 26) (.int .i64 n) rfl rfl (by kernel_rfl) (fun _ _ _ h => h) (Or.inl ⟨by rfl, (fun W _ => by rfl)⟩) hS ?_
  simp only [Act.put, List.setIfInBounds_toArray, List.set_cons_zero, List.set_cons_succ]
  refine wpAnyH_takeV (i := 6) (some 27) (.int .i64 (4 * n)) rfl rfl (by kernel_rfl) (fun _ _ _ h => h) (Or.inl ⟨by rfl, (by intro W hW; obtain ⟨⟨x0, x1, x2⟩, ⟨x3, x4, x5⟩, x6, x7, x8⟩ := hW; go_simp)⟩) hS ?_
  simp only [Act.put, List.setIfInBounds_toArray, List.set_cons_zero, List.set_cons_succ]
  refine wpAnyH_takeV (i := 7) (some 28) (.pointer (some ⟨T, 0, none⟩)) rfl rfl (by kernel_rfl) (fun _ _ _ h => h) (Or.inl ⟨by rfl, (fun W _ => by rfl)⟩) hS ?_
  simp only [Act.put, List.setIfInBounds_toArray, List.set_cons_zero, List.set_cons_succ]
  refine wpAnyH_takeV (i := 8) (some 29) (.pointer (some ⟨T, 0, none⟩)) rfl rfl (by kernel_rfl) (fun _ _ _ h => h) (Or.inl ⟨by rfl, (fun W _ => by rfl)⟩) hS ?_
  simp only [Act.put, List.setIfInBounds_toArray, List.set_cons_zero, List.set_cons_succ]
  refine wpAnyH_takeV (i := 9) (some 30) (.pointer (some ⟨T, 1, none⟩)) rfl rfl (by kernel_rfl) (fun _ _ _ h => h) (Or.inl ⟨by rfl, (fun W _ => by rfl)⟩) hS ?_
  simp only [Act.put, List.setIfInBounds_toArray, List.set_cons_zero, List.set_cons_succ]
  refine wpAnyH_takeV (i := 10) (some 31) (.slice (some ⟨ub, uo, none⟩) ll uc) rfl rfl (by kernel_rfl) (fun _ _ _ h => h) (Or.inl ⟨by rfl, (by intro W hW; obtain ⟨⟨x0, x1, x2⟩, ⟨x3, x4, x5⟩, x6, x7, x8⟩ := hW; go_simp)⟩) hS ?_
  simp only [Act.put, List.setIfInBounds_toArray, List.set_cons_zero, List.set_cons_succ]
  refine wpAnyH_takeV (i := 11) (some 32) (.int .i64 (i : Int)) rfl rfl (by kernel_rfl) (fun _ _ _ h => h) (Or.inl ⟨by rfl, (fun W _ => by rfl)⟩) hS ?_
  simp only [Act.put, List.setIfInBounds_toArray, List.set_cons_zero, List.set_cons_succ]
  refine wpAnyH_takeV (i := 12) (some 33) (.pointer (some ⟨ub, uo + i, none⟩)) rfl rfl (by kernel_rfl) (fun _ _ _ h => h) (Or.inl ⟨by rfl, (by intro W hW; obtain ⟨⟨x0, x1, x2⟩, ⟨x3, x4, x5⟩, x6, x7, x8⟩ := hW; go_simp)⟩) hS ?_
  simp only [Act.put, List.setIfInBounds_toArray, List.set_cons_zero, List.set_cons_succ]
  refine wpAnyH_takeV (i := 13) (some 34) (.int .i64 zi) rfl rfl (by kernel_rfl) (fun _ _ _ h => h) (Or.inl ⟨by rfl, (by intro W hW; obtain ⟨⟨x0, x1, x2⟩, ⟨x3, x4, x5⟩, x6, x7, x8⟩ := hW; go_simp)⟩) hS ?_
  simp only [Act.put, List.setIfInBounds_toArray, List.set_cons_zero, List.set_cons_succ]
  refine wpAnyH_takeV (i := 14) (some 35) (.pointer (some ⟨T, 0, none⟩)) rfl rfl (by kernel_rfl) (fun _ _ _ h => h) (Or.inl ⟨by rfl, (fun W _ => by rfl)⟩) hS ?_
  simp only [Act.put, List.setIfInBounds_toArray, List.set_cons_zero, List.set_cons_succ]
  refine wpAnyH_takeV (i := 15) (some 36) (.pointer (some ⟨T, 0, none⟩)) rfl rfl (by kernel_rfl) (fun _ _ _ h => h) (Or.inl ⟨by rfl, (fun W _ => by rfl)⟩) hS ?_
  simp only [Act.put, List.setIfInBounds_toArray, List.set_cons_zero, List.set_cons_succ]
  refine wpAnyH_takeV (i := 16) (some 37) (.pointer (some ⟨T, 1, none⟩)) rfl rfl (by kernel_rfl) (fun _ _ _ h => h) (Or.inl ⟨by rfl, (fun W _ => by rfl)⟩) hS ?_
  simp only [Act.put, List.setIfInBounds_toArray, List.set_cons_zero, List.set_cons_succ]
  refine wpAnyH_takeV (i := 17) (some 38) (.slice (some ⟨ub, uo, none⟩) ll uc) rfl rfl (by kernel_rfl) (fun _ _ _ h => h) (Or.inl ⟨by rfl, (by intro W hW; obtain ⟨⟨x0, x1, x2⟩, ⟨x3, x4, x5⟩, x6, x7, x8⟩ := hW; go_simp)⟩) hS ?_
  simp only [Act.put, List.setIfInBounds_toArray, List.set_cons_zero, List.set_cons_succ]
  refine wpAnyH_takeV (i := 18) (some 39) (.int .i64 (k : Int)) rfl rfl (by kernel_rfl) (fun _ _ _ h => h) (Or.inl ⟨by rfl, (fun W _ => by rfl)⟩) hS ?_
  simp only [Act.put, List.setIfInBounds_toArray, List.set_cons_zero, List.set_cons_succ]
  refine wpAnyH_takeV (i := 19) (some 40) (.pointer (some ⟨ub, uo + k, none⟩)) rfl rfl (by kernel_rfl) (fun _ _ _ h => h) (Or.inl ⟨by rfl, (by intro W hW; obtain ⟨⟨x0, x1, x2⟩, ⟨x3, x4, x5⟩, x6, x7, x8⟩ := hW; go_simp)⟩) hS ?_
  simp only [Act.put, List.setIfInBounds_toArray, List.set_cons_zero, List.set_cons_succ]
  refine wpAnyH_takeV (i := 20) (some 41) (.int .i64 zk) rfl rfl (by kernel_rfl) (fun _ _ _ h => h) (Or.inl ⟨by rfl, (by intro W hW; obtain ⟨⟨x0, x1, x2⟩, ⟨x3, x4, x5⟩, x6, x7, x8⟩ := hW; go_simp)⟩) hS ?_
  simp only [Act.put, List.setIfInBounds_toArray, List.set_cons_zero, List.set_cons_succ]
  refine wpAnyH_takeV (i := 21) (some 42) (.int .i64 c) rfl rfl (by kernel_rfl) (fun _ _ _ h => h) (Or.inl ⟨by rfl, (fun W _ => by rfl)⟩) hS ?_
  simp only [Act.put, List.setIfInBounds_toArray, List.set_cons_zero, List.set_cons_succ]
  clear hS
  refine wpAnyH_ready (rs := [22]) (by kernel_rfl) (by simp) ?_
  refine (AllReadyH.cons (o := _) rfl (fun K' HK => ?_) AllReadyH.nil)
  refine step_callA rfl (some 43) rfl 36 #[.int .i64 zi, .int .i64 zk, .int .i64 c] (by go_simp) (fun v W => v = .int .i64 nd ∧ Below y0.drew.heap.size y0.drew W) ((HNE.out _).mono fun e w' h => ⟨_, h.1, rfl, h.2⟩) ?_
  rintro v9 y2 ⟨rfl, hb9⟩
  have HN3 := Lib.hid (HN2.out.after hb9)
  clear hb9 HN2
  refine HK.out _ _ ⟨⟨HN3.out.bp.cell 0, HN3.out.bp.cell 1, HN3.out.bp.cell 2⟩, ⟨HN3.out.bq.cell 0, HN3.out.bq.cell 1, HN3.out.bq.cell 2⟩, (HSW.out _ HN3.out.below).1, (HSW.out _ HN3.out.below).2.1, (HSW.out _ HN3.out.below).2.2⟩ (fun hS => ?_)
  clear HK K'
  simp only [Act.put, List.setIfInBounds_toArray, List.set_cons_zero, List.set_cons_succ]
  refine wpAnyH_takeV (i := 23) (some 44) (.bool (decide (4 * n < nd))) rfl rfl (by kernel_rfl) (fun _ _ _ h => h) (Or.inl ⟨by rfl, (by intro W hW; obtain ⟨⟨x0, x1, x2⟩, ⟨x3, x4, x5⟩, x6, x7, x8⟩ := hW; go_simp)⟩) hS ?_
  simp only [Act.put, List.setIfInBounds_toArray, List.set_cons_zero, List.set_cons_succ]
  clear hS
  refine wpAnyH_ready (rs := [24]) (by kernel_rfl) (by simp) ?_
  refine (AllReadyH.cons (o := _) rfl (fun K' HK => ?_) AllReadyH.nil)
  refine step_storeA rfl _ (.tmp 8) (.tmp 25) rfl rfl w.heap.size 45 _ #[.int .i64 (i : Int), .int .i64 (k : Int), .int .i64 P.x, .int .i64 P.y, .int .i64 P.z, .int .i64 Q.x, .int .i64 Q.y, .int .i64 Q.z] HN3.out.res rfl rfl rfl (by kernel_rfl) (by kernel_rfl) ?_
  intro y3 hbk hg9
  have HN4 := Lib.hid (HN3.out.put hbk hg9)
  clear hbk hg9 HN3
  refine HK.out _ _ ⟨⟨HN4.out.bp.cell 0, HN4.out.bp.cell 1, HN4.out.bp.cell 2⟩, ⟨HN4.out.bq.cell 0, HN4.out.bq.cell 1, HN4.out.bq.cell 2⟩, (HSW.out _ HN4.out.below).1, (HSW.out _ HN4.out.below).2.1, (HSW.out _ HN4.out.below).2.2⟩ (fun hS => ?_)
  clear HK K'
  refine wpAnyH_takeV (i := 25) (some 9) (.bool (decide (4 * n < nd))) rfl rfl (by kernel_rfl) (fun _ _ _ h => h) (Or.inl ⟨by rfl, (fun W _ => by rfl)⟩) hS ?_
  simp only [Act.put, List.setIfInBounds_toArray, List.set_cons_zero, List.set_cons_succ]
  refine wpAnyH_done (by kernel_rfl) ?_ _
  clear hS
  have e0 := HN4.out.res.cell 0
  have e1 := HN4.out.res.cell 1
  have e2 := HN4.out.res.cell 2
  have e3 := HN4.out.res.cell 3
  have e4 := HN4.out.res.cell 4
  have e5 := HN4.out.res.cell 5
  have e6 := HN4.out.res.cell 6
  have e7 := HN4.out.res.cell 7
  go_wp2
  exact bodyPost_ret (v := .tuple #[clv ⟨i, k, P, Q⟩, .bool (decide (4 * n < nd))]) (by simp [results, Tryz.results43, go_sem, e0, e1, e2, e3, e4, e5, e6, e7]) rfl ⟨rfl, HN4.out.below⟩
end
end Go.Proofs.YtpiigmhbbcjamaaGreat
