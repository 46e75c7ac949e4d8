/-
  Reference 19: Points.
-/
import Derived.Test.YtpiigmhbbcjamaaGreatRca
import Derived.Test.YtpiigmhbbcjamaaGreatRnc
import Derived.Test.YtpiigmhbbcjamaaGreatRnj
import Derived.Test.YtpiigmhbbcjamaaGreatQrs
namespace Go.Proofs.YtpiigmhbbcjamaaGreat
section
open Go.RowKit
set_option linter.unusedVariables false
set_option linter.unusedSimpArgs false
attribute [local go_sem ↓] Go.wp_at_zero Go.wp_at_succ

abbrev z3 : Array Value := #[.int .i64 0, .int .i64 0, .int .i64 0]
structure RpW (w : World) (s : SqS) (wr : World) : Prop where
  below : Below w.heap.size w wr
  r1 : BlkIs wr w.heap.size 43 #[.int .i64 0, .int .i64 0, .int .i64 0]
  r2 : BlkIs wr (w.heap.size + 1) 43 #[.int .i64 0, .int .i64 0, .int .i64 0]
  bp : BlkIs wr (w.heap.size + 2) 43 #[.int .i64 s.p.x, .int .i64 s.p.y, .int .i64 s.p.z]
  bq : BlkIs wr (w.heap.size + 3) 43 #[.int .i64 s.q.x, .int .i64 s.q.y, .int .i64 s.q.z]
theorem RpW.after {w wr w' : World} {s : SqS} (h : RpW w s wr) (hb : Below wr.heap.size wr w') : RpW w s w' := ⟨bstep h.below hb, h.r1.below hb, h.r2.below hb, h.bp.below hb, h.bq.below hb⟩
theorem RpW.put {w wr : World} {s : SqS} (h : RpW w s wr) (n : Int) (P Q : Pt) : RpW w ⟨n, P, Q⟩ (wset3 (wset3 wr (w.heap.size + 2) P) (w.heap.size + 3) Q) :=
  ⟨wbelow_set3 (wbelow_set3 h.below (by omega) P) (by omega) Q, wblk_far3 (G := w.heap.size + 3) (wblk_far3 (G := w.heap.size + 2) h.r1 (by omega) P) (by omega) Q, wblk_far3 (G := w.heap.size + 3) (wblk_far3 (G := w.heap.size + 2) h.r2 (by omega) P) (by omega) Q,
    wblk_far3 (G := w.heap.size + 3) (wblk_set3 h.bp P) (by omega) Q, wblk_set3 (wblk_far3 (G := w.heap.size + 2) h.bq (by omega) P) Q⟩
abbrev CSixR (b o : Nat) (p : Bx) (W : World) : Prop :=
  W.cell? ⟨b, o, none⟩ = some (.int .i64 p.lo.x) ∧ W.cell? ⟨b, o + 1, none⟩ = some (.int .i64 p.lo.y) ∧ W.cell? ⟨b, o + 2, none⟩ = some (.int .i64 p.lo.z) ∧ W.cell? ⟨b, o + 3, none⟩ = some (.int .i64 p.hi.x) ∧ W.cell? ⟨b, o + 4, none⟩ = some (.int .i64 p.hi.y) ∧ W.cell? ⟨b, o + 5, none⟩ = some (.int .i64 p.hi.z)
theorem csixr_of {W : World} {b off len cap k : Nat} {l : List Bx} {p : Bx} (h : Bxs W (.slice (some ⟨b, off, none⟩) len cap) l) (hk : l[k]? = some p) : CSixR b (off + k * 6) p W := by
  obtain ⟨b', off', he, _, h0, h1, h2, h3, h4, h5⟩ := bxs_get h hk
  cases he
  exact ⟨h0, h1, h2, h3, h4, h5⟩
theorem RpW.putP {w wr w' : World} {s : SqS} (h : RpW w s wr) {P : Pt} (n : Int) (hb : BlkIs w' (w.heap.size + 2) 43 #[.int .i64 P.x, .int .i64 P.y, .int .i64 P.z]) (hg : wr.grownBy w' (some (w.heap.size + 2))) : RpW w ⟨n, P, s.q⟩ w' :=
  ⟨h.below.grown hg h.below.size (fun j hj => by cases hj; omega), h.r1.else_ hg (fun e => by have := Option.some.inj e; omega), h.r2.else_ hg (fun e => by have := Option.some.inj e; omega), hb, h.bq.else_ hg (fun e => by have := Option.some.inj e; omega)⟩
theorem RpW.putQ {w wr w' : World} {s : SqS} (h : RpW w s wr) {Q : Pt} (n : Int) (hb : BlkIs w' (w.heap.size + 3) 43 #[.int .i64 Q.x, .int .i64 Q.y, .int .i64 Q.z]) (hg : wr.grownBy w' (some (w.heap.size + 3))) : RpW w ⟨n, s.p, Q⟩ w' :=
  ⟨h.below.grown hg h.below.size (fun j hj => by cases hj; omega), h.r1.else_ hg (fun e => by have := Option.some.inj e; omega), h.r2.else_ hg (fun e => by have := Option.some.inj e; omega), h.bp.else_ hg (fun e => by have := Option.some.inj e; omega), hb⟩
theorem RpW.start (w : World) : RpW w sqS0 ((((w.alloc (.cells z3 43)).alloc (.cells z3 43)).alloc (.cells z3 43)).alloc (.cells z3 43)) :=
  ⟨by go_grown, (((BlkIs.new w _ _).alloc _).alloc _).alloc _, ((BlkIs.new1 w _ _ _).alloc _).alloc _, by
    have h := (BlkIs.new ((w.alloc (.cells z3 43)).alloc (.cells z3 43)) z3 43).alloc (.cells z3 43)
    have e : ((w.alloc (.cells z3 43)).alloc (.cells z3 43)).heap.size = w.heap.size + 2 := by simp
    rw [e] at h
    exact h, by
    have h := BlkIs.new1 ((w.alloc (.cells z3 43)).alloc (.cells z3 43)) (.cells z3 43) z3 43
    have e : ((w.alloc (.cells z3 43)).alloc (.cells z3 43)).heap.size + 1 = w.heap.size + 3 := by simp
    rw [e] at h
    exact h⟩
set_option maxRecDepth 100000 in
set_option maxHeartbeats 8000000 in
theorem rpoints19_any (v u : Value) (A B : List Bx) (w : World) (hA : Bxs w v A) (hB : Bxs w u B) (p2 : A.length ≤ 6) (p3 : A.all bxOk = true) (q2 : B.length ≤ 6) (q3 : B.all bxOk = true) :
    Calls Tryz.prog 40 #[v, u] w fun e w' => e = .returned (.tuple #[.int .i64 (allS A B A.length).n, ptv (allS A B A.length).p, ptv (allS A B A.length).q]) ∧ Below w.heap.size w w' := by
  have HW0 := Lib.hid (RpW.start w)
  have HXA := Lib.hid hA
  have HXB := Lib.hid hB
  have HOA := Lib.hid (List.all_eq_true.1 p3)
  have HOB := Lib.hid (List.all_eq_true.1 q3)
  have HSR := Lib.hid (fun (a b : Bx) W (h1 : bxOk a = true) (h2 : bxOk b = true) => rsquare_any a b W h1 h2)
  have HNE := Lib.hid (fun (a b : Bx) W (h1 : bxOk a = true) (h2 : bxOk b = true) => rnearest_any a b W h1 h2)
  have HA0 : Hid (allS A B 0 = sqS0) := rfl
  obtain ⟨ao, ac, rfl⟩ := hA.at_
  obtain ⟨bo, bc, rfl⟩ := hB.at_
  clear hA hB p3 q3
  go_enter Tryz.func40, Tryz.ntmps40
  go_wp2_with fail
  go_loopw [7, 10] (fun n c wr => ∃ t : Nat, t ≤ A.length ∧ c = .int .i64 (t : Int) ∧ n = .int .i64 (allS A B t).n ∧ RpW w (allS A B t) wr) (fun _ c _ => A.length - (intOf c).toNat)
  case atStart => exact ⟨0, Nat.zero_le _, rfl, rfl, HW0.out⟩
  case round =>
    clear HW0 HA0
    obtain ⟨t, ht, rfl, rfl, hW⟩ := hrel
    have HW := Lib.hid hW
    clear hW
    obtain ⟨wo, rfl⟩ : ∃ wo : World, wo = wr := ⟨_, rfl⟩
    by_cases ht2 : t < A.length
    · obtain ⟨a, ha⟩ : ∃ y, A[t]? = some y := ⟨_, List.getElem?_eq_getElem ht2⟩
      have HAOK := Lib.hid (HOA.out a (List.mem_of_getElem? ha))
      have HAS := Lib.hid (allS_succ B ha)
      have HGA := Lib.hid ha
      generalize hst : allS A B t = st at *
      have HR0 : Hid (rowS st a B 0 = st) := rfl
      clear ha hst
      go_wp2_with fail
      go_loopw [7, 11] (fun n c wr => ∃ m : Nat, m ≤ B.length ∧ c = .int .i64 (m : Int) ∧ n = .int .i64 (rowS st a B m).n ∧ RpW w (rowS st a B m) wr) (fun _ c _ => B.length - (intOf c).toNat)
      case atStart => exact ⟨0, Nat.zero_le _, rfl, by rw [HR0.out], by rw [HR0.out]; exact HW.out⟩
      case round =>
        clear HW HR0
        obtain ⟨m, hm, rfl, rfl, hW⟩ := hrel
        have HW := Lib.hid hW
        clear hW
        by_cases hm2 : m < B.length
        · obtain ⟨b, hb⟩ : ∃ y, B[m]? = some y := ⟨_, List.getElem?_eq_getElem hm2⟩
          obtain ⟨b0, off0, rfl, hbl0, c0, c1, c2, c3, c4, c5⟩ := bxs_get (Fl.below HXA.out HW.out.below) HGA.out
          obtain ⟨b1, off1, rfl, hbl1, d0, d1, d2, d3, d4, d5⟩ := bxs_get (Fl.below HXB.out HW.out.below) hb
          have HBOK := Lib.hid (HOB.out b (List.mem_of_getElem? hb))
          have HRS := Lib.hid (rowS_succ st a hb)
          have HS := Lib.hid (fun W => HSR.out a b W HAOK.out HBOK.out)
          have HN := Lib.hid (fun W => HNE.out a b W HAOK.out HBOK.out)
          have HST : Hid (∀ s : SqS, stS s a b = if s.n < 0 ∨ sqN a b 3 < s.n then ⟨sqN a b 3, nearP a b, nearQ a b⟩ else s) := fun _ => rfl
          generalize rowS st a B m = s0 at *
          generalize sqN a b 3 = sq at *
          generalize nearP a b = P at *
          generalize nearQ a b = Q at *
          have HSTS := Lib.hid (HST.out s0)
          have HCX := Lib.hid (And.intro c0 (And.intro c1 (And.intro c2 (And.intro c3 (And.intro c4 c5)))))
          have HDX := Lib.hid (And.intro d0 (And.intro d1 (And.intro d2 (And.intro d3 (And.intro d4 d5)))))
          have HLB := Lib.hid (And.intro hbl0 hbl1)
          have c0 := fun d os => cell_regrown c0 d os
          have c1 := fun d os => cell_regrown c1 d os
          have c2 := fun d os => cell_regrown c2 d os
          have c3 := fun d os => cell_regrown c3 d os
          have c4 := fun d os => cell_regrown c4 d os
          have c5 := fun d os => cell_regrown c5 d os
          have d0 := fun d os => cell_regrown d0 d os
          have d1 := fun d os => cell_regrown d1 d os
          have d2 := fun d os => cell_regrown d2 d os
          have d3 := fun d os => cell_regrown d3 d os
          have d4 := fun d os => cell_regrown d4 d os
          have d5 := fun d os => cell_regrown d5 d os
          have HGB := Lib.hid hb
          clear hb hbl0 hbl1 HST
          go_wp2_with fail
          refine wp_region_quiet_below (by kernel_rfl) (by kernel_rfl) ?_
          repeat (go_big_quiet_step ((first
            | (go_at_call 65; exact Calls.regrown_of (HS.out _)))))
          refine wpQuiet_nil ?_
          intro _ hw'
          obtain ⟨⟨nq, osq⟩, hw''⟩ := hw'
          subst hw''
          have HW2 := Lib.hid (HW.out.after (below_regrown wr nq osq))
          have HCW := Lib.hid (fun p v (h : wr.cell? p = some v) => (cell_regrown h nq osq : (Go.Sort.grow (redrawn wr nq) osq).cell? p = some v))
          generalize Go.Sort.grow (redrawn wr nq) osq = w5 at *
          clear HW c0 c1 c2 c3 c4 c5 d0 d1 d2 d3 d4 d5
          by_cases h1 : s0.n < 0 ∨ sq < s0.n
          · have HRN : Hid (rowS st a B (m + 1) = ⟨sq, P, Q⟩) := by unfold Hid; rw [HRS.out, HSTS.out, if_pos h1]
            clear HRS HSTS HS HCX HDX HCW
            by_cases h3 : s0.n < 0
            · have d9 : decide (s0.n < 0) = true := dec_yes h3
              go_wp2_with fail
              have HW3 := Lib.hid (HW2.out.after (Below.refl _ _).drew)
              refine wp_region_held_drew (S := fun W => CSixR b0 (off0 + t * 6) a W ∧ CSixR b1 (off1 + m * 6) b W) (by kernel_rfl) ⟨csixr_of (Fl.below HXA.out HW3.out.below) HGA.out, csixr_of (Fl.below HXB.out HW3.out.below) HGB.out⟩ (fun hS => ?_)
              clear HW2
              refine wpAnyH_takeV (i := 0) (some 43) (.slice (some ⟨b0, off0, none⟩) A.length ac) rfl rfl (by kernel_rfl) (fun _ _ _ h => h) (Or.inl ⟨by rfl, (fun W _ => by rfl)⟩) hS ?_
              simp only [Act.put, List.setIfInBounds_toArray, List.set_cons_zero, List.set_cons_succ]
              refine wpAnyH_takeV (i := 1) (some 44) (.int .i64 (t : Int)) rfl rfl (by kernel_rfl) (fun _ _ _ h => h) (Or.inl ⟨by rfl, (fun W _ => by rfl)⟩) hS ?_
              simp only [Act.put, List.setIfInBounds_toArray, List.set_cons_zero, List.set_cons_succ]
              refine wpAnyH_takeV (i := 2) (some 45) (.pointer (some ⟨b0, off0 + t * 6, none⟩)) rfl rfl (by kernel_rfl) (fun _ _ _ h => h) (Or.inl ⟨by rfl, (by intro W hW; obtain ⟨⟨x0, x1, x2, x3, x4, x5⟩, y0, y1, y2, y3, y4, y5⟩ := hW; go_simp)⟩) hS ?_
              simp only [Act.put, List.setIfInBounds_toArray, List.set_cons_zero, List.set_cons_succ]
              refine wpAnyH_takeV (i := 3) (some 46) (bxv a) rfl rfl (by kernel_rfl) (fun _ _ _ h => h) (Or.inl ⟨by rfl, (by intro W hW; obtain ⟨⟨x0, x1, x2, x3, x4, x5⟩, y0, y1, y2, y3, y4, y5⟩ := hW; go_simp)⟩) hS ?_
              simp only [Act.put, List.setIfInBounds_toArray, List.set_cons_zero, List.set_cons_succ]
              refine wpAnyH_takeV (i := 4) (some 47) (.slice (some ⟨b1, off1, none⟩) B.length bc) rfl rfl (by kernel_rfl) (fun _ _ _ h => h) (Or.inl ⟨by rfl, (fun W _ => by rfl)⟩) hS ?_
              simp only [Act.put, List.setIfInBounds_toArray, List.set_cons_zero, List.set_cons_succ]
              refine wpAnyH_takeV (i := 5) (some 48) (.int .i64 (m : Int)) rfl rfl (by kernel_rfl) (fun _ _ _ h => h) (Or.inl ⟨by rfl, (fun W _ => by rfl)⟩) hS ?_
              simp only [Act.put, List.setIfInBounds_toArray, List.set_cons_zero, List.set_cons_succ]
              refine wpAnyH_takeV (i := 6) (some 49) (.pointer (some ⟨b1, off1 + m * 6, none⟩)) rfl rfl (by kernel_rfl) (fun _ _ _ h => h) (Or.inl ⟨by rfl, (by intro W hW; obtain ⟨⟨x0, x1, x2, x3, x4, x5⟩, y0, y1, y2, y3, y4, y5⟩ := hW; go_simp)⟩) hS ?_
              simp only [Act.put, List.setIfInBounds_toArray, List.set_cons_zero, List.set_cons_succ]
              refine wpAnyH_takeV (i := 7) (some 50) (bxv b) rfl rfl (by kernel_rfl) (fun _ _ _ h => h) (Or.inl ⟨by rfl, (by intro W hW; obtain ⟨⟨x0, x1, x2, x3, x4, x5⟩, y0, y1, y2, y3, y4, y5⟩ := hW; go_simp)⟩) hS ?_
              simp only [Act.put, List.setIfInBounds_toArray, List.set_cons_zero, List.set_cons_succ]
              clear hS
              refine wpAnyH_ready (rs := [8]) (by kernel_rfl) (by simp) ?_
              refine (AllReadyH.cons (o := _) rfl (fun K' HK => ?_) AllReadyH.nil)
              refine step_callA rfl (some 51) rfl 66 #[bxv a, bxv b] (by go_simp) (fun v W => v = .tuple #[ptv P, ptv Q] ∧ Below w5.drew.heap.size w5.drew W) ((HN.out _).mono fun e w' h => ⟨_, h.1, rfl, h.2⟩) ?_
              rintro v9 y2 ⟨rfl, hb9⟩
              have HW4 := Lib.hid (HW3.out.after hb9)
              clear hb9 HW3 HN
              refine HK.out _ _ ⟨csixr_of (Fl.below HXA.out HW4.out.below) HGA.out, csixr_of (Fl.below HXB.out HW4.out.below) HGB.out⟩ (fun hS => ?_)
              clear HK K'
              simp only [Act.put, List.setIfInBounds_toArray, List.set_cons_zero, List.set_cons_succ]
              refine wpAnyH_takeV (i := 9) (some 42) (.tuple #[ptv P, ptv Q]) rfl rfl (by kernel_rfl) (fun _ _ _ h => h) (Or.inl ⟨by rfl, (fun W _ => by rfl)⟩) hS ?_
              simp only [Act.put, List.setIfInBounds_toArray, List.set_cons_zero, List.set_cons_succ]
              refine wpAnyH_takeV (i := 10) (some 52) (ptv P) rfl rfl (by kernel_rfl) (fun _ _ _ h => h) (Or.inl ⟨by rfl, (by intro W hW; obtain ⟨⟨x0, x1, x2, x3, x4, x5⟩, y0, y1, y2, y3, y4, y5⟩ := hW; go_simp)⟩) hS ?_
              simp only [Act.put, List.setIfInBounds_toArray, List.set_cons_zero, List.set_cons_succ]
              refine wpAnyH_takeV (i := 11) (some 53) (ptv Q) rfl rfl (by kernel_rfl) (fun _ _ _ h => h) (Or.inl ⟨by rfl, (by intro W hW; obtain ⟨⟨x0, x1, x2, x3, x4, x5⟩, y0, y1, y2, y3, y4, y5⟩ := hW; go_simp)⟩) hS ?_
              simp only [Act.put, List.setIfInBounds_toArray, List.set_cons_zero, List.set_cons_succ]
              clear hS
              refine wpAnyH_ready (rs := [12]) (by kernel_rfl) (by simp) ?_
              refine (AllReadyH.cons (o := _) rfl (fun K' HK => ?_) AllReadyH.nil)
              refine step_storeA rfl _ (.tmp 8) (.tmp 52) rfl rfl (w.heap.size + 2) 43 _ #[.int .i64 P.x, .int .i64 P.y, .int .i64 P.z] HW4.out.bp rfl rfl rfl (by kernel_rfl) (by kernel_rfl) ?_
              intro y3 hbk hg9
              have HW5 := Lib.hid (HW4.out.putP sq hbk hg9)
              clear hbk hg9 HW4
              refine HK.out _ _ ⟨csixr_of (Fl.below HXA.out HW5.out.below) HGA.out, csixr_of (Fl.below HXB.out HW5.out.below) HGB.out⟩ (fun hS => ?_)
              clear HK K' hS
              refine wpAnyH_ready (rs := [13]) (by kernel_rfl) (by simp) ?_
              refine (AllReadyH.cons (o := _) rfl (fun K' HK => ?_) AllReadyH.nil)
              refine step_storeA rfl _ (.tmp 9) (.tmp 53) rfl rfl (w.heap.size + 3) 43 _ #[.int .i64 Q.x, .int .i64 Q.y, .int .i64 Q.z] HW5.out.bq rfl rfl rfl (by kernel_rfl) (by kernel_rfl) ?_
              intro y4 hbk hg9
              have HW6 := Lib.hid (HW5.out.putQ sq hbk hg9)
              clear hbk hg9 HW5
              refine HK.out _ _ ⟨csixr_of (Fl.below HXA.out HW6.out.below) HGA.out, csixr_of (Fl.below HXB.out HW6.out.below) HGB.out⟩ (fun hS => ?_)
              clear HK K' hS
              refine wpAnyH_done (by kernel_rfl) ?_ _
              go_wp2
              go_roundw
              case rel => exact ⟨m + 1, by omega, by go_num, by rw [HRN.out], by rw [HRN.out]; exact HW6.out⟩
              case measure => simp [intOf]; omega
            · have d9 : decide (s0.n < 0) = false := dec_no h3
              have d8 : decide (sq < s0.n) = true := dec_yes (by omega)
              go_wp2_with fail
              have HW3 := Lib.hid (HW2.out.after (Below.refl _ _).drew)
              refine wp_region_held_drew (S := fun W => CSixR b0 (off0 + t * 6) a W ∧ CSixR b1 (off1 + m * 6) b W) (by kernel_rfl) ⟨csixr_of (Fl.below HXA.out HW3.out.below) HGA.out, csixr_of (Fl.below HXB.out HW3.out.below) HGB.out⟩ (fun hS => ?_)
              clear HW2
              refine wpAnyH_takeV (i := 0) (some 43) (.slice (some ⟨b0, off0, none⟩) A.length ac) rfl rfl (by kernel_rfl) (fun _ _ _ h => h) (Or.inl ⟨by rfl, (fun W _ => by rfl)⟩) hS ?_
              simp only [Act.put, List.setIfInBounds_toArray, List.set_cons_zero, List.set_cons_succ]
              refine wpAnyH_takeV (i := 1) (some 44) (.int .i64 (t : Int)) rfl rfl (by kernel_rfl) (fun _ _ _ h => h) (Or.inl ⟨by rfl, (fun W _ => by rfl)⟩) hS ?_
              simp only [Act.put, List.setIfInBounds_toArray, List.set_cons_zero, List.set_cons_succ]
              refine wpAnyH_takeV (i := 2) (some 45) (.pointer (some ⟨b0, off0 + t * 6, none⟩)) rfl rfl (by kernel_rfl) (fun _ _ _ h => h) (Or.inl ⟨by rfl, (by intro W hW; obtain ⟨⟨x0, x1, x2, x3, x4, x5⟩, y0, y1, y2, y3, y4, y5⟩ := hW; go_simp)⟩) hS ?_
              simp only [Act.put, List.setIfInBounds_toArray, List.set_cons_zero, List.set_cons_succ]
              refine wpAnyH_takeV (i := 3) (some 46) (bxv a) rfl rfl (by kernel_rfl) (fun _ _ _ h => h) (Or.inl ⟨by rfl, (by intro W hW; obtain ⟨⟨x0, x1, x2, x3, x4, x5⟩, y0, y1, y2, y3, y4, y5⟩ := hW; go_simp)⟩) hS ?_
              simp only [Act.put, List.setIfInBounds_toArray, List.set_cons_zero, List.set_cons_succ]
              refine wpAnyH_takeV (i := 4) (some 47) (.slice (some ⟨b1, off1, none⟩) B.length bc) rfl rfl (by kernel_rfl) (fun _ _ _ h => h) (Or.inl ⟨by rfl, (fun W _ => by rfl)⟩) hS ?_
              simp only [Act.put, List.setIfInBounds_toArray, List.set_cons_zero, List.set_cons_succ]
              refine wpAnyH_takeV (i := 5) (some 48) (.int .i64 (m : Int)) rfl rfl (by kernel_rfl) (fun _ _ _ h => h) (Or.inl ⟨by rfl, (fun W _ => by rfl)⟩) hS ?_
              simp only [Act.put, List.setIfInBounds_toArray, List.set_cons_zero, List.set_cons_succ]
              refine wpAnyH_takeV (i := 6) (some 49) (.pointer (some ⟨b1, off1 + m * 6, none⟩)) rfl rfl (by kernel_rfl) (fun _ _ _ h => h) (Or.inl ⟨by rfl, (by intro W hW; obtain ⟨⟨x0, x1, x2, x3, x4, x5⟩, y0, y1, y2, y3, y4, y5⟩ := hW; go_simp)⟩) hS ?_
              simp only [Act.put, List.setIfInBounds_toArray, List.set_cons_zero, List.set_cons_succ]
              refine wpAnyH_takeV (i := 7) (some 50) (bxv b) rfl rfl (by kernel_rfl) (fun _ _ _ h => h) (Or.inl ⟨by rfl, (by intro W hW; obtain ⟨⟨x0, x1, x2, x3, x4, x5⟩, y0, y1, y2, y3, y4, y5⟩ := hW; go_simp)⟩) hS ?_
              simp only [Act.put, List.setIfInBounds_toArray, List.set_cons_zero, List.set_cons_succ]
              clear hS
              refine wpAnyH_ready (rs := [8]) (by kernel_rfl) (by simp) ?_
              refine (AllReadyH.cons (o := _) rfl (fun K' HK => ?_) AllReadyH.nil)
              refine step_callA rfl (some 51) rfl 66 #[bxv a, bxv b] (by go_simp) (fun v W => v = .tuple #[ptv P, ptv Q] ∧ Below w5.drew.heap.size w5.drew W) ((HN.out _).mono fun e w' h => ⟨_, h.1, rfl, h.2⟩) ?_
              rintro v9 y2 ⟨rfl, hb9⟩
              have HW4 := Lib.hid (HW3.out.after hb9)
              clear hb9 HW3 HN
              refine HK.out _ _ ⟨csixr_of (Fl.below HXA.out HW4.out.below) HGA.out, csixr_of (Fl.below HXB.out HW4.out.below) HGB.out⟩ (fun hS => ?_)
              clear HK K'
              simp only [Act.put, List.setIfInBounds_toArray, List.set_cons_zero, List.set_cons_succ]
              refine wpAnyH_takeV (i := 9) (some 42) (.tuple #[ptv P, ptv Q]) rfl rfl (by kernel_rfl) (fun _ _ _ h => h) (Or.inl ⟨by rfl, (fun W _ => by rfl)⟩) hS ?_
              simp only [Act.put, List.setIfInBounds_toArray, List.set_cons_zero, List.set_cons_succ]
              refine wpAnyH_takeV (i := 10) (some 52) (ptv P) rfl rfl (by kernel_rfl) (fun _ _ _ h => h) (Or.inl ⟨by rfl, (by intro W hW; obtain ⟨⟨x0, x1, x2, x3, x4, x5⟩, y0, y1, y2, y3, y4, y5⟩ := hW; go_simp)⟩) hS ?_
              simp only [Act.put, List.setIfInBounds_toArray, List.set_cons_zero, List.set_cons_succ]
              refine wpAnyH_takeV (i := 11) (some 53) (ptv Q) rfl rfl (by kernel_rfl) (fun _ _ _ h => h) (Or.inl ⟨by rfl, (by intro W hW; obtain ⟨⟨x0, x1, x2, x3, x4, x5⟩, y0, y1, y2, y3, y4, y5⟩ := hW; go_simp)⟩) hS ?_
              simp only [Act.put, List.setIfInBounds_toArray, List.set_cons_zero, List.set_cons_succ]
              clear hS
              refine wpAnyH_ready (rs := [12]) (by kernel_rfl) (by simp) ?_
              refine (AllReadyH.cons (o := _) rfl (fun K' HK => ?_) AllReadyH.nil)
              refine step_storeA rfl _ (.tmp 8) (.tmp 52) rfl rfl (w.heap.size + 2) 43 _ #[.int .i64 P.x, .int .i64 P.y, .int .i64 P.z] HW4.out.bp rfl rfl rfl (by kernel_rfl) (by kernel_rfl) ?_
              intro y3 hbk hg9
              have HW5 := Lib.hid (HW4.out.putP sq hbk hg9)
              clear hbk hg9 HW4
              refine HK.out _ _ ⟨csixr_of (Fl.below HXA.out HW5.out.below) HGA.out, csixr_of (Fl.below HXB.out HW5.out.below) HGB.out⟩ (fun hS => ?_)
              clear HK K' hS
              refine wpAnyH_ready (rs := [13]) (by kernel_rfl) (by simp) ?_
              refine (AllReadyH.cons (o := _) rfl (fun K' HK => ?_) AllReadyH.nil)
              refine step_storeA rfl _ (.tmp 9) (.tmp 53) rfl rfl (w.heap.size + 3) 43 _ #[.int .i64 Q.x, .int .i64 Q.y, .int .i64 Q.z] HW5.out.bq rfl rfl rfl (by kernel_rfl) (by kernel_rfl) ?_
              intro y4 hbk hg9
              have HW6 := Lib.hid (HW5.out.putQ sq hbk hg9)
              clear hbk hg9 HW5
              refine HK.out _ _ ⟨csixr_of (Fl.below HXA.out HW6.out.below) HGA.out, csixr_of (Fl.below HXB.out HW6.out.below) HGB.out⟩ (fun hS => ?_)
              clear HK K' hS
              refine wpAnyH_done (by kernel_rfl) ?_ _
              go_wp2
              go_roundw
              case rel => exact ⟨m + 1, by omega, by go_num, by rw [HRN.out], by rw [HRN.out]; exact HW6.out⟩
              case measure => simp [intOf]; omega
          · have e1 : decide (s0.n < 0) = false := dec_no (by omega)
            have e2 : decide (sq < s0.n) = false := dec_no (by omega)
            have HRN : Hid (rowS st a B (m + 1) = s0) := by unfold Hid; rw [HRS.out, HSTS.out, if_neg h1]
            clear HRS HSTS HN HS
            go_wp2
            go_roundw
            case rel => exact ⟨m + 1, by omega, by go_num, by rw [HRN.out], by rw [HRN.out]; exact HW2.out⟩
            case measure => simp [intOf]; omega
        · obtain rfl : m = B.length := by omega
          go_wp2
          go_roundw
          case rel => exact ⟨t + 1, by omega, by go_num, by rw [HAS.out], by rw [HAS.out]; exact HW.out⟩
          case measure => simp [intOf]; omega
    · obtain rfl : t = A.length := by omega
      generalize hse : allS A B A.length = st at *
      have HSE := Lib.hid hse
      clear hse
      have p0 := HW.out.bp.cell 0
      have p1 := HW.out.bp.cell 1
      have p2 := HW.out.bp.cell 2
      have q0 := HW.out.bq.cell 0
      have q1 := HW.out.bq.cell 1
      have q2 := HW.out.bq.cell 2
      have r0 := HW.out.r1.cell 0
      have r1 := HW.out.r1.cell 1
      have r2 := HW.out.r1.cell 2
      have rf := HW.out.r1.free
      have s0 := HW.out.r2.cell 0
      have s1 := HW.out.r2.cell 1
      have s2 := HW.out.r2.cell 2
      have sf := HW.out.r2.free
      obtain ⟨W9, hW9⟩ : ∃ W, (wset3 (wset3 wo w.heap.size st.p) (w.heap.size + 1) st.q).drew = W := ⟨_, rfl⟩
      have HWE : Hid (Below w.heap.size w W9 ∧ BlkIs W9 w.heap.size 43 #[.int .i64 st.p.x, .int .i64 st.p.y, .int .i64 st.p.z] ∧ BlkIs W9 (w.heap.size + 1) 43 #[.int .i64 st.q.x, .int .i64 st.q.y, .int .i64 st.q.z]) := by
        unfold Hid
        rw [← hW9]
        exact ⟨bstep (wbelow_set3 (wbelow_set3 HW.out.below (Nat.le_refl _) st.p) (by omega) st.q) (Below.refl _ _).drew, (wblk_far3 (G := w.heap.size + 1) (wblk_set3 HW.out.r1 st.p) (by omega) st.q).below (Below.refl _ _).drew, (wblk_set3 (wblk_far3 (G := w.heap.size) HW.out.r2 (by omega) st.p) st.q).below (Below.refl _ _).drew⟩
      have H9 := Lib.hid hW9
      clear hW9
      go_wp2_with fail
      go_region
      all_goals
        rw [H9.out]
        clear p0 p1 p2 q0 q1 q2 r0 r1 r2 rf s0 s1 s2 sf H9
        have e0 := HWE.out.2.1.cell 0
        have e1 := HWE.out.2.1.cell 1
        have e2 := HWE.out.2.1.cell 2
        have g0 := HWE.out.2.2.cell 0
        have g1 := HWE.out.2.2.cell 1
        have g2 := HWE.out.2.2.cell 2
        go_wp2
        exact bodyPost_ret (v := .tuple #[.int .i64 st.n, ptv st.p, ptv st.q]) (by simp [results, Tryz.results40, go_sem, e0, e1, e2, g0, g1, g2]) rfl ⟨by rw [HSE.out], HWE.out.1⟩
end
end Go.Proofs.YtpiigmhbbcjamaaGreat
