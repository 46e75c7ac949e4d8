/-
  The path of a laid bar.
-/
import Derived.Test.YtpidjgljeooblaaAlB
namespace Go.Proofs.Ytpidjgljeooblaa
open Go.RowKit Go.Shelf
set_option linter.unusedVariables false
set_option linter.unusedSimpArgs false
attribute [local go_sem] Oper.semAt_some

/-- A function whose body holds a range over a function, opened for the plain walk. -/
theorem calls_marks {P : Program} {f : FuncId} {fn : Func} {c : Code} {args : Array Value} {w : World} {R : Ending → World → Prop}
    (hf : P.funcs[f]? = some fn) (hb : fn.body = some c)
    (h : c.wp P (bodyPostM Fence.wide 5 P fn R) { tmps := args ++ Array.replicate (fn.ntmps - args.size) undef, defers := [] } w) : Calls P f args w R :=
  callsIn_wide.1 (callsIn_of_wp_marks hf hb trivial (wpIn_wide.2 h) rfl)
theorem marks_none {P : Program} {fn : Func} {R : Ending → World → Prop} {a : Act} {w : World} {v : Value} (h : (results fn a.tmps).run P w = .ok v w) (hd : a.defers = []) (hR : R (.returned v) w) : bodyPostM Fence.wide 5 P fn R .ret a w := by
  show LeavesInM Fence.wide 5 P fn a.tmps R a.defers .returning w
  rw [hd]
  exact ⟨_, h, hR⟩
theorem marks_one {P : Program} {fn : Func} {R : Ending → World → Prop} {a : Act} {w : World} {D : Nat} {v : Value} (hd : a.defers = [{ target := .collected D, args := #[] }]) (hK : w.heap[D]? = some (.deferred (some [])))
    (h : (results fn a.tmps).run P (w.putObj D (.deferred none)) = .ok v (w.putObj D (.deferred none))) (hR : R (.returned v) (w.putObj D (.deferred none))) : bodyPostM Fence.wide 5 P fn R .ret a w := by
  show LeavesInM Fence.wide 5 P fn a.tmps R a.defers .returning w
  rw [hd]
  exact ⟨by simp, .inl ⟨D, _, rfl, run_takeDeferred hK, ⟨_, h, hR⟩⟩⟩

theorem all_any (ao ro : Option Addr) (al rl ac rc : Nat) (w : World) : Calls Try.prog 64 #[.slice ao al ac, .slice ro rl rc] w fun e w' => e = .returned (.func (.func 80) #[] #[.pointer (some ⟨w.heap.size + 1, 0, none⟩), .pointer (some ⟨w.heap.size, 0, none⟩)]) ∧ (w.alloc (.cells #[.slice ao al ac] 22)).alloc (.cells #[.slice ro rl rc] 23) = w' := by
  go_enter Try.func64, Try.ntmps64
  go_wp2
  go_ret
  exact ⟨rfl, rfl⟩

theorem path_bad (v vr : Value) (i : Int) (l : List BarD) (rs : List RunD) (w : World) (hp : Bars w v l) (hr : Runs w vr rs) (hl : l.length ≤ 140737488355328) (hlr : rs.length ≤ 140737488355328) (hf : FitB l) (h : laidOk l rs = false) :
    Calls Try.prog 41 #[v, vr, .int .i64 i] w fun e w' => e = .returned (.tuple #[.slice none 0 0, .int .i64 1]) ∧ Below w.heap.size w w' := by
  have HV := Lib.hid (fun W (hW : Below w.heap.size w W) => lvalid_any v vr l rs W (hp.below hW) (hr.below hW) hl hlr hf)
  rw [h] at HV
  clear hp hr h
  refine calls_marks Try.func41 rfl ?_
  simp only [Try.ntmps41, List.size_toArray, List.length_cons, List.length_nil, Nat.reduceAdd, Nat.reduceSub, Array.replicate_succ, Array.replicate_zero, List.push_toArray, List.append_toArray, List.nil_append, List.cons_append]
  go_wp2_with fail
  refine (HV.out _ (by go_grown)).mono ?_
  rintro e w1 ⟨rfl, hb1⟩
  obtain ⟨hc, hf1⟩ := bcell hb1
  have hz : w.heap.size + 1 + 1 < w1.heap.size := by have := hb1.size; simp at this; omega
  have hz1 : w.heap.size + 1 < w1.heap.size := by omega
  have HB := Lib.hid (bstep (by go_grown) hb1 : Below w.heap.size w w1)
  clear hb1
  go_wp2
  refine marks_none (v := .tuple #[.slice none 0 0, .int .i64 1]) (by simp [results, Try.results41, go_sem, hc, hf1, hz, hz1]) rfl ⟨rfl, ?_⟩
  exact (HB.out.setCell (by first | (simp; done) | (simp; omega)) _).setCell (by first | (simp; done) | (simp; omega)) _

/-- The world of the loop: nothing old has changed; no bar so far was the one. -/
def PathI (W5 : World) (i : Int) (pre : List (Nat × Value)) (W : World) : Prop := Below W5.heap.size W5 W ∧ ∀ x ∈ pre, (x.1 : Int) ≠ i
/-- The bar is found: its points lie in both cells of the results. -/
def PathX (w : World) (l : List BarD) (rs : List RunD) (i : Int) (W : World) : Prop :=
  Below w.heap.size w W ∧ w.heap.size + 1 + 1 < W.heap.size ∧ ∃ (q : List Pt) (v : Value), 0 ≤ i ∧ (laidPts l rs)[i.toNat]? = some q ∧ OwnPts W w.heap.size v q ∧ BlkIs W (w.heap.size + 1) 82 #[v] ∧ BlkIs W (w.heap.size + 1 + 1) 27 #[.int .i64 0]
theorem pathI_own (W5 : World) (i : Int) : OwnFrom W5.heap.size (PathI W5 i) := by
  rintro pre W W' row ⟨h1, h2⟩ hg hr
  exact ⟨h1.grown hg h1.size (fun g e => (hr g e).1), h2⟩
theorem blk_own {W W' : World} {row : Option Nat} {g : Nat} {t : TypeId} {cs : Array Value} (h : BlkIs W g t cs) (hg : W.grownBy W' row) (hr : ∀ r, row = some r → ∃ o : Obj, W.heap[r]? = some o ∧ o.isCells = false) : BlkIs W' g t cs :=
  (hg.block g h.lt (fun e => by
    obtain ⟨o, ho, hc⟩ := hr g e.symm
    have h' : W.heap[g]? = _ := h
    rw [h'] at ho; cases ho; cases hc)).trans h
theorem ownpts_own {W W' : World} {row : Option Nat} {B : Nat} {v : Value} {q : List Pt} (h : OwnPts W B v q) (hg : W.grownBy W' row) (hr : ∀ r, row = some r → ∃ o : Obj, W.heap[r]? = some o ∧ o.isCells = false) : OwnPts W' B v q := by
  refine OwnN.only h hg (fun g hgv e => ?_)
  obtain ⟨o, ho, hc⟩ := hr g e.symm
  rcases h.2 with ⟨h', _⟩ | ⟨g', cap', cur, h', hb, hh, _⟩
  · rw [h'] at hgv; cases hgv
  · rw [h'] at hgv; cases hgv
    rw [hh] at ho; cases ho; cases hc
theorem pathX_own (w : World) (l : List BarD) (rs : List RunD) (i : Int) (B : Nat) (hB : w.heap.size ≤ B) : OwnFrom B (fun (_ : List (Nat × Value)) W => PathX w l rs i W) := by
  rintro pre W W' row ⟨h1, h2, q, v, h3, h4, h5, h6, h7⟩ hg hr
  have hr' : ∀ r, row = some r → ∃ o : Obj, W.heap[r]? = some o ∧ o.isCells = false := fun r e => (hr r e).2
  exact ⟨h1.grown hg h1.size (fun g e => Nat.le_trans hB (hr g e).1), Nat.lt_of_lt_of_le h2 hg.size, q, v, h3, h4, ownpts_own h5 hg hr', blk_own h6 hg hr', blk_own h7 hg hr'⟩

def PathPost (w : World) (l : List BarD) (rs : List RunD) (i : Int) (e : Ending) (w' : World) : Prop :=
  (∃ (q : List Pt) (v : Value), 0 ≤ i ∧ (laidPts l rs)[i.toNat]? = some q ∧ e = .returned (.tuple #[v, .int .i64 0]) ∧ OwnPts w' w.heap.size v q ∧ Below w.heap.size w w') ∨
  ((i < 0 ∨ (cumN rs : Int) ≤ i) ∧ e = .returned (.tuple #[.slice none 0 0, .int .i64 2]) ∧ Below w.heap.size w w')

theorem below_put {w W : World} {D : Nat} {o : Obj} (h : Below w.heap.size w W) (hD : w.heap.size ≤ D) : Below w.heap.size w (W.putObj D o) := h.grown (grownBy_putObj' W D o) h.size (fun g e => by cases e; exact hD)
theorem path_end {a : Act} {W : World} {D R : Nat} {v : Value} {er : Int} {Rr : Ending → World → Prop} (hd : a.defers = [{ target := .collected D, args := #[] }]) (h6 : a.tmps.getD 6 undef = .pointer (some ⟨R, 0, none⟩)) (h7 : a.tmps.getD 7 undef = .pointer (some ⟨R + 1, 0, none⟩))
    (hK : W.heap[D]? = some (.deferred (some []))) (b1 : BlkIs W R 82 #[v]) (b2 : BlkIs W (R + 1) 27 #[.int .i64 er]) (hR : Rr (.returned (.tuple #[v, .int .i64 er])) (W.putObj D (.deferred none))) :
    bodyPostM Fence.wide 5 Try.prog Try.f41 Rr .ret a W := by
  have hr : ∀ r, some D = some r → ∃ o : Obj, W.heap[r]? = some o ∧ o.isCells = false := fun r e => by cases e; exact ⟨_, hK, rfl⟩
  have c1 := (blk_own b1 (grownBy_putObj' W D (.deferred none)) hr).cell 0
  have c2 := (blk_own b2 (grownBy_putObj' W D (.deferred none)) hr).cell 0
  refine marks_one hd hK ?_ hR
  generalize W.putObj D (.deferred none) = Z at *
  simp at h6 h7 c1 c2
  simp [results, Try.results41, go_sem, h6, h7, c1, c2]
set_option maxRecDepth 100000 in
set_option maxHeartbeats 4000000 in
theorem path_good (v vr : Value) (i : Int) (l : List BarD) (rs : List RunD) (w : World) (hp : Bars w v l) (hr : Runs w vr rs) (hl : l.length ≤ 140737488355328) (hlr : rs.length ≤ 140737488355328) (hf : FitB l) (h : laidOk l rs = true) :
    Calls Try.prog 41 #[v, vr, .int .i64 i] w (PathPost w l rs i) := by
  obtain ⟨q1, q2, q3, q4⟩ := laidOk_parts h
  have HV := Lib.hid (fun W (hW : Below w.heap.size w W) => lvalid_any v vr l rs W (hp.below hW) (hr.below hW) hl hlr hf)
  rw [h] at HV
  obtain ⟨ao, cap, rfl⟩ := hp.at_
  obtain ⟨ro, rcap, rfl⟩ := hr.at_
  have HP := Lib.hid hp
  have HR := Lib.hid hr
  have HA := Lib.hid (fun W => all_any ao ro l.length rs.length cap rcap W)
  have HT := Lib.hid (fun W5 RB BB (b1 : BlkIs W5 RB 23 #[.slice ro rs.length rcap]) (b2 : BlkIs W5 BB 22 #[.slice ao l.length cap]) (b3 : Below w.heap.size w W5) => all1_told 4 (by omega) l rs (.slice ao l.length cap) (.slice ro rs.length rcap) W5 RB BB b1 b2 (hp.below b3) (hr.below b3) hl q2 hf q1 q3)
  clear hp hr h q1 q2 q3 q4
  refine calls_marks Try.func41 rfl ?_
  simp only [Try.ntmps41, List.size_toArray, List.length_cons, List.length_nil, Nat.reduceAdd, Nat.reduceSub, Array.replicate_succ, Array.replicate_zero, List.push_toArray, List.append_toArray, List.nil_append, List.cons_append]
  go_wp2_with fail
  refine (HV.out _ (by go_grown)).mono ?_
  rintro e w1 ⟨rfl, hb1⟩
  have HB1 := Lib.hid (bstep (by go_grown) hb1 : Below w.heap.size w w1)
  have BI1 : Hid (BlkIs w1 w.heap.size 3 #[.int .i64 i]) := (((BlkIs.new w _ _).alloc _).alloc _).below hb1
  have BP1 : Hid (BlkIs w1 (w.heap.size + 1) 82 #[.slice none 0 0]) := ((BlkIs.new1 w _ _ _).alloc _).below hb1
  have BE1 : Hid (BlkIs w1 (w.heap.size + 1 + 1) 27 #[.int .i64 0]) := BlkIs.below (by have h := BlkIs.new1 (w.alloc (.cells #[.int .i64 i] 3)) (.cells #[.slice none 0 0] 82) #[.int .i64 0] 27; rw [World.size_alloc] at h; exact h) hb1
  clear hb1
  go_wp2_with fail
  refine (HA.out _).mono ?_
  rintro e w5 ⟨rfl, hw5⟩
  have HB5 : Hid (Below w.heap.size w w5) := by rw [← hw5]; exact (HB1.out.alloc HB1.out.size _).alloc (by have := HB1.out.size; simp; omega) _
  have BI5 : Hid (BlkIs w5 w.heap.size 3 #[.int .i64 i]) := by rw [← hw5]; exact (BI1.out.alloc _).alloc _
  have BP5 : Hid (BlkIs w5 (w.heap.size + 1) 82 #[.slice none 0 0]) := by rw [← hw5]; exact (BP1.out.alloc _).alloc _
  have BE5 : Hid (BlkIs w5 (w.heap.size + 1 + 1) 27 #[.int .i64 0]) := by rw [← hw5]; exact (BE1.out.alloc _).alloc _
  have hTD := HT.out w5 (w1.heap.size + 1) w1.heap.size (by rw [← hw5]; exact BlkIs.new1 _ _ _ _) (by rw [← hw5]; exact (BlkIs.new _ _ _).alloc _) HB5.out
  have hz5 := BE5.out.lt
  clear hw5
  go_wp2_with fail
  refine (wpIn_wide (n := 5)).1 ?_
  refine wpIn_told (F := Fence.wide) (n := 5) rfl (by decide) (gf := 80) (lb := #[.pointer (some ⟨w1.heap.size + 1, 0, none⟩), .pointer (some ⟨w1.heap.size, 0, none⟩)]) rfl trivial (enters_of Try.func80 (by kernel_rfl) rfl)
    hTD (fun h k => h.trans k) (fun W l' o o' _ hl ho _ => Kc.put W l' o o' hl ho) (fun _ => rfl)
    (PathI w5 i) (fun _ W => PathX w l rs i W) (pathI_own w5 i) (pathX_own w l rs i _ (by omega)) (told_own l rs _ _) ⟨Below.refl _ _, by simp⟩ ?a1 ?assign ?body ?done ?stop
  case assign =>
    intro l x W K hK
    gi_wp2
    exact hK
  case body =>
    rintro L pre ⟨j, sv⟩ W hI ⟨q, hq, ho⟩
    obtain ⟨so, sc, rfl⟩ := OwnN.shape ho
    have c0 := (BI5.out.below hI.1).cell 0
    have d0 := (BP5.out.below hI.1).cell 0
    have d1 := (BP5.out.below hI.1).free 0
    have e0 := (BE5.out.below hI.1).cell 0
    have e1 := (BE5.out.below hI.1).free 0
    have BP := Lib.hid (BP5.out.below hI.1)
    have BE := Lib.hid (BE5.out.below hI.1)
    have HII := Lib.hid hI
    have HYY := Lib.hid (And.intro hq ho)
    clear hI hq ho
    by_cases hji : (j : Int) = i
    · have hb : ((j : Int) == i) = true := beq_yes hji
      have HJI := Lib.hid hji
      clear hji
      gi_wp2
      have hg : W.grownBy ((W.setCell ⟨w.heap.size + 1, 0, none⟩ (.slice so q.length sc)).setCell ⟨w.heap.size + 1 + 1, 0, none⟩ (.int .i64 0)) (some (w.heap.size + 1)) ∨ True := .inr trivial
      refine ⟨(KeepsFrom.of_grownBy (only_set W (w.heap.size + 1) 0 _) (fun j hj => by cases hj; omega)).trans (KeepsFrom.of_grownBy (only_set _ (w.heap.size + 1 + 1) 0 _) (fun j hj => by cases hj; omega)), ?_⟩
      have hsz := HII.out.1.size
      refine ⟨((bstep HB5.out HII.out.1).setCell (by first | (simp; done) | (simp; omega)) _).setCell (by first | (simp; done) | (simp; omega)) _, by simp; omega, q, .slice so q.length sc, by have := HJI.out; omega, ?_, ?_, ?_, ?_⟩
      · rw [← HJI.out]; exact HYY.out.1
      · exact (OwnN.far (OwnN.far HYY.out.2 (by omega)) (by omega)).mono HB5.out.size
      · exact ((BP.out.set 0 _).far (by simp) _)
      · exact (BE.out.far (by simp) _).set 0 _
    · have hb : ((j : Int) == i) = false := beq_no hji
      have HJI := Lib.hid hji
      clear hji
      gi_wp2
      refine ⟨KeepsFrom.refl _ _, Kc.refl _, HII.out.1, fun x hx => ?_⟩
      rcases List.mem_append.1 hx with hx | hx
      · exact HII.out.2 x hx
      · rw [List.mem_singleton.1 hx]; exact HJI.out
  case done =>
    rintro D xs W hD hS hI hK
    have d0 := (BP5.out.below hI.1).cell 0
    have d1 := (BP5.out.below hI.1).free 0
    have e0 := (BE5.out.below hI.1).cell 0
    have e1 := (BE5.out.below hI.1).free 0
    have HII := Lib.hid hI
    have HSS := Lib.hid hS
    have HKK := Lib.hid hK
    clear hI hS hK
    go_wp2
    have hsz := HII.out.1.size
    have hge : D ≠ w.heap.size + 1 ∧ D ≠ w.heap.size + 1 + 1 := by constructor <;> omega
    refine path_end (D := D) (R := w.heap.size + 1) (v := .slice none 0 0) (er := 2) rfl rfl rfl ?_ ?_ ?_ ?_
    · rw [heap_setCell_other _ _ _ _ (by simp; omega), heap_setCell_other _ _ _ _ (by simp; omega)]; exact HKK.out
    · exact ((BP5.out.below HII.out.1).set 0 _).far (by simp) _
    · exact ((BE5.out.below HII.out.1).far (by simp) _).set 0 _
    · refine .inr ⟨?_, rfl, ?_⟩
      · have h1 := HSS.out
        have h2 := HII.out.2
        by_cases hi : i < 0
        · exact .inl hi
        · right
          rcases Int.lt_or_le i (cumN rs : Int) with hlt | hge
          · exfalso
            have hm : i.toNat ∈ xs.map Prod.fst := by rw [h1]; exact List.mem_range.2 (by omega)
            obtain ⟨x, hx, hxe⟩ := List.mem_map.1 hm
            exact h2 x hx (by omega)
          · exact hge
      · exact below_put ((((bstep HB5.out HII.out.1).setCell (by first | (simp; done) | (simp; omega)) _).setCell (by first | (simp; done) | (simp; omega)) _)) (by omega)
  case stop =>
    rintro D pre W hD _ hX hK
    refine wpIn_ret ?_
    obtain ⟨h1, h2, q, v, h3, h4, h5, h6, h7⟩ := hX
    show bodyPostM _ _ _ _ _ .ret _ _
    refine path_end (D := D) (R := w.heap.size + 1) (v := v) (er := 0) rfl rfl rfl hK h6 h7 ?_
    have hr : ∀ r, some D = some r → ∃ o : Obj, W.heap[r]? = some o ∧ o.isCells = false := fun r e => by cases e; exact ⟨_, hK, rfl⟩
    exact .inl ⟨q, v, h3, h4, rfl, ownpts_own h5 (grownBy_putObj' W D _) hr, below_put h1 (by omega)⟩
end Go.Proofs.Ytpidjgljeooblaa
