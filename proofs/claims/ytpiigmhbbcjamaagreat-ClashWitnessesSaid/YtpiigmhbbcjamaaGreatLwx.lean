/-
  Equality of boxes, findings, and runs; slices.Equal at boxes and at findings (written by wip/gen_EqS.py). Moved runs: the program's and the reference's. laid.Moved; equal runs. The example of the chapter: awake returns true. The walk of LaidLegs. The walk of LaidBars. The walk of LaidMoves. The walk of LaidSteps: plain part. box.Square of valid boxes; the length of a leg; the lengths of the legs of a bar. The lengths of the legs of a bar: plain part; shape.Legs. shape.Legs of a bar that is right; the place of a mark.
-/
import Derived.Test.YtpiigmhbbcjamaaGreatBxm
import Derived.Test.YtpiigmhbbcjamaaGreatQbl
import Derived.Test.YtpiigmhbbcjamaaGreatRfx
import Derived.Deep.CutBlock
namespace Go.Proofs.YtpiigmhbbcjamaaGreat
section
open Go.RowKit
set_option linter.unusedVariables false
set_option linter.unusedSimpArgs false

set_option maxHeartbeats 1000000 in
theorem run_eq_bx (a b : Bx) (W : World) : (Op.equalIn 10000 96 (bxv a) (bxv b)).run Tryz.prog W = .ok (decide (a = b)) W := by
  obtain ⟨⟨a1, a2, a3⟩, a4, a5, a6⟩ := a
  obtain ⟨⟨b1, b2, b3⟩, b4, b5, b6⟩ := b
  simp only [Bx.mk.injEq, Pt.mk.injEq]
  by_cases h0 : a1 = b1
  · skip
    by_cases h1 : a2 = b2
    · skip
      by_cases h2 : a3 = b3
      · skip
        by_cases h3 : a4 = b4
        · skip
          by_cases h4 : a5 = b5
          · skip
            by_cases h5 : a6 = b6
            · skip
              go_simp
            · go_simp
          · go_simp
        · go_simp
      · go_simp
    · go_simp
  · go_simp

theorem fds_get {w : World} {ao : Option Addr} {len cap k : Nat} {l : List (Int × ByteArray)} {p : Int × ByteArray} (h : Fl 2 finCells w (.slice ao len cap) l) (hk : l[k]? = some p) :
    ∃ b off, ao = some ⟨b, off, none⟩ ∧ b < w.heap.size ∧ w.cell? ⟨b, off + k * 2, none⟩ = some (.int .i64 p.1) ∧ w.cell? ⟨b, off + k * 2 + 1, none⟩ = some (.string p.2) := by
  obtain ⟨b, off, rfl, hlt, hc⟩ := h.get hk
  exact ⟨b, off, rfl, hlt, hc 0 _ rfl, hc 1 _ rfl⟩
theorem list_ne {α : Type} {la lb : List α} {k : Nat} {x y : α} (h1 : la[k]? = some x) (h2 : lb[k]? = some y) (h : x ≠ y) : la ≠ lb := fun e => by
  subst e
  rw [h1] at h2
  exact h (Option.some.inj h2)
theorem list_eq {α : Type} {la lb : List α} (hl : la.length = lb.length) (h : ∀ j, j < la.length → la[j]? = lb[j]?) : la = lb := by
  apply List.ext_getElem?
  intro j
  rcases Nat.lt_or_ge j la.length with h1 | h1
  · exact h j h1
  · rw [List.getElem?_eq_none h1, List.getElem?_eq_none (by omega)]

end

section
open Go.RowKit
set_option linter.unusedVariables false
set_option linter.unusedSimpArgs false
attribute [local go_sem ↓] Go.wp_at_zero Go.wp_at_succ

theorem elemRun : ElemN Tryz.prog 23 75 10 88 := elemN_of (z := .agg #[.string ⟨#[]⟩, .int .i64 0, .int .i64 0, .int .i64 0, .int .i64 0, .int .i64 0, .int .i64 0, .int .i64 0, .int .i64 0, .int .i64 0]) Tryz.underlying23 (by kernel_rfl) rfl (by omega)
def OwnRuns (w : World) (base : Nat) (v : Value) (l : List RunD) : Prop := OwnN w base 75 10 runCells v l

theorem wpList_appendFl {α : Type} {P : Program} (w0 : World) {ops : Array Oper} {rest : List Oper} {o : Oper} {a : Act} {Q : Exit → Act → World → Prop} (hgd : o.guard = none) (s x : Operand) (t : TypeId)
    (ho : o.op = .call { callee := .builtin .append, args := #[s, x], argTypes := #[t, t] })
    (e n bytes : Nat) (he : ElemN P t e n bytes) (base : Nat) (enc : α → List Value) (henc : ∀ x, (enc x).length = n) (h1 : ∀ x, ∀ u ∈ enc x, u.oneCell' = true) (v : Value) (l l2 : List α) (ad : Addr) (m cap : Nat)
    (hown : OwnN w0 base e n enc v l) (hs : a.eval s = v) (hx : a.eval x = .slice (some ad) m cap) (hsrc : ∀ (j : Nat) u, (l2.flatMap enc)[j]? = some u → w0.cell? (ad.add j) = some u) (hn : l2.length = m)
    (h63 : l.length + m ≤ 1099511627776) (hby : bytes ≤ 120) (hbase : base ≤ w0.heap.size)
    (hK : ∀ v' w', OwnN w' base e n enc v' (l ++ l2) → w0.grownBy w' v.ownBlock → wpList P ops Q rest (a.put o.dst v') w') :
    wpList P ops Q (o :: rest) a w0 := by
  obtain ⟨ht, i, z, hi, hz, hsz, hb, hzs, hpos⟩ := he
  obtain ⟨v', w', hrun, h2, h3, _, h5⟩ := run_append_own_at (P := P) w0 base t o.type e i z n bytes ht hi hz hsz hb hzs hpos v l.length (l.flatMap enc) hown
    ad m cap (l2.flatMap enc) (by rw [flat_len henc, hn]) hsrc (by
      intro u hu
      obtain ⟨y, _, hy⟩ := List.mem_flatMap.1 hu
      exact h1 y u hy) (by unfold maxLen; omega) (by
      have : (l.length + m) * bytes ≤ 1099511627776 * 120 := Nat.mul_le_mul h63 hby
      omega) hbase
  refine wpList_plain hgd fun K hK' => ?_
  unfold Oper.wp execOp
  simp only [ho, resolve, invoke, builtin, Sem.run_bind, Sem.run_pure, Result.andThen_ok, List.map_toArray, List.map_cons, List.map_nil, hs, hx, hrun]
  refine hK' _ _ (hK v' w' ?_ h3)
  unfold OwnN
  rw [List.length_append, hn, List.flatMap_append]
  exact h2

theorem flat_inv {α : Type} {n : Nat} {enc : α → List Value} (hn : ∀ x, (enc x).length = n) (hpos : 0 < n) (l : List α) {j : Nat} {u : Value} (h : (l.flatMap enc)[j]? = some u) : ∃ k i x, j = k * n + i ∧ l[k]? = some x ∧ (enc x)[i]? = some u := by
  have hj := (List.getElem?_eq_some_iff.1 h).1
  rw [flat_len hn] at hj
  have hk : j / n < l.length := (Nat.div_lt_iff_lt_mul hpos).2 hj
  obtain ⟨x, hx⟩ : ∃ y, l[j / n]? = some y := ⟨_, List.getElem?_eq_getElem hk⟩
  have hi : j % n < (enc x).length := by rw [hn]; exact Nat.mod_lt _ hpos
  obtain ⟨y, hy⟩ : ∃ y, (enc x)[j % n]? = some y := ⟨_, List.getElem?_eq_getElem hi⟩
  have e := flat_get hn l _ _ _ _ hx hy
  have ej : j / n * n + j % n = j := by rw [Nat.mul_comm]; exact Nat.div_add_mod j n
  rw [ej, h] at e
  cases e
  exact ⟨_, _, x, ej.symm, hx, hy⟩

/-! ### what is returned -/
def mvR (by_ : Pt) (r : RunD) : RunD := { r with at_ := padd r.at_ by_ }
def mvOk (by_ : Pt) (r : RunD) : Bool := ptIn 1048576 r.at_ && ptIn 1048576 (padd r.at_ by_)
def mvE (by_ : Pt) (rs : List RunD) : Int := if 60 < rs.length then 4 else if ptIn 2097152 by_ = false then 2 else if rs.all (mvOk by_) then 0 else 2
def mvL (by_ : Pt) (rs : List RunD) : List RunD := if mvE by_ rs = 0 then rs.map (mvR by_) else []
theorem mv_full {by_ : Pt} {rs : List RunD} (h : 60 < rs.length) : mvE by_ rs = 4 ∧ mvL by_ rs = [] := by
  have e : mvE by_ rs = 4 := if_pos h
  exact ⟨e, by unfold mvL; rw [e]; rfl⟩
theorem mv_far {by_ : Pt} {rs : List RunD} (h : ¬ 60 < rs.length) (hb : ptIn 2097152 by_ = false) : mvE by_ rs = 2 ∧ mvL by_ rs = [] := by
  have e : mvE by_ rs = 2 := (if_neg h).trans (if_pos hb)
  exact ⟨e, by unfold mvL; rw [e]; rfl⟩
theorem mv_no {by_ : Pt} {rs : List RunD} (h : ¬ 60 < rs.length) (hb : ptIn 2097152 by_ = true) {k : Nat} {r : RunD} (hk : rs[k]? = some r) (hr : mvOk by_ r = false) : mvE by_ rs = 2 ∧ mvL by_ rs = [] := by
  have e : mvE by_ rs = 2 := (if_neg h).trans ((if_neg (by rw [hb]; simp)).trans (if_neg (by rw [allN_no hk hr]; simp)))
  exact ⟨e, by unfold mvL; rw [e]; rfl⟩
theorem mv_yes {by_ : Pt} {rs : List RunD} (h : ¬ 60 < rs.length) (hb : ptIn 2097152 by_ = true) (hr : ∀ (j : Nat) r, j < rs.length → rs[j]? = some r → mvOk by_ r = true) : mvE by_ rs = 0 ∧ mvL by_ rs = rs.map (mvR by_) := by
  have ha : rs.all (mvOk by_) = true := by
    rw [List.all_eq_true]
    intro r hm
    obtain ⟨j, hj, rfl⟩ := List.getElem_of_mem hm
    exact hr j _ hj (List.getElem?_eq_getElem hj)
  have e : mvE by_ rs = 0 := (if_neg h).trans ((if_neg (by rw [hb]; simp)).trans (if_pos ha))
  exact ⟨e, by unfold mvL; rw [e]; rfl⟩
/-- The first k runs are moved. -/
def mvN (by_ : Pt) (rs : List RunD) (k : Nat) : List RunD := (rs.take k).map (mvR by_) ++ rs.drop k
theorem mvN_len (by_ : Pt) (rs : List RunD) (k : Nat) (h : k ≤ rs.length) : (mvN by_ rs k).length = rs.length := by unfold mvN; simp; omega
theorem mvN_at (by_ : Pt) {rs : List RunD} {k : Nat} {r : RunD} (h : rs[k]? = some r) : (mvN by_ rs k)[k]? = some r := by
  have hk := (List.getElem?_eq_some_iff.1 h).1
  unfold mvN
  rw [List.getElem?_append_right (by simp; omega), List.length_map, List.length_take, Nat.min_eq_left (by omega), Nat.sub_self, List.getElem?_drop, Nat.add_zero, h]
theorem mvN_next (by_ : Pt) {rs : List RunD} {k : Nat} {r : RunD} (h : rs[k]? = some r) : (mvN by_ rs k).set k (mvR by_ r) = mvN by_ rs (k + 1) := by
  have hk := (List.getElem?_eq_some_iff.1 h).1
  unfold mvN
  rw [List.drop_eq_getElem_cons hk, (List.getElem?_eq_some_iff.1 h).2, snoc_map (mvR by_) h, List.append_assoc]
  rw [List.set_append_right _ _ (by simp; omega), List.length_map, List.length_take, Nat.min_eq_left (by omega), Nat.sub_self]
  rfl
theorem flat_setR (ps : List RunD) : ∀ (j : Nat) (r : RunD) (q : Pt), ps[j]? = some r → (((ps.flatMap runCells).set (j * 10 + 3) (.int .i64 q.x)).set (j * 10 + 4) (.int .i64 q.y)).set (j * 10 + 5) (.int .i64 q.z) = (ps.set j { r with at_ := q }).flatMap runCells := by
  induction ps with
  | nil => intro j r q h; cases h
  | cons a ps ih =>
    intro j r q h
    have e : (a :: ps).flatMap runCells = .string a.mark :: .int .i64 a.tx :: .int .i64 a.ty :: .int .i64 a.at_.x :: .int .i64 a.at_.y :: .int .i64 a.at_.z :: .int .i64 a.step.x :: .int .i64 a.step.y :: .int .i64 a.step.z :: .int .i64 a.count :: ps.flatMap runCells := rfl
    cases j with
    | zero => cases h; rw [e]; rfl
    | succ j =>
      rw [e]
      have h2 := ih j r q (by simpa using h)
      rw [show (j + 1) * 10 + 3 = j * 10 + 3 + 1 + 1 + 1 + 1 + 1 + 1 + 1 + 1 + 1 + 1 by omega, show (j + 1) * 10 + 4 = j * 10 + 4 + 1 + 1 + 1 + 1 + 1 + 1 + 1 + 1 + 1 + 1 by omega, show (j + 1) * 10 + 5 = j * 10 + 5 + 1 + 1 + 1 + 1 + 1 + 1 + 1 + 1 + 1 + 1 by omega]
      simp only [List.set_cons_succ]
      rw [h2]; rfl
theorem own_setR {w : World} {base g n cap : Nat} {ps : List RunD} (h : OwnRuns w base (.slice (some ⟨g, 0, none⟩) n cap) ps) (j : Nat) {r : RunD} (q : Pt) (hj : ps[j]? = some r) :
    OwnRuns (((w.setCell ⟨g, j * 10 + 3, none⟩ (.int .i64 q.x)).setCell ⟨g, j * 10 + 4, none⟩ (.int .i64 q.y)).setCell ⟨g, j * 10 + 5, none⟩ (.int .i64 q.z)) base (.slice (some ⟨g, 0, none⟩) n cap) (ps.set j { r with at_ := q }) := by
  have hn : n = ps.length := by
    rcases h.2 with ⟨h', _⟩ | ⟨g', cap', cur, h', _⟩
    · cases h'
    · cases h'; rfl
  subst hn
  have h1 := (World.ownsRow.stored h (j * 10 + 3) (.int .i64 q.x)).1
  have h2 := (World.ownsRow.stored h1 (j * 10 + 4) (.int .i64 q.y)).1
  have h3 := (World.ownsRow.stored h2 (j * 10 + 5) (.int .i64 q.z)).1
  rw [flat_setR ps j r q hj] at h3
  unfold OwnRuns OwnN
  rw [List.length_set]
  exact h3

/-! ### the reference -/
structure RMvW (w : World) (by_ : Pt) (base : Nat) (o : Value) (D : List RunD) (wr : World) : Prop where
  below : Below w.heap.size w wr
  pt : BlkIs wr w.heap.size 43 #[.int .i64 by_.x, .int .i64 by_.y, .int .i64 by_.z]
  own : OwnRuns wr base o D
  far : w.heap.size < base
section
variable {w wr w' : World} {by_ : Pt} {base : Nat} {o o' : Value} {D D' : List RunD}
theorem RMvW.after (h : RMvW w by_ base o D wr) (hb : Below wr.heap.size wr w') : RMvW w by_ base o D w' := ⟨bstep h.below hb, h.pt.below hb, OwnN.below h.own hb, h.far⟩
theorem RMvW.push (h : RMvW w by_ base o D wr) (ho : OwnRuns w' base o' D') (hg : wr.grownBy w' o.ownBlock) : RMvW w by_ base o' D' w' := by
  have hf := h.far
  have hn : ∀ g, o.ownBlock = some g → base ≤ g := fun g hg => (OwnN.lt h.own g hg).1
  exact ⟨h.below.grown hg h.below.size (fun j hj => by have := hn j hj; omega), (hg.block _ h.pt.lt (fun e => by have := hn _ e.symm; omega)).trans h.pt, ho, hf⟩
theorem RMvW.store {R i : Nat} {u : Value} (h : RMvW w by_ base o D wr) (h1 : w.heap.size < R) (h2 : ∀ g, o.ownBlock = some g → g ≠ R) : RMvW w by_ base o D (wr.setCell ⟨R, i, none⟩ u) :=
  ⟨h.below.setCell (by simp; omega) _, h.pt.far (by simp; omega) _, OwnN.kept h.own (fun g hg => heap_setCell_other _ _ _ _ (fun e => h2 g hg (by first | exact e | exact e.symm))), h.far⟩
end

end

section
open Go.RowKit
set_option linter.unusedVariables false
set_option linter.unusedSimpArgs false
attribute [local go_sem ↓] Go.wp_at_zero Go.wp_at_succ

theorem OwnN.free {α : Type} {n : Nat} {enc : α → List Value} {w : World} {base : Nat} {e : TypeId} {g m cap : Nat} {l : List α} (h : OwnN w base e n enc (.slice (some ⟨g, 0, none⟩) m cap) l) (k : Nat) : w.frozen? ⟨g, k, none⟩ = false := by
  rcases h.2 with ⟨h', _⟩ | ⟨g', cap', cur, h', _, hg, _⟩
  · cases h'
  · cases h'
    simp [World.frozen?, hg]
theorem RMvW.put {w wr : World} {by_ : Pt} {base g n cap k : Nat} {D : List RunD} {r : RunD} (h : RMvW w by_ base (.slice (some ⟨g, 0, none⟩) n cap) D wr) (hk : D[k]? = some r) (q : Pt) :
    RMvW w by_ base (.slice (some ⟨g, 0, none⟩) n cap) (D.set k { r with at_ := q }) (((wr.setCell ⟨g, k * 10 + 3, none⟩ (.int .i64 q.x)).setCell ⟨g, k * 10 + 4, none⟩ (.int .i64 q.y)).setCell ⟨g, k * 10 + 5, none⟩ (.int .i64 q.z)) := by
  have hg := (OwnN.lt h.own g rfl).1
  have hf := h.far
  exact ⟨((h.below.setCell (by simp; omega) _).setCell (by simp; omega) _).setCell (by simp; omega) _, ((h.pt.far (by simp; omega) _).far (by simp; omega) _).far (by simp; omega) _, own_setR h.own k q hk, hf⟩

end

section
open Go.RowKit
set_option linter.unusedVariables false
set_option linter.unusedSimpArgs false

def exBars : List BarD := [⟨⟨#[97]⟩, 12, 2, 0, [100]⟩]
def exRuns : List RunD := [⟨⟨#[97]⟩, 2, -1, ⟨5, 5, 5⟩, ⟨0, 0, 10⟩, 2⟩]
theorem ex_ok : laidOk exBars exRuns = true := by kernel_rfl
theorem ex_pts0 : (laidPts exBars exRuns)[0]? = some [⟨5, 5, 5⟩, ⟨5, 105, 5⟩] := by kernel_rfl
theorem ex_pts1 : (laidPts exBars exRuns)[1]? = some [⟨5, 5, 15⟩, ⟨5, 105, 15⟩] := by kernel_rfl
theorem ex_bal : balOf exBars exRuns = [] := by kernel_rfl
theorem ex_legs0 : legsN [⟨5, 5, 5⟩, ⟨5, 105, 5⟩] 1 = [⟨⟨5, 5, 5⟩, ⟨5, 105, 5⟩⟩] := by kernel_rfl
theorem ex_legs1 : legsN [⟨5, 5, 15⟩, ⟨5, 105, 15⟩] 1 = [⟨⟨5, 5, 15⟩, ⟨5, 105, 15⟩⟩] := by kernel_rfl
theorem ex_cum : cumN exRuns = 2 := by kernel_rfl
theorem ex_fit : FitB exBars := by
  intro b hb
  simp only [exBars, List.mem_singleton] at hb
  subst hb
  exact ⟨by unfold maxLen; decide, by decide⟩

def ExPost (w : World) (e : Ending) (w' : World) : Prop := ∃ v vr, e = .returned (.tuple #[v, vr]) ∧ Bars w' v exBars ∧ Runs w' vr exRuns ∧ Below w.heap.size w w'
theorem ex_bars {W : World} {g h : Nat} {n c : Nat} (hn : n = 1) (hd : BlkIs W h 3 #[.int .i64 100]) (hb : BlkIs W g 87 #[.string ⟨#[97]⟩, .int .i64 12, .int .i64 2, .int .i64 0, .slice (some ⟨h, 0, none⟩) 1 1]) : Bars W (.slice (some ⟨g, 0, none⟩) n c) exBars := by
  subst hn
  refine ⟨_, c, rfl, fun _ => ⟨g, 0, rfl, hb.lt, fun k x hk => ?_⟩⟩
  match k, hk with
  | 0, hk =>
    cases hk
    refine ⟨hb.cell 0, hb.cell 1, hb.cell 2, hb.cell 3, some ⟨h, 0, none⟩, 1, hb.cell 4, some ⟨h, 0, none⟩, 1, rfl, fun _ => ⟨h, 0, rfl, hd.lt, fun j y hj => ?_⟩⟩
    match j, hj with
    | 0, hj =>
      cases hj
      exact hd.cell 0
theorem ex_runs {W : World} {g : Nat} {n c : Nat} (hn : n = 1) (hb : BlkIs W g 75 #[.string ⟨#[97]⟩, .int .i64 2, .int .i64 (-1), .int .i64 5, .int .i64 5, .int .i64 5, .int .i64 0, .int .i64 0, .int .i64 10, .int .i64 2]) : Runs W (.slice (some ⟨g, 0, none⟩) n c) exRuns := by
  subst hn
  refine ⟨_, c, rfl, fun _ => ⟨g, 0, rfl, hb.lt, fun k x hk j u hj => ?_⟩⟩
  match k, hk with
  | 0, hk =>
    cases hk
    rw [Nat.zero_mul, Nat.zero_add, hb.cell j]
    simpa [runCells] using hj
theorem ex_leg {w w' : World} {i : Int} {e : Ending} (hi : i = 0 ∨ i = 1) (h : LegsPost w exBars exRuns i e w') :
    ∃ v, e = .returned (.tuple #[v, .int .i64 0]) ∧ OwnBxs w' w.heap.size v [⟨⟨5, 5, 5 + 10 * i⟩, ⟨5, 105, 5 + 10 * i⟩⟩] ∧ Below w.heap.size w w' := by
  rcases h with ⟨q, v, h0, hq, he, ho, hb⟩ | ⟨h0, _⟩
  · refine ⟨v, he, ?_, hb⟩
    rcases hi with rfl | rfl
    · obtain rfl : [⟨5, 5, 5⟩, ⟨5, 105, 5⟩] = q := Option.some.inj (ex_pts0.symm.trans hq)
      exact ho
    · obtain rfl : [⟨5, 5, 15⟩, ⟨5, 105, 15⟩] = q := Option.some.inj (ex_pts1.symm.trans hq)
      exact ho
  · rw [ex_cum] at h0
    omega

end

section
open Go.RowKit
set_option linter.unusedVariables false
set_option linter.unusedSimpArgs false
attribute [local go_sem ↓] Go.wp_at_zero Go.wp_at_succ

theorem laid_range {l : List BarD} {rs : List RunD} (h : laidOk l rs = true) {i : Int} {q : List Pt} (hq : (laidPts l rs)[i.toNat]? = some q) : i < (cumN rs : Int) := by
  have := (List.getElem?_eq_some_iff.1 hq).1
  rw [laidPts_len] at this
  omega
theorem laid_sum {l : List BarD} {rs : List RunD} (h : laidOk l rs = true) : (cumN rs : Int) = sumC rs ∧ rs.length ≤ 60 ∧ (∀ r ∈ rs, 1 ≤ r.count ∧ r.count ≤ 1000) ∧ SmallC rs ∧ sumC rs ≤ 2000 := by
  obtain ⟨q1, q2, q3, q4⟩ := laidOk_parts h
  have hs : ∀ r ∈ rs, 1 ≤ r.count ∧ r.count ≤ 1000 := fun r hm => right_count (q3 r hm)
  exact ⟨cumN_sum fun r hm => (hs r hm).1, q2, hs, smallC_of q2 hs, q4⟩

abbrev bx0 : Bx := ⟨⟨0, 0, 0⟩, ⟨0, 0, 0⟩⟩
theorem eq_box0 (W : World) : (Op.equalIn 10000 96 (.agg #[.int .i64 0, .int .i64 0, .int .i64 0, .int .i64 0, .int .i64 0, .int .i64 0]) (.agg #[.int .i64 0, .int .i64 0, .int .i64 0, .int .i64 0, .int .i64 0, .int .i64 0])).run Tryz.prog W = .ok true W := by
  rw [← dec_yes (rfl : bx0 = bx0)]
  exact run_eq_bx bx0 bx0 W

structure BoxW (w : World) (g : Nat) (U : Bx) (W : World) : Prop where
  below : Below w.heap.size w W
  blk : BlkIs W g 96 (bxCellsA U)
abbrev BoxS (g : Nat) (U : Bx) (W : World) : Prop :=
  W.cell? ⟨g, 0, none⟩ = some (.int .i64 U.lo.x) ∧ W.cell? ⟨g, 1, none⟩ = some (.int .i64 U.lo.y) ∧ W.cell? ⟨g, 2, none⟩ = some (.int .i64 U.lo.z) ∧ W.cell? ⟨g, 3, none⟩ = some (.int .i64 U.hi.x) ∧ W.cell? ⟨g, 4, none⟩ = some (.int .i64 U.hi.y) ∧ W.cell? ⟨g, 5, none⟩ = some (.int .i64 U.hi.z)
section
variable {w W W' : World} {g : Nat} {U : Bx}
theorem BoxW.after (h : BoxW w g U W) (hb : Below W.heap.size W W') : BoxW w g U W' := ⟨bstep h.below hb, h.blk.below hb⟩
theorem BoxW.drew (h : BoxW w g U W) : BoxW w g U W.drew := ⟨h.below.drew, h.blk⟩
theorem BoxW.s (h : BoxW w g U W) : BoxS g U W := ⟨h.blk.cell 0, h.blk.cell 1, h.blk.cell 2, h.blk.cell 3, h.blk.cell 4, h.blk.cell 5⟩
end
theorem OwnBxs.keep {W W' : World} {B : Nat} {o : Value} {G : List Bx} (h : OwnBxs W B o G) (hb : Below W.heap.size W W') : OwnBxs W' B o G := OwnN.below h hb
end

section
open Go.RowKit
set_option linter.unusedVariables false
set_option linter.unusedSimpArgs false
attribute [local go_sem ↓] Go.wp_at_zero Go.wp_at_succ

theorem barOk_count {b : BarD} (h : barOk b = true) : 1 ≤ b.count ∧ b.count ≤ 1000 := by
  unfold barOk headB at h
  simp only [Bool.and_eq_true, decide_eq_true_eq] at h
  exact ⟨h.1.1.1.1.2, h.1.1.1.2⟩
theorem laid_bars {l : List BarD} {rs : List RunD} (h : laidOk l rs = true) : (∀ b ∈ l, 0 ≤ b.count ∧ b.count ≤ 1000) ∧ l.length ≤ 60 ∧ schedOk l = true := by
  obtain ⟨q1, q2, q3, q4⟩ := laidOk_parts h
  refine ⟨fun b hb => ?_, sched_len q1, q1⟩
  obtain ⟨i, hi, rfl⟩ := List.getElem_of_mem hb
  have := barOk_count (sched_line q1 (List.getElem?_eq_getElem hi)).1
  omega
theorem cum_place {rs : List RunD} : ∀ {n : Nat}, n < cumN rs → ∃ (k j : Nat) (r : RunD), rs[k]? = some r ∧ j < r.count.toNat ∧ n = cumN (rs.take k) + j := by
  intro n
  have key : ∀ m, m ≤ rs.length → n < cumN (rs.take m) → ∃ (k j : Nat) (r : RunD), rs[k]? = some r ∧ j < r.count.toNat ∧ n = cumN (rs.take k) + j := by
    intro m
    induction m with
    | zero => intro _ h; rw [List.take_zero] at h; simp [cumN] at h
    | succ m ih =>
      intro hm h
      obtain ⟨r, hr⟩ : ∃ y, rs[m]? = some y := ⟨_, List.getElem?_eq_getElem hm⟩
      rcases Nat.lt_or_ge n (cumN (rs.take m)) with h1 | h1
      · exact ih (by omega) h1
      · rw [cumN_snoc hr] at h
        exact ⟨m, n - cumN (rs.take m), r, hr, by omega, by omega⟩
  intro h
  refine key rs.length (Nat.le_refl _) ?_
  rw [List.take_length]; exact h

def BarPost (w : World) (rs : List RunD) (n : Nat) (e : Ending) (w' : World) : Prop := ∃ (b : BarD) (dv : Value), e = .returned (barv b dv) ∧ (laidMarks rs)[n]? = some b.mark ∧ Below w.heap.size w w'
theorem rbarm_any (v vr : Value) (l : List BarD) (rs : List RunD) (n : Nat) (w : World) (hp : Bars w v l) (hr : Runs w vr rs) (hl : l.length ≤ 140737488355328) (h : laidOk l rs = true) (hn : n < cumN rs) :
    Calls Tryz.prog 69 #[v, vr, .int .i64 (n : Int)] w (BarPost w rs n) := by
  obtain ⟨k, j, r, hk, hj, hij⟩ := cum_place hn
  obtain ⟨b, line, ok, turn, hat, c1, c2, hst, hpts⟩ := laid_place h hk hj
  obtain ⟨t, ht, hb, hbm⟩ := lineOf_some line
  obtain ⟨s1, s2, s3, s4, s5⟩ := laid_sum h
  obtain ⟨ao, cap, rfl⟩ := hp.at_
  obtain ⟨bb, off, rfl, hbl, x0, x1, x2, x3, uo, uc, x4, hdx⟩ := bars_get hp hb
  refine (rbar_any bb off cap vr l rs n k j r b uo uc t w hp hr hl s2 s3 hn (by omega) hk hj hij ht hb x4).mono fun e w' ⟨h1, h2⟩ => ⟨b, _, h1, ?_, h2⟩
  rw [hij, hbm]
  exact laidMarks_at hk hj

theorem field_mark (b : BarD) (dv : Value) (W : World) : (Instr.field 87 (barv b dv) 0).run Tryz.prog W = .ok (.string b.mark) W := by kernel_rfl
end

section
open Go.RowKit
set_option linter.unusedVariables false
set_option linter.unusedSimpArgs false
attribute [local go_sem ↓] Go.wp_at_zero Go.wp_at_succ

def SomeI (w : World) (e : Ending) (w' : World) : Prop := ∃ i : Int, e = .returned (.int .i64 i) ∧ Below w.heap.size w w'
theorem eq_run (r : RunD) (W : World) : (Op.equalIn 10000 75 (.agg #[.string r.mark, .int .i64 r.tx, .int .i64 r.ty, .int .i64 r.at_.x, .int .i64 r.at_.y, .int .i64 r.at_.z, .int .i64 r.step.x, .int .i64 r.step.y, .int .i64 r.step.z, .int .i64 r.count]) (.agg #[.string r.mark, .int .i64 r.tx, .int .i64 r.ty, .int .i64 r.at_.x, .int .i64 r.at_.y, .int .i64 r.at_.z, .int .i64 r.step.x, .int .i64 r.step.y, .int .i64 r.step.z, .int .i64 r.count])).run Tryz.prog W = .ok true W := by
  go_simp

end

section
open Go.RowKit
set_option linter.unusedVariables false
set_option linter.unusedSimpArgs false
attribute [local go_sem ↓] Go.wp_at_zero Go.wp_at_succ

def shB (s : Pt) (b : Bx) : Bx := ⟨padd b.lo s, padd b.hi s⟩
theorem mn_add (a b c : Int) : mn (a + c) (b + c) = mn a b + c := by unfold mn; split <;> split <;> omega
theorem mx_add (a b c : Int) : mx (a + c) (b + c) = mx a b + c := by unfold mx; split <;> split <;> omega
theorem legB_shift (a b s : Pt) : legB (padd a s) (padd b s) = shB s (legB a b) := by
  have e : ∀ a b : Pt, legB a b = hull2 (hull2 (pb a) (pb a)) (pb b) := fun _ _ => rfl
  rw [e, e, hull2_self, hull2_self]
  unfold hull2 pb shB padd
  simp only [mn_add, mx_add]
theorem legsN_shift (q : List Pt) (s : Pt) : ∀ n, n < q.length → legsN (q.map fun p => padd p s) n = (legsN q n).map (shB s) := by
  intro n
  induction n with
  | zero => intro _; rfl
  | succ n ih =>
    intro h
    rw [legsN_succ, legsN_succ, List.map_append, ih (by omega)]
    have g : ∀ t, t < q.length → (q.map fun p => padd p s).getD t ⟨0, 0, 0⟩ = padd (q.getD t ⟨0, 0, 0⟩) s := by
      intro t ht
      rw [List.getD_eq_getElem?_getD, List.getD_eq_getElem?_getD, List.getElem?_map, List.getElem?_eq_getElem ht]
      rfl
    rw [g n (by omega), g (n + 1) h, legB_shift]
    rfl
theorem padd_swap (a b c : Pt) : padd (padd a b) c = padd (padd a c) b := by unfold padd; simp only [Pt.mk.injEq]; omega
theorem atK_succ (r : RunD) (j : Nat) : atK r ((j : Int) + 1) = padd (atK r j) r.step := by
  unfold atK
  rw [if_pos (by omega)]
  by_cases h : 0 < (j : Int)
  · rw [if_pos h]
    unfold padd pmul
    simp only [Pt.mk.injEq, Int.add_mul, Int.one_mul]
    omega
  · rw [if_neg h]
    have : (j : Int) = 0 := by omega
    rw [this]
    unfold padd pmul
    simp
theorem rpts_step (b : BarD) (r : RunD) (j : Nat) : rptsOf b r ((j : Int) + 1) = (rptsOf b r j).map fun p => padd p r.step := by
  unfold rptsOf
  rw [List.map_map]
  refine List.map_congr_left fun p _ => ?_
  simp only [Function.comp]
  rw [atK_succ]
  exact padd_swap _ _ _
theorem rpts_mv (b : BarD) (r : RunD) (by_ : Pt) (j : Nat) : rptsOf b (mvR by_ r) j = (rptsOf b r j).map fun p => padd p by_ := by
  unfold rptsOf
  rw [List.map_map]
  refine List.map_congr_left fun p _ => ?_
  simp only [Function.comp]
  have e : atK (mvR by_ r) j = padd (atK r j) by_ := by
    unfold atK mvR
    simp only
    split
    · exact padd_swap _ _ _
    · rfl
  rw [e]
  exact padd_swap _ _ _
theorem cum_mv (by_ : Pt) (rs : List RunD) : cumN (rs.map (mvR by_)) = cumN rs := by
  unfold cumN
  rw [List.map_map]
  rfl
theorem laid_mv {l : List BarD} {rs : List RunD} {by_ : Pt} (h : laidOk l rs = true) (h2 : laidOk l (rs.map (mvR by_)) = true) {n : Nat} {q : List Pt} (hq : (laidPts l rs)[n]? = some q) :
    (laidPts l (rs.map (mvR by_)))[n]? = some (q.map fun p => padd p by_) := by
  have hn : n < cumN rs := by
    have := (List.getElem?_eq_some_iff.1 hq).1
    rw [laidPts_len] at this
    exact this
  obtain ⟨k, j, r, hk, hj, rfl⟩ := cum_place hn
  obtain ⟨b, line, _, _, _, _, _, _, hp⟩ := laid_place h hk hj
  have hk2 : (rs.map (mvR by_))[k]? = some (mvR by_ r) := by rw [List.getElem?_map, hk]; rfl
  obtain ⟨b2, line2, _, _, _, _, _, _, hp2⟩ := laid_place h2 hk2 hj
  have eb : b2 = b := Option.some.inj (line2.symm.trans line)
  subst eb
  rw [← List.map_take, cum_mv] at hp2
  rw [hp2, rpts_mv]
  rw [hp] at hq
  rw [Option.some.inj hq]

structure StW (w : World) (by_ : Pt) (base : Nat) (o : Value) (G : List Bx) (wr : World) : Prop where
  below : Below w.heap.size w wr
  pt : BlkIs wr w.heap.size 43 #[.int .i64 by_.x, .int .i64 by_.y, .int .i64 by_.z]
  own : OwnBxs wr base o G
theorem StW.after {w wr w' : World} {by_ : Pt} {base : Nat} {o : Value} {G : List Bx} (h : StW w by_ base o G wr) (hb : Below wr.heap.size wr w') : StW w by_ base o G w' := ⟨bstep h.below hb, h.pt.below hb, h.own.keep hb⟩

theorem legB_near {a b : Pt} (ha : PtIn 1048576 a) (hb : PtIn 1048576 b) : PtIn 1048576 (legB a b).lo ∧ PtIn 1048576 (legB a b).hi := by
  have e : legB a b = hull2 (pb a) (pb b) := by
    have e : legB a b = hull2 (hull2 (pb a) (pb a)) (pb b) := rfl
    rw [e, hull2_self]
  have k : ∀ x y : Int, (-1048576 ≤ x ∧ x ≤ 1048576) → (-1048576 ≤ y ∧ y ≤ 1048576) → (-1048576 ≤ mn x y ∧ mn x y ≤ 1048576) ∧ (-1048576 ≤ mx x y ∧ mx x y ≤ 1048576) := by
    intro x y hx hy
    unfold mn mx
    constructor <;> split <;> omega
  rw [e]
  obtain ⟨a1, a2, a3, a4, a5, a6⟩ := ha
  obtain ⟨b1, b2, b3, b4, b5, b6⟩ := hb
  have kx := k a.x b.x ⟨a1, a2⟩ ⟨b1, b2⟩
  have ky := k a.y b.y ⟨a3, a4⟩ ⟨b3, b4⟩
  have kz := k a.z b.z ⟨a5, a6⟩ ⟨b5, b6⟩
  unfold hull2 pb PtIn
  simp only
  exact ⟨⟨kx.1.1, kx.1.2, ky.1.1, ky.1.2, kz.1.1, kz.1.2⟩, ⟨kx.2.1, kx.2.2, ky.2.1, ky.2.2, kz.2.1, kz.2.2⟩⟩
theorem legs_near {q : List Pt} (h : q.all (ptIn 1048576) = true) {n : Nat} (hn : n < q.length) {t : Nat} {b : Bx} (hb : (legsN q n)[t]? = some b) : PtIn 1048576 b.lo ∧ PtIn 1048576 b.hi := by
  have ht := (List.getElem?_eq_some_iff.1 hb).1
  rw [legsN_len] at ht
  unfold legsN at hb
  rw [List.getElem?_map, List.getElem?_range ht] at hb
  cases hb
  have g : ∀ t, t < q.length → PtIn 1048576 (q.getD t ⟨0, 0, 0⟩) := fun t ht => by
    rw [List.getD_eq_getElem?_getD, List.getElem?_eq_getElem ht]
    exact ptIn_iff.1 (List.all_eq_true.1 h _ (List.getElem_mem ht))
  exact legB_near (g t (by omega)) (g (t + 1) (by omega))

theorem laid_next {l : List BarD} {rs : List RunD} (h : laidOk l rs = true) {k j : Nat} {r : RunD} (hk : rs[k]? = some r) (hj : j + 1 < r.count.toNat) {q : List Pt} (hq : (laidPts l rs)[cumN (rs.take k) + j]? = some q) :
    (laidPts l rs)[cumN (rs.take k) + j + 1]? = some (q.map fun p => padd p r.step) ∧ PtIn 2097152 r.step ∧ cumN (rs.take k) + j + 1 < cumN rs := by
  obtain ⟨b, line, _, _, _, _, _, hst, hp⟩ := laid_place h hk (show j < r.count.toNat by omega)
  obtain ⟨b2, line2, _, _, _, _, _, _, hp2⟩ := laid_place h hk hj
  have eb : b2 = b := Option.some.inj (line2.symm.trans line)
  subst eb
  rw [hp] at hq
  have e := Option.some.inj hq
  have hp3 : (laidPts l rs)[cumN (rs.take k) + j + 1]? = some (q.map fun p => padd p r.step) := by
    rw [← e, ← rpts_step]
    exact hp2
  refine ⟨hp3, hst (by omega), ?_⟩
  have := (List.getElem?_eq_some_iff.1 hp3).1
  rw [laidPts_len] at this
  exact this

structure St2 (w : World) (by_ : Pt) (base : Nat) (o : Value) (G : List Bx) (R : Nat) (r : RunD) (base2 : Nat) (o2 : Value) (G2 : List Bx) (wr : World) : Prop where
  st : StW w by_ base o G wr
  run : BlkIs wr R 75 (runCellsA r)
  own2 : OwnBxs wr base2 o2 G2
theorem St2.after {w wr w' : World} {by_ : Pt} {base : Nat} {o : Value} {G : List Bx} {R : Nat} {r : RunD} {base2 : Nat} {o2 : Value} {G2 : List Bx} (h : St2 w by_ base o G R r base2 o2 G2 wr) (hb : Below wr.heap.size wr w') : St2 w by_ base o G R r base2 o2 G2 w' := ⟨h.st.after hb, h.run.below hb, h.own2.keep hb⟩
theorem eq_bx (b : Bx) (W : World) : (Op.equalIn 10000 96 (.agg #[.int .i64 b.lo.x, .int .i64 b.lo.y, .int .i64 b.lo.z, .int .i64 b.hi.x, .int .i64 b.hi.y, .int .i64 b.hi.z]) (.agg #[.int .i64 b.lo.x, .int .i64 b.lo.y, .int .i64 b.lo.z, .int .i64 b.hi.x, .int .i64 b.hi.y, .int .i64 b.hi.z])).run Tryz.prog W = .ok true W := by
  rw [← dec_yes (rfl : b = b)]
  exact run_eq_bx b b W

end

section
section
open Go.RowKit
set_option linter.unusedVariables false
set_option linter.unusedSimpArgs false
attribute [local go_sem ↓] Go.wp_at_zero Go.wp_at_succ

def gp (a b : Bx) (k : Nat) : Int := mx (ax b.lo k - ax a.hi k) (ax a.lo k - ax b.hi k)
def gq (a b : Bx) (k : Nat) : Int := mx 0 (gp a b k)
def sqN (a b : Bx) : Nat → Int
  | 0 => 0
  | k + 1 => sqN a b k + gq a b k * gq a b k
theorem ax_bd {b : Bx} (h : bxOk b = true) {k : Nat} (hk : k < 3) : -1048576 ≤ ax b.lo k ∧ ax b.lo k ≤ 1048576 ∧ -1048576 ≤ ax b.hi k ∧ ax b.hi k ≤ 1048576 := by
  have := bxOk_iff h k hk
  unfold axB3 at this
  omega
theorem gq_bd {a b : Bx} (ha : bxOk a = true) (hb : bxOk b = true) {k : Nat} (hk : k < 3) : 0 ≤ gq a b k ∧ gq a b k ≤ 2097152 := by
  have h1 := ax_bd ha hk
  have h2 := ax_bd hb hk
  unfold gq gp mx
  (repeat' split) <;> omega
theorem sq_bd {n : Int} (h0 : 0 ≤ n) (h1 : n ≤ 2097152) : 0 ≤ n * n ∧ n * n ≤ 4398046511104 := by
  have e1 : n * n ≤ n * 2097152 := Int.mul_le_mul_of_nonneg_left h1 h0
  have e2 : n * 0 ≤ n * n := Int.mul_le_mul_of_nonneg_left h0 h0
  omega
theorem sqN_bd {a b : Bx} (ha : bxOk a = true) (hb : bxOk b = true) : ∀ k : Nat, k ≤ 3 → 0 ≤ sqN a b k ∧ sqN a b k ≤ k * 4398046511104 := by
  intro k
  induction k with
  | zero => intro _; exact ⟨Int.le_refl _, Int.le_refl _⟩
  | succ k ih =>
    intro hk
    have h1 := ih (by omega)
    have h2 := gq_bd ha hb (show k < 3 by omega)
    have h3 := sq_bd h2.1 h2.2
    simp only [sqN]
    omega

set_option maxHeartbeats 1000000 in
theorem along_any (a b : Bx) (k : Nat) (w : World) (hk : k < 3) (ha : bxOk a = true) (hb : bxOk b = true) :
    Calls Tryz.prog 75 #[bxv a, bxv b, .int .i64 (k : Int)] w fun e w' => e = .returned (.int .i64 (gp a b k)) ∧ Below w.heap.size w w' := by
  obtain ⟨a1, a2, a3, a4⟩ := ax_bd ha hk
  obtain ⟨b1, b2, b3, b4⟩ := ax_bd hb hk
  have HA := Lib.hid (fun W => ends_any a k W hk)
  have HB := Lib.hid (fun W => ends_any b k W hk)
  have HG : Hid (gp a b k = if ax b.lo k - ax a.hi k < ax a.lo k - ax b.hi k then ax a.lo k - ax b.hi k else ax b.lo k - ax a.hi k) := rfl
  generalize gp a b k = G at *
  generalize ax a.lo k = al at *
  generalize ax a.hi k = ah at *
  generalize ax b.lo k = bl at *
  generalize ax b.hi k = bh at *
  clear ha hb
  go_enter Tryz.func75, Tryz.ntmps75
  go_wp2_with fail
  refine (HA.out _).mono ?_
  rintro e w1 ⟨rfl, hb1⟩
  have HB1 := Lib.hid (bstep (by go_grown) hb1 : Below w.heap.size w w1)
  have HX1 := Lib.hid (BlkIs.below (BlkIs.new1 w (.cells (bxCellsA a) 96) (bxCellsA b) 96) hb1)
  have c0 := HX1.out.cell 0
  have c1 := HX1.out.cell 1
  have c2 := HX1.out.cell 2
  have c3 := HX1.out.cell 3
  have c4 := HX1.out.cell 4
  have c5 := HX1.out.cell 5
  clear hb1
  go_wp2_with fail
  refine (HB.out _).mono ?_
  rintro e w2 ⟨rfl, hb2⟩
  have HB2 := Lib.hid (bstep HB1.out hb2)
  clear hb2 c0 c1 c2 c3 c4 c5
  go_wp2
  all_goals (go_ret; exact ⟨ret_int (by rw [HG.out]; first | rw [if_pos (by omega)] | rw [if_neg (by omega)]), HB2.out⟩)

structure SqW (w : World) (a b : Bx) (wr : World) : Prop where
  below : Below w.heap.size w wr
  ba : BlkIs wr w.heap.size 96 (bxCellsA a)
  bb : BlkIs wr (w.heap.size + 1) 96 (bxCellsA b)
theorem SqW.after {w wr w' : World} {a b : Bx} (h : SqW w a b wr) (hb : Below wr.heap.size wr w') : SqW w a b w' := ⟨bstep h.below hb, h.ba.below hb, h.bb.below hb⟩

set_option maxRecDepth 100000 in
set_option maxHeartbeats 2000000 in
theorem square_any (a b : Bx) (w : World) (ha : bxOk a = true) (hb : bxOk b = true) :
    Calls Tryz.prog 53 #[bxv a, bxv b] w fun e w' => e = .returned (.tuple #[.int .i64 (sqN a b 3), .int .i64 0]) ∧ Below w.heap.size w w' := by
  have HVA := Lib.hid (fun W => bvalid_any a W)
  have HVB := Lib.hid (fun W => bvalid_any b W)
  rw [ha] at HVA
  rw [hb] at HVB
  have HAL := Lib.hid (fun k (hk : k < 3) W => along_any a b k W hk ha hb)
  have HGB := Lib.hid (fun k (hk : k < 3) => gq_bd ha hb hk)
  have HSB := Lib.hid (sqN_bd ha hb)
  have HGE : Hid (∀ k, gq a b k = if 0 < gp a b k then gp a b k else 0) := fun _ => rfl
  have HSN : Hid (∀ k, sqN a b (k + 1) = sqN a b k + gq a b k * gq a b k) := fun _ => rfl
  clear ha hb
  go_enter Tryz.func53, Tryz.ntmps53
  go_wp2_with fail
  refine (HVA.out _).mono ?_
  rintro e w1 ⟨rfl, hb1⟩
  have HW1 : Hid (SqW w a b w1) := ⟨bstep (by go_grown) hb1, BlkIs.below ((BlkIs.new w _ _).alloc _) hb1, BlkIs.below (BlkIs.new1 w _ _ _) hb1⟩
  clear hb1
  have c0 := HW1.out.bb.cell 0
  have c1 := HW1.out.bb.cell 1
  have c2 := HW1.out.bb.cell 2
  have c3 := HW1.out.bb.cell 3
  have c4 := HW1.out.bb.cell 4
  have c5 := HW1.out.bb.cell 5
  go_wp2_with fail
  refine (HVB.out _).mono ?_
  rintro e w2 ⟨rfl, hb2⟩
  have HW2 := Lib.hid (HW1.out.after hb2)
  clear hb2 c0 c1 c2 c3 c4 c5 HVA HVB HW1
  go_wp2_with fail
  go_loopw [6, 17] (fun t i wr => ∃ k : Nat, k ≤ 3 ∧ i = .int .i64 (k : Int) ∧ t = .int .i64 (sqN a b k) ∧ SqW w a b wr) (fun _ i _ => 3 - (intOf i).toNat)
  case atStart => exact ⟨0, by omega, rfl, rfl, HW2.out⟩
  case round =>
    clear HW2
    obtain ⟨k, hk, rfl, rfl, hW⟩ := hrel
    have HW := Lib.hid hW
    clear hW
    by_cases hk2 : k < 3
    · have a0 := HW.out.ba.cell 0
      have a1 := HW.out.ba.cell 1
      have a2 := HW.out.ba.cell 2
      have a3 := HW.out.ba.cell 3
      have a4 := HW.out.ba.cell 4
      have a5 := HW.out.ba.cell 5
      have c0 := HW.out.bb.cell 0
      have c1 := HW.out.bb.cell 1
      have c2 := HW.out.bb.cell 2
      have c3 := HW.out.bb.cell 3
      have c4 := HW.out.bb.cell 4
      have c5 := HW.out.bb.cell 5
      have HALK := Lib.hid (HAL.out k hk2)
      obtain ⟨g0, g1⟩ := HGB.out k hk2
      obtain ⟨s0, s1⟩ := HSB.out k hk
      have HN := Lib.hid (HSN.out k)
      have HE := Lib.hid (HGE.out k)
      go_wp2_with fail
      refine (HALK.out _).mono ?_
      rintro e w3 ⟨rfl, hb3⟩
      have HW3 := Lib.hid (HW.out.after hb3)
      clear hb3 a0 a1 a2 a3 a4 a5 c0 c1 c2 c3 c4 c5 HALK HAL HGB HSB HSN HGE
      have hgq := HE.out
      generalize gp a b k = g at *
      generalize gq a b k = n at *
      generalize sqN a b k = s at *
      obtain ⟨q0, q1⟩ := sq_bd g0 g1
      by_cases hg : 0 < g
      · have hn : n = g := by rw [hgq, if_pos hg]
        subst hn
        clear hgq HE
        generalize hsq : n * n = m at *
        go_wp2_with fail
        go_roundw
        case rel => exact ⟨k + 1, by omega, by go_num, by rw [HN.out], HW3.out⟩
        case measure => simp [intOf]; omega
      · have hn : n = 0 := by rw [hgq, if_neg hg]
        subst hn
        clear hgq HE
        go_wp2_with fail
        go_roundw
        case rel => exact ⟨k + 1, by omega, by go_num, by rw [HN.out]; exact val_int (by omega), HW3.out⟩
        case measure => simp [intOf]; omega
    · obtain rfl : k = 3 := by omega
      go_wp2
      go_ret2
      exact ⟨rfl, HW.out.below⟩

def lenB (b : Bx) : Int := b.hi.x - b.lo.x + b.hi.y - b.lo.y + b.hi.z - b.lo.z
end

section
open Go.RowKit
set_option linter.unusedVariables false
set_option linter.unusedSimpArgs false
attribute [local go_sem ↓] Go.wp_at_zero Go.wp_at_succ

def ab (n : Int) : Int := if n < 0 then -n else n
theorem ab_ax (a b : Int) : mx a b - mn a b = ab (b - a) := by unfold mx mn ab; (repeat' split) <;> omega
theorem legB_eq (a b : Pt) : legB a b = hull2 (pb a) (pb b) := by
  have e : legB a b = hull2 (hull2 (pb a) (pb a)) (pb b) := rfl
  rw [e, hull2_self]
theorem len_legB (a b : Pt) : lenB (legB a b) = ab (b.x - a.x) + ab (b.y - a.y) + ab (b.z - a.z) := by
  rw [legB_eq, ← ab_ax, ← ab_ax, ← ab_ax]
  unfold lenB hull2 pb
  simp only
  omega
theorem sq_axis (a b c : Int) : mx 0 (mx (mn b c - mx a b) (mn a b - mx b c)) = 0 := by
  unfold mx mn
  (repeat' split) <;> omega
theorem gq_share (a b c : Pt) (k : Nat) : gq (legB a b) (legB b c) k = 0 := by
  rw [legB_eq, legB_eq]
  unfold gq gp hull2 pb ax
  simp only
  (repeat' split) <;> exact sq_axis _ _ _
theorem sq_share (a b c : Pt) : ∀ k, sqN (legB a b) (legB b c) k = 0 := by
  intro k
  induction k with
  | zero => rfl
  | succ k ih => simp only [sqN]; rw [ih, gq_share]; rfl
theorem legB_ok {a b : Pt} (ha : PtIn 1048576 a) (hb : PtIn 1048576 b) : bxOk (legB a b) = true := by
  obtain ⟨⟨l1, l2, l3, l4, l5, l6⟩, h1, h2, h3, h4, h5, h6⟩ := legB_near ha hb
  have k : ∀ x y : Int, mn x y ≤ mx x y := by intro x y; unfold mn mx; (repeat' split) <;> omega
  have kx := k a.x b.x
  have ky := k a.y b.y
  have kz := k a.z b.z
  have e1 : (legB a b).lo.x ≤ (legB a b).hi.x := by rw [legB_eq]; exact kx
  have e2 : (legB a b).lo.y ≤ (legB a b).hi.y := by rw [legB_eq]; exact ky
  have e3 : (legB a b).lo.z ≤ (legB a b).hi.z := by rw [legB_eq]; exact kz
  unfold bxOk
  exact dec_yes ⟨⟨e1, l1, h2⟩, ⟨e2, l3, h4⟩, e3, l5, h6⟩

/-! ### the hull of the legs -/
theorem mn_asc (a b c : Int) : mn (mn a b) c = mn a (mn b c) := by unfold mn; (repeat' split) <;> omega
theorem mx_asc (a b c : Int) : mx (mx a b) c = mx a (mx b c) := by unfold mx; (repeat' split) <;> omega
theorem mn_same (a : Int) : mn a a = a := by unfold mn; split <;> rfl
theorem mx_same (a : Int) : mx a a = a := by unfold mx; split <;> rfl
theorem hull2_asc (a b c : Bx) : hull2 (hull2 a b) c = hull2 a (hull2 b c) := by unfold hull2; simp only [mn_asc, mx_asc]
theorem hull2_same (a : Bx) : hull2 a a = a := by unfold hull2; simp only [mn_same, mx_same]
theorem legsN_at (q : List Pt) (n t : Nat) (h : t < n) : (legsN q n)[t]? = some (legB (q.getD t ⟨0, 0, 0⟩) (q.getD (t + 1) ⟨0, 0, 0⟩)) := by
  unfold legsN
  rw [List.getElem?_map, List.getElem?_range h]
  rfl
theorem getD_at {q : List Pt} {t : Nat} (h : t < q.length) : q[t]? = some (q.getD t ⟨0, 0, 0⟩) := by
  rw [List.getD_eq_getElem?_getD, List.getElem?_eq_getElem h]; rfl
theorem hull_legs {q : List Pt} (n : Nat) (hn : n < q.length) : ∀ k, k < n → hullN (legB (q.getD 0 ⟨0, 0, 0⟩) (q.getD 1 ⟨0, 0, 0⟩)) (legsN q n) (k + 1) = hullN (pb (q.getD 0 ⟨0, 0, 0⟩)) (q.map pb) (k + 2) := by
  have hp : ∀ t, t < q.length → (q.map pb)[t]? = some (pb (q.getD t ⟨0, 0, 0⟩)) := fun t ht => by rw [List.getElem?_map, getD_at ht]; rfl
  have hone : hullN (pb (q.getD 0 ⟨0, 0, 0⟩)) (q.map pb) 1 = pb (q.getD 0 ⟨0, 0, 0⟩) := hullN_one (getD_at (by omega))
  intro k
  induction k with
  | zero =>
    intro hk
    rw [hullN_succ (legsN_at q n 0 hk), hullN_succ (hp 1 (by omega)), hone]
    have e : ∀ (x : Bx) (l : List Bx), hullN x l 0 = x := fun x l => rfl
    rw [e, Nat.zero_add, hull2_same, legB_eq]
  | succ k ih =>
    intro hk
    rw [hullN_succ (legsN_at q n (k + 1) hk), ih (by omega), hullN_succ (hp (k + 2) (by omega)), legB_eq]
    rw [hullN_succ (hp (k + 1) (by omega)), hull2_asc, ← hull2_asc (pb (q.getD (k + 1) ⟨0, 0, 0⟩)), hull2_same, ← hull2_asc]
theorem hull_of_legs {q : List Pt} (h : 2 ≤ q.length) : hullN (legB (q.getD 0 ⟨0, 0, 0⟩) (q.getD 1 ⟨0, 0, 0⟩)) (legsN q (q.length - 1)) (legsN q (q.length - 1)).length = hullP q := by
  obtain ⟨n, hn⟩ : ∃ n, q.length = n + 2 := ⟨q.length - 2, by omega⟩
  have := hull_legs (q := q) (n + 1) (by omega) n (by omega)
  rw [hn, show n + 2 - 1 = n + 1 by omega, legsN_len, this]
  unfold hullP
  rw [List.length_map, hn]

/-! ### how long a leg is -/
def IsU (e : Pt) : Prop := e = ⟨1, 0, 0⟩ ∨ e = ⟨-1, 0, 0⟩ ∨ e = ⟨0, 1, 0⟩ ∨ e = ⟨0, -1, 0⟩ ∨ e = ⟨0, 0, 1⟩ ∨ e = ⟨0, 0, -1⟩
theorem unit_len {e : Pt} (h : IsU e) {d s : Int} (hd : 0 ≤ d) (hs : s = d ∨ s = -d) : ab (e.x * s) + ab (e.y * s) + ab (e.z * s) = d := by
  unfold ab
  rcases h with rfl | rfl | rfl | rfl | rfl | rfl
  all_goals
    simp only [Int.one_mul, Int.zero_mul, Int.neg_mul]
    rcases hs with rfl | rfl <;> (repeat' split) <;> omega
theorem turn_units {x y : Int} (h : turnB x y = true) : IsU (uv x) ∧ IsU (uv y) ∧ IsU (crossP (uv x) (uv y)) := by
  unfold turnB at h
  rw [decide_eq_true_eq] at h
  obtain ⟨⟨⟨x0, x1, x2⟩, y0, y1, y2⟩, h1, h2⟩ := h
  have hx : x = 1 ∨ x = 2 ∨ x = 3 ∨ x = -1 ∨ x = -2 ∨ x = -3 := by omega
  have hy : y = 1 ∨ y = 2 ∨ y = 3 ∨ y = -1 ∨ y = -2 ∨ y = -3 := by omega
  rcases hx with rfl | rfl | rfl | rfl | rfl | rfl <;> rcases hy with rfl | rfl | rfl | rfl | rfl | rfl <;> first | (exfalso; omega) | (unfold IsU; decide)
theorem step_len {x y : Int} (ht : turnB x y = true) {way : Nat} (hw : way = 120 ∨ way = 88 ∨ way = 121 ∨ way = 89 ∨ way = 122) {d : Int} (hd : 0 ≤ d) (a p : Pt) :
    lenB (legB (padd a (img x y p)) (padd a (img x y (stepP p way d)))) = d := by
  obtain ⟨u1, u2, u3⟩ := turn_units ht
  rw [len_legB]
  unfold img
  generalize crossP (uv x) (uv y) = c at *
  generalize uv x = e at *
  generalize uv y = f at *
  obtain ⟨px, py, pz⟩ := p
  obtain ⟨ax, ay, az⟩ := a
  rcases hw with rfl | rfl | rfl | rfl | rfl
  · refine Eq.trans ?_ (unit_len u1 hd (.inl rfl))
    simp only [padd, stepP, Int.mul_add, if_true]
    congr 1
    · congr 1 <;> (congr 1; omega)
    · congr 1; omega
  · refine Eq.trans ?_ (unit_len u1 hd (.inr rfl))
    simp only [padd, stepP, Int.mul_sub, Int.mul_neg, if_true, if_false, Nat.reduceEqDiff]
    congr 1
    · congr 1 <;> (congr 1; omega)
    · congr 1; omega
  · refine Eq.trans ?_ (unit_len u2 hd (.inl rfl))
    simp only [padd, stepP, Int.mul_add, if_true, if_false, Nat.reduceEqDiff]
    congr 1
    · congr 1 <;> (congr 1; omega)
    · congr 1; omega
  · refine Eq.trans ?_ (unit_len u2 hd (.inr rfl))
    simp only [padd, stepP, Int.mul_sub, Int.mul_neg, if_true, if_false, Nat.reduceEqDiff]
    congr 1
    · congr 1 <;> (congr 1; omega)
    · congr 1; omega
  · refine Eq.trans ?_ (unit_len u3 hd (.inl rfl))
    simp only [padd, stepP, Int.mul_add, if_true, if_false, Nat.reduceEqDiff]
    congr 1
    · congr 1 <;> (congr 1; omega)
    · congr 1; omega

def dimsL (d : List Int) (ls : List (Nat × Nat)) : List Int := ls.map fun l => d[l.1]?.getD 0
def dimL (b : BarD) : List Int := dimsL b.dims (legsOf b.code)
theorem dimsL_len (d : List Int) (ls : List (Nat × Nat)) : (dimsL d ls).length = ls.length := List.length_map ..
theorem dimsL_snoc (d : List Int) {ls : List (Nat × Nat)} {k : Nat} {l : Nat × Nat} (h : ls[k]? = some l) : dimsL d (ls.take (k + 1)) = dimsL d (ls.take k) ++ [d[l.1]?.getD 0] := by
  have hk := (List.getElem?_eq_some_iff.1 h).1
  unfold dimsL
  rw [List.take_succ_eq_append_getElem hk, List.map_append, (List.getElem?_eq_some_iff.1 h).2]
  rfl
theorem dims_there {x : BarD} (h : barOk x = true) {k : Nat} {l : Nat × Nat} (hl : (legsOf x.code)[k]? = some l) : ∃ d, x.dims[l.1]? = some d ∧ 1 ≤ d := by
  unfold barOk headB at h
  simp only [Bool.and_eq_true, decide_eq_true_eq] at h
  have h1 := (legs_ok x.code l (List.mem_of_getElem? hl)).1
  have h3 := h.1.1.2
  have hlt : l.1 < x.dims.length := by omega
  exact ⟨_, List.getElem?_eq_getElem hlt, (dimsB_yes h.2).1 _ (List.getElem_mem hlt)⟩
theorem rpts_length (b : BarD) (r : RunD) (j : Int) : (rptsOf b r j).length = (legsOf b.code).length + 1 := by
  unfold rptsOf pathOf pathN
  rw [List.length_map, List.length_map, List.length_range]
theorem rpts_at (b : BarD) (r : RunD) (j : Int) {t : Nat} (h : t ≤ (legsOf b.code).length) : (rptsOf b r j).getD t ⟨0, 0, 0⟩ = padd (atK r j) (img r.tx r.ty (posP b.dims (legsOf b.code) t)) := by
  unfold rptsOf pathOf pathN
  rw [List.getD_eq_getElem?_getD, List.getElem?_map, List.getElem?_map, List.getElem?_range (by omega)]
  rfl
theorem rpts_leg {b : BarD} {r : RunD} (ok : barOk b = true) (turn : turnB r.tx r.ty = true) (j : Int) {t : Nat} {u : Bx} (hu : (legsN (rptsOf b r j) ((rptsOf b r j).length - 1))[t]? = some u) :
    (dimL b)[t]? = some (lenB u) := by
  have ht := (List.getElem?_eq_some_iff.1 hu).1
  rw [legsN_len, rpts_length] at ht
  rw [legsN_at _ _ t (by rw [rpts_length]; omega)] at hu
  cases hu
  rw [rpts_at b r j (by omega), rpts_at b r j (by omega)]
  obtain ⟨l, hl⟩ : ∃ y, (legsOf b.code)[t]? = some y := ⟨_, List.getElem?_eq_getElem (by omega)⟩
  obtain ⟨d, hd, hd1⟩ := dims_there ok hl
  rw [posP_succ hl, hd]
  rw [step_len turn (legs_ok b.code l (List.mem_of_getElem? hl)).2 (show (0 : Int) ≤ (some d).getD 0 by simp only [Option.getD_some]; omega)]
  unfold dimL dimsL
  rw [List.getElem?_map, hl, Option.map_some, hd]
end

section
open Go.RowKit
set_option linter.unusedVariables false
set_option linter.unusedSimpArgs false
attribute [local go_sem ↓] Go.wp_at_zero Go.wp_at_succ

theorem zints_get {w : World} {ao : Option Addr} {n cap k : Nat} {l : List Int} {x : Int} (h : Ints w (.slice ao n cap) l) (hk : l[k]? = some x) :
    ∃ b off, ao = some ⟨b, off, none⟩ ∧ b < w.heap.size ∧ w.cell? ⟨b, off + k, none⟩ = some (.int .i64 x) := by
  obtain ⟨ao', cap', hv, h2⟩ := h
  cases hv
  obtain ⟨b, off, rfl, hlt, hc⟩ := h2 (by have := (List.getElem?_eq_some_iff.1 hk).1; omega)
  exact ⟨b, off, rfl, hlt, hc k x hk⟩
abbrev intv (x : Int) : Value := .int .i64 x
abbrev OwnI (w : World) (B : Nat) (o : Value) (l : List Int) : Prop := Own w B 3 intv o l

theorem wpList_pushO {α : Type} {P : Program} (w0 : World) (N : Nat) (hN : w0.heap.size = N) {ops : Array Oper} {rest : List Oper} {o : Oper} {a : Act} {Q : Exit → Act → World → Prop} (hgd : o.guard = none) (s x : Operand) (t : TypeId)
    (ho : o.op = .call { callee := .builtin .append, args := #[s, x], argTypes := #[t, t] })
    (e bytes : Nat) (he : Elem P t e bytes) (base : Nat) (f : α → Value) (v : Value) (l : List α) (y : α) (h1 : (f y).oneCell' = true)
    (hown : Own w0 base e f v l) (hs : a.eval s = v) (hx : a.eval x = .slice (some ⟨N, 0, none⟩) 1 1)
    (h63 : l.length + 1 ≤ 1099511627776) (hby : bytes ≤ 64) (hbase : base ≤ N)
    (hK : ∀ v' w', Own w' base e f v' (l ++ [y]) → w0.grownBy w' v.ownBlock → (v'.ownBlock = v.ownBlock ∨ ∃ g, w0.heap.size ≤ g ∧ v'.ownBlock = some g) → wpList P ops Q rest (a.put o.dst v') w') :
    wpList P ops Q (o :: rest) a (w0.alloc (.cells #[f y] e)) := by
  subst hN
  exact wpList_push w0 hgd s x t ho e bytes he base f v l y h1 hown hs hx h63 hby hbase hK
end
end
end Go.Proofs.YtpiigmhbbcjamaaGreat
