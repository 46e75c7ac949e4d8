/-
  Moved runs: the program's and the reference's.
-/
import Derived.Test.YtpidjgljeooblaaRmH
namespace Go.Proofs.Ytpidjgljeooblaa
open Go.RowKit
set_option linter.unusedVariables false
set_option linter.unusedSimpArgs false
attribute [local go_sem ↓] Go.wp_at_zero Go.wp_at_succ

theorem elemRun : ElemN Try.prog 23 60 10 88 := elemN_of (z := .agg #[.string ⟨#[]⟩, .int .i64 0, .int .i64 0, .int .i64 0, .int .i64 0, .int .i64 0, .int .i64 0, .int .i64 0, .int .i64 0, .int .i64 0]) Try.underlying23 (by kernel_rfl) rfl (by omega)
def OwnRuns (w : World) (base : Nat) (v : Value) (l : List RunD) : Prop := OwnN w base 60 10 runCells v l

theorem wpList_appendFl {α : Type} {P : Program} (w0 : World) {ops : Array Oper} {rest : List Oper} {o : Oper} {a : Act} {Q : Exit → Act → World → Prop} (hgd : o.guard = none) (s x : Operand) (t : TypeId)
    (ho : o.op = .call { callee := .builtin .append, args := #[s, x], argTypes := #[t, t] })
    (e n bytes : Nat) (he : ElemN P t e n bytes) (base : Nat) (enc : α → List Value) (henc : ∀ x, (enc x).length = n) (h1 : ∀ x, ∀ u ∈ enc x, u.oneCell' = true) (v : Value) (l l2 : List α) (ad : Addr) (m cap : Nat)
    (hown : OwnN w0 base e n enc v l) (hs : a.eval s = v) (hx : a.eval x = .slice (some ad) m cap) (hsrc : ∀ (j : Nat) u, (l2.flatMap enc)[j]? = some u → w0.cell? (ad.add j) = some u) (hn : l2.length = m)
    (h63 : l.length + m ≤ 1099511627776) (hby : bytes ≤ 120) (hbase : base ≤ w0.heap.size)
    (hK : ∀ v' w', OwnN w' base e n enc v' (l ++ l2) → w0.grownBy w' v.ownBlock → wpList P ops Q rest (a.put o.dst v') w') :
    wpList P ops Q (o :: rest) a w0 := by
  obtain ⟨ht, i, z, hi, hz, hsz, hb, hzs, hpos⟩ := he
  obtain ⟨v', w', hrun, h2, h3, _, h5⟩ := run_append_own_at (P := P) w0 base t o.type e i z n bytes ht hi hz hsz hb hzs hpos v l.length (l.flatMap enc) hown
    ad m cap (l2.flatMap enc) (by rw [flat_len henc, hn]) hsrc (by
      intro u hu
      obtain ⟨y, _, hy⟩ := List.mem_flatMap.1 hu
      exact h1 y u hy) (by unfold maxLen; omega) (by
      have : (l.length + m) * bytes ≤ 1099511627776 * 120 := Nat.mul_le_mul h63 hby
      omega) hbase
  refine wpList_plain hgd fun K hK' => ?_
  unfold Oper.wp execOp
  simp only [ho, resolve, invoke, builtin, Sem.run_bind, Sem.run_pure, Result.andThen_ok, List.map_toArray, List.map_cons, List.map_nil, hs, hx, hrun]
  refine hK' _ _ (hK v' w' ?_ h3)
  unfold OwnN
  rw [List.length_append, hn, List.flatMap_append]
  exact h2

theorem flat_inv {α : Type} {n : Nat} {enc : α → List Value} (hn : ∀ x, (enc x).length = n) (hpos : 0 < n) (l : List α) {j : Nat} {u : Value} (h : (l.flatMap enc)[j]? = some u) : ∃ k i x, j = k * n + i ∧ l[k]? = some x ∧ (enc x)[i]? = some u := by
  have hj := (List.getElem?_eq_some_iff.1 h).1
  rw [flat_len hn] at hj
  have hk : j / n < l.length := (Nat.div_lt_iff_lt_mul hpos).2 hj
  obtain ⟨x, hx⟩ : ∃ y, l[j / n]? = some y := ⟨_, List.getElem?_eq_getElem hk⟩
  have hi : j % n < (enc x).length := by rw [hn]; exact Nat.mod_lt _ hpos
  obtain ⟨y, hy⟩ : ∃ y, (enc x)[j % n]? = some y := ⟨_, List.getElem?_eq_getElem hi⟩
  have e := flat_get hn l _ _ _ _ hx hy
  have ej : j / n * n + j % n = j := by rw [Nat.mul_comm]; exact Nat.div_add_mod j n
  rw [ej, h] at e
  cases e
  exact ⟨_, _, x, ej.symm, hx, hy⟩

set_option maxHeartbeats 400000 in
theorem cloneR_any (v : Value) (l : List RunD) (w : World) (hp : Runs w v l) (hl : l.length ≤ 4000) :
    Calls Try.prog 54 #[v] w fun e w' => ∃ u, e = .returned u ∧ Hid (OwnRuns w' w.heap.size u l) ∧ Below w.heap.size w w' := by
  obtain ⟨ao, cap, rfl, h⟩ := hp
  have hnil := @Lib.run_eql_slice_nil
  cases ao with
  | none =>
    have h0 : l = [] := by
      cases l with
      | nil => rfl
      | cons a l => obtain ⟨b, off, e, _⟩ := h (by simp); cases e
    subst h0
    clear h
    go_enter Try.func54, Try.ntmps54
    go_wp2
    go_ret
    exact ⟨_, rfl, OwnN.nil _ _ _ _ _, Below.refl _ _⟩
  | some ad =>
    have HSRC : Hid (∀ (j : Nat) u, (l.flatMap runCells)[j]? = some u → (w.alloc (.cells #[] 60)).cell? (ad.add j) = some u) := fun j u hj => by
      obtain ⟨k, i, x, rfl, hx, hu⟩ := flat_inv run_len (by omega) l hj
      obtain ⟨b, off, e, hb, hc⟩ := h (by have := (List.getElem?_eq_some_iff.1 hx).1; omega)
      cases e
      rw [Addr.add_lit, ← Nat.add_assoc]
      exact (World.cell?_alloc_lt w _ _ hb).trans (hc k x hx i u hu)
    have hB0 := below_new w (.cells #[] 60)
    have HO : Hid (OwnRuns (w.alloc (.cells #[] 60)) w.heap.size (.slice (some ⟨w.heap.size, 0, none⟩) 0 0) []) := World.ownsRow_lit w #[] 0 (e := 60) (size := 10) (Nat.le_refl _) (by unfold maxLen; omega) rfl
    clear h
    go_enter Try.func54, Try.ntmps54
    go_wp2_with (at_builtin; refine wpList_appendFl _ rfl _ _ 23 rfl 60 10 88 elemRun w.heap.size runCells run_len run_one _ [] l ad l.length cap HO.out rfl rfl HSRC.out rfl (by simp; omega) (by omega) (by simp) ?_; intro v' w' hown' hg)
    go_ret
    exact ⟨_, rfl, hown', below_grown hB0 hg (by simp) (fun g e => by cases e; exact Nat.le_refl _)⟩

/-! ### what is returned -/
def mvR (by_ : Pt) (r : RunD) : RunD := { r with at_ := padd r.at_ by_ }
def mvOk (by_ : Pt) (r : RunD) : Bool := ptIn 1048576 r.at_ && ptIn 1048576 (padd r.at_ by_)
def mvE (by_ : Pt) (rs : List RunD) : Int := if 60 < rs.length then 4 else if ptIn 2097152 by_ = false then 2 else if rs.all (mvOk by_) then 0 else 2
def mvL (by_ : Pt) (rs : List RunD) : List RunD := if mvE by_ rs = 0 then rs.map (mvR by_) else []
theorem mv_full {by_ : Pt} {rs : List RunD} (h : 60 < rs.length) : mvE by_ rs = 4 ∧ mvL by_ rs = [] := by
  have e : mvE by_ rs = 4 := if_pos h
  exact ⟨e, by unfold mvL; rw [e]; rfl⟩
theorem mv_far {by_ : Pt} {rs : List RunD} (h : ¬ 60 < rs.length) (hb : ptIn 2097152 by_ = false) : mvE by_ rs = 2 ∧ mvL by_ rs = [] := by
  have e : mvE by_ rs = 2 := (if_neg h).trans (if_pos hb)
  exact ⟨e, by unfold mvL; rw [e]; rfl⟩
theorem mv_no {by_ : Pt} {rs : List RunD} (h : ¬ 60 < rs.length) (hb : ptIn 2097152 by_ = true) {k : Nat} {r : RunD} (hk : rs[k]? = some r) (hr : mvOk by_ r = false) : mvE by_ rs = 2 ∧ mvL by_ rs = [] := by
  have e : mvE by_ rs = 2 := (if_neg h).trans ((if_neg (by rw [hb]; simp)).trans (if_neg (by rw [allN_no hk hr]; simp)))
  exact ⟨e, by unfold mvL; rw [e]; rfl⟩
theorem mv_yes {by_ : Pt} {rs : List RunD} (h : ¬ 60 < rs.length) (hb : ptIn 2097152 by_ = true) (hr : ∀ (j : Nat) r, j < rs.length → rs[j]? = some r → mvOk by_ r = true) : mvE by_ rs = 0 ∧ mvL by_ rs = rs.map (mvR by_) := by
  have ha : rs.all (mvOk by_) = true := by
    rw [List.all_eq_true]
    intro r hm
    obtain ⟨j, hj, rfl⟩ := List.getElem_of_mem hm
    exact hr j _ hj (List.getElem?_eq_getElem hj)
  have e : mvE by_ rs = 0 := (if_neg h).trans ((if_neg (by rw [hb]; simp)).trans (if_pos ha))
  exact ⟨e, by unfold mvL; rw [e]; rfl⟩
/-- The first k runs are moved. -/
def mvN (by_ : Pt) (rs : List RunD) (k : Nat) : List RunD := (rs.take k).map (mvR by_) ++ rs.drop k
theorem mvN_len (by_ : Pt) (rs : List RunD) (k : Nat) (h : k ≤ rs.length) : (mvN by_ rs k).length = rs.length := by unfold mvN; simp; omega
theorem mvN_at (by_ : Pt) {rs : List RunD} {k : Nat} {r : RunD} (h : rs[k]? = some r) : (mvN by_ rs k)[k]? = some r := by
  have hk := (List.getElem?_eq_some_iff.1 h).1
  unfold mvN
  rw [List.getElem?_append_right (by simp; omega), List.length_map, List.length_take, Nat.min_eq_left (by omega), Nat.sub_self, List.getElem?_drop, Nat.add_zero, h]
theorem mvN_next (by_ : Pt) {rs : List RunD} {k : Nat} {r : RunD} (h : rs[k]? = some r) : (mvN by_ rs k).set k (mvR by_ r) = mvN by_ rs (k + 1) := by
  have hk := (List.getElem?_eq_some_iff.1 h).1
  unfold mvN
  rw [List.drop_eq_getElem_cons hk, (List.getElem?_eq_some_iff.1 h).2, snoc_map (mvR by_) h, List.append_assoc]
  rw [List.set_append_right _ _ (by simp; omega), List.length_map, List.length_take, Nat.min_eq_left (by omega), Nat.sub_self]
  rfl
theorem flat_setR (ps : List RunD) : ∀ (j : Nat) (r : RunD) (q : Pt), ps[j]? = some r → (((ps.flatMap runCells).set (j * 10 + 3) (.int .i64 q.x)).set (j * 10 + 4) (.int .i64 q.y)).set (j * 10 + 5) (.int .i64 q.z) = (ps.set j { r with at_ := q }).flatMap runCells := by
  induction ps with
  | nil => intro j r q h; cases h
  | cons a ps ih =>
    intro j r q h
    have e : (a :: ps).flatMap runCells = .string a.mark :: .int .i64 a.tx :: .int .i64 a.ty :: .int .i64 a.at_.x :: .int .i64 a.at_.y :: .int .i64 a.at_.z :: .int .i64 a.step.x :: .int .i64 a.step.y :: .int .i64 a.step.z :: .int .i64 a.count :: ps.flatMap runCells := rfl
    cases j with
    | zero => cases h; rw [e]; rfl
    | succ j =>
      rw [e]
      have h2 := ih j r q (by simpa using h)
      rw [show (j + 1) * 10 + 3 = j * 10 + 3 + 1 + 1 + 1 + 1 + 1 + 1 + 1 + 1 + 1 + 1 by omega, show (j + 1) * 10 + 4 = j * 10 + 4 + 1 + 1 + 1 + 1 + 1 + 1 + 1 + 1 + 1 + 1 by omega, show (j + 1) * 10 + 5 = j * 10 + 5 + 1 + 1 + 1 + 1 + 1 + 1 + 1 + 1 + 1 + 1 by omega]
      simp only [List.set_cons_succ]
      rw [h2]; rfl
theorem own_setR {w : World} {base g n cap : Nat} {ps : List RunD} (h : OwnRuns w base (.slice (some ⟨g, 0, none⟩) n cap) ps) (j : Nat) {r : RunD} (q : Pt) (hj : ps[j]? = some r) :
    OwnRuns (((w.setCell ⟨g, j * 10 + 3, none⟩ (.int .i64 q.x)).setCell ⟨g, j * 10 + 4, none⟩ (.int .i64 q.y)).setCell ⟨g, j * 10 + 5, none⟩ (.int .i64 q.z)) base (.slice (some ⟨g, 0, none⟩) n cap) (ps.set j { r with at_ := q }) := by
  have hn : n = ps.length := by
    rcases h.2 with ⟨h', _⟩ | ⟨g', cap', cur, h', _⟩
    · cases h'
    · cases h'; rfl
  subst hn
  have h1 := (World.ownsRow.stored h (j * 10 + 3) (.int .i64 q.x)).1
  have h2 := (World.ownsRow.stored h1 (j * 10 + 4) (.int .i64 q.y)).1
  have h3 := (World.ownsRow.stored h2 (j * 10 + 5) (.int .i64 q.z)).1
  rw [flat_setR ps j r q hj] at h3
  unfold OwnRuns OwnN
  rw [List.length_set]
  exact h3

/-! ### the reference -/
structure RMvW (w : World) (by_ : Pt) (base : Nat) (o : Value) (D : List RunD) (wr : World) : Prop where
  below : Below w.heap.size w wr
  pt : BlkIs wr w.heap.size 31 #[.int .i64 by_.x, .int .i64 by_.y, .int .i64 by_.z]
  own : OwnRuns wr base o D
  far : w.heap.size < base
section
variable {w wr w' : World} {by_ : Pt} {base : Nat} {o o' : Value} {D D' : List RunD}
theorem RMvW.after (h : RMvW w by_ base o D wr) (hb : Below wr.heap.size wr w') : RMvW w by_ base o D w' := ⟨bstep h.below hb, h.pt.below hb, OwnN.below h.own hb, h.far⟩
theorem RMvW.push (h : RMvW w by_ base o D wr) (ho : OwnRuns w' base o' D') (hg : wr.grownBy w' o.ownBlock) : RMvW w by_ base o' D' w' := by
  have hf := h.far
  have hn : ∀ g, o.ownBlock = some g → base ≤ g := fun g hg => (OwnN.lt h.own g hg).1
  exact ⟨h.below.grown hg h.below.size (fun j hj => by have := hn j hj; omega), (hg.block _ h.pt.lt (fun e => by have := hn _ e.symm; omega)).trans h.pt, ho, hf⟩
theorem RMvW.store {R i : Nat} {u : Value} (h : RMvW w by_ base o D wr) (h1 : w.heap.size < R) (h2 : ∀ g, o.ownBlock = some g → g ≠ R) : RMvW w by_ base o D (wr.setCell ⟨R, i, none⟩ u) :=
  ⟨h.below.setCell (by simp; omega) _, h.pt.far (by simp; omega) _, OwnN.kept h.own (fun g hg => heap_setCell_other _ _ _ _ (fun e => h2 g hg (by first | exact e | exact e.symm))), h.far⟩
end

set_option maxRecDepth 100000 in
set_option maxHeartbeats 4000000 in
theorem rmoved_any (v : Value) (rs : List RunD) (by_ : Pt) (w : World) (hr : Runs w v rs) :
    Calls Try.prog 32 #[v, ptv by_] w fun e w' => ∃ o, e = .returned (.tuple #[o, .int .i64 (mvE by_ rs)]) ∧ Hid (OwnRuns w' w.heap.size o (mvL by_ rs)) ∧ Below w.heap.size w w' := by
  obtain ⟨ro, rcap, rfl⟩ := hr.at_
  have HR := Lib.hid hr
  clear hr
  by_cases h60 : 60 < rs.length
  · obtain ⟨e1, e2⟩ := mv_full (by_ := by_) h60
    have HE := Lib.hid (And.intro e1 e2)
    have hi : (60 : Int) < (rs.length : Int) := by omega
    clear e1 e2 h60
    go_enter Try.func32, Try.ntmps32
    go_wp2
    go_ret2
    exact ⟨_, ret2_any rfl (val_int HE.out.1.symm), by rw [HE.out.2]; exact OwnN.nil _ _ _ _ _, by go_grown⟩
  · have hi : ¬ (60 : Int) < (rs.length : Int) := by omega
    have HTW := Lib.hid (fun W => twice_any by_ W)
    have H60 := Lib.hid h60
    clear h60
    cases htw : ptIn 2097152 by_ with
    | false =>
      obtain ⟨e1, e2⟩ := mv_far H60.out htw
      have HE := Lib.hid (And.intro e1 e2)
      rw [htw] at HTW
      clear e1 e2 htw
      go_enter Try.func32, Try.ntmps32
      go_wp2_with fail
      refine (HTW.out _).mono ?_
      rintro e w1 ⟨rfl, hb1⟩
      have HB1 := Lib.hid (bstep (by go_grown) hb1 : Below w.heap.size w w1)
      clear hb1
      go_wp2
      go_ret2
      exact ⟨_, ret2_any rfl (val_int HE.out.1.symm), by rw [HE.out.2]; exact OwnN.nil _ _ _ _ _, HB1.out⟩
    | true =>
      have HBY := Lib.hid (ptIn_iff.1 htw)
      have HNO := Lib.hid (fun k r (hk : rs[k]? = some r) (hr : mvOk by_ r = false) => mv_no H60.out htw hk hr)
      have HYES := Lib.hid (fun hr => mv_yes H60.out htw hr)
      rw [htw] at HTW
      clear htw
      go_enter Try.func32, Try.ntmps32
      go_wp2_with fail
      refine (HTW.out _).mono ?_
      rintro e w1 ⟨rfl, hb1⟩
      have HW0 : Hid (RMvW w by_ (w.heap.size + 1) (.slice none 0 0) (rs.take 0 |>.map (mvR by_)) w1) := ⟨bstep (by go_grown) hb1, (BlkIs.new w _ _).below hb1, OwnN.nil _ _ _ _ _, by omega⟩
      have hz1 : w.heap.size + 1 ≤ w1.heap.size := by have := hb1.size; simp at this; omega
      clear hb1 HTW
      go_wp2_with fail
      go_loopw [6, 7] (fun o i wr => ∃ k : Nat, k ≤ rs.length ∧ i = .int .i64 k ∧ RMvW w by_ (w.heap.size + 1) o ((rs.take k).map (mvR by_)) wr ∧ w.heap.size + 1 ≤ wr.heap.size ∧ Hid (∀ (j : Nat) r, j < k → rs[j]? = some r → mvOk by_ r = true)) (fun _ i _ => rs.length - (intOf i).toNat)
      case atStart => exact ⟨0, Nat.zero_le _, rfl, HW0.out, hz1, fun j r hj => by omega⟩
      case round =>
        clear HW0
        obtain ⟨k, hk, rfl, hW, hz, hno⟩ := hrel
        have HW := Lib.hid hW
        clear hW hz1
        by_cases hk2 : k < rs.length
        · obtain ⟨r, hy⟩ : ∃ y, rs[k]? = some y := ⟨_, List.getElem?_eq_getElem hk2⟩
          obtain ⟨b, off, rfl, hbl, c0, c1, c2, c3, c4, c5, c6, c7, c8, c9⟩ := runs_get (HR.out.below HW.out.below) hy
          have HY := Lib.hid hy
          have HSN := Lib.hid (snoc_map (mvR by_) hy)
          have HN1 := Lib.hid (fun W => near_any r.at_ W)
          have HN2 := Lib.hid (fun W => near_any (padd r.at_ by_) W)
          have HPL := Lib.hid (fun (ha : PtIn 1048576 r.at_) W => rplus_any r.at_ by_ W (ha.mono (by omega)) (HBY.out.mono (by omega)))
          have HWA := Lib.hid (HW.out.after (below_new wr (.cells (runCellsA r) 60)))
          have hlen : ((rs.take k).map (mvR by_)).length + 1 ≤ 1099511627776 := by simp; omega
          have HLT : Hid (∀ o', ∀ g, Value.ownBlock o' = some g → OwnRuns wr (w.heap.size + 1) o' ((rs.take k).map (mvR by_)) → g ≠ wr.heap.size) := fun o' g hg ho => by have := (OwnN.lt ho g hg).2; omega
          have HMO : Hid (mvOk by_ r = (ptIn 1048576 r.at_ && ptIn 1048576 (padd r.at_ by_))) := rfl
          clear hy
          cases ha : ptIn 1048576 r.at_ with
          | false =>
            obtain ⟨e1, e2⟩ := HNO.out k r HY.out (by rw [HMO.out, ha]; rfl)
            have HE := Lib.hid (And.intro e1 e2)
            rw [ha] at HN1
            clear e1 e2 ha
            go_wp2_with fail
            refine (HN1.out _).mono ?_
            rintro e w5 ⟨rfl, hb5⟩
            have HW5 := Lib.hid (HWA.out.after hb5)
            clear hb5
            go_wp2
            go_ret2
            exact ⟨_, ret2_any rfl (val_int HE.out.1.symm), by rw [HE.out.2]; exact OwnN.nil _ _ _ _ _, HW5.out.below⟩
          | true =>
            have HPL2 := Lib.hid (HPL.out (ptIn_iff.1 ha))
            rw [ha] at HN1
            go_wp2_with fail
            refine (HN1.out _).mono ?_
            rintro e w5 ⟨rfl, hb5⟩
            have HW5 := Lib.hid (HWA.out.after hb5)
            have HX5 := Lib.hid ((BlkIs.new wr (runCellsA r) 60).below hb5)
            have d3 := HX5.out.cell 3
            have d4 := HX5.out.cell 4
            have d5 := HX5.out.cell 5
            have p0 := HW5.out.pt.cell 0
            have p1 := HW5.out.pt.cell 1
            have p2 := HW5.out.pt.cell 2
            clear hb5 c0 c1 c2 c3 c4 c5 c6 c7 c8 c9
            go_wp2_with fail
            refine (HPL2.out _).mono ?_
            rintro e w6 ⟨rfl, hb6⟩
            have HW6 := Lib.hid (HW5.out.after hb6)
            have HX6 := Lib.hid (HX5.out.below hb6)
            clear hb6 d3 d4 d5 p0 p1 p2
            cases hb : ptIn 1048576 (padd r.at_ by_) with
            | false =>
              obtain ⟨e1, e2⟩ := HNO.out k r HY.out (by rw [HMO.out, ha, hb]; rfl)
              have HE := Lib.hid (And.intro e1 e2)
              rw [hb] at HN2
              clear e1 e2 ha hb
              go_wp2_with fail
              refine (HN2.out _).mono ?_
              rintro e w7 ⟨rfl, hb7⟩
              have HW7 := Lib.hid (HW6.out.after hb7)
              clear hb7
              go_wp2
              go_ret2
              exact ⟨_, ret2_any rfl (val_int HE.out.1.symm), by rw [HE.out.2]; exact OwnN.nil _ _ _ _ _, HW7.out.below⟩
            | true =>
              have HOK : Hid (mvOk by_ r = true) := by unfold Hid; rw [HMO.out, ha, hb]; rfl
              rw [hb] at HN2
              clear ha hb
              go_wp2_with fail
              refine (HN2.out _).mono ?_
              rintro e w7 ⟨rfl, hb7⟩
              have HW7 := Lib.hid (HW6.out.after hb7)
              have HX7 := Lib.hid (HX6.out.below hb7)
              have d3 := HX7.out.cell 3
              have d4 := HX7.out.cell 4
              have d5 := HX7.out.cell 5
              have p0 := HW7.out.pt.cell 0
              have p1 := HW7.out.pt.cell 1
              have p2 := HW7.out.pt.cell 2
              clear hb7
              go_wp2_with fail
              refine (HPL2.out _).mono ?_
              rintro e w8 ⟨rfl, hb8⟩
              have HW8 := Lib.hid (HW7.out.after hb8)
              have HX8 := Lib.hid (HX7.out.below hb8)
              clear hb8 d3 d4 d5 p0 p1 p2
              generalize hq : padd r.at_ by_ = q at *
              have HMV : Hid (mvR by_ r = ⟨r.mark, r.tx, r.ty, q, r.step, r.count⟩) := by unfold Hid mvR; rw [hq]
              clear hq
              have d0 := HX8.out.cell 0
              have d1 := HX8.out.cell 1
              have d2 := HX8.out.cell 2
              have d3 := HX8.out.cell 3
              have d4 := HX8.out.cell 4
              have d5 := HX8.out.cell 5
              have d6 := HX8.out.cell 6
              have d7 := HX8.out.cell 7
              have d8 := HX8.out.cell 8
              have d9 := HX8.out.cell 9
              have df := HX8.out.free
              have dz := HX8.out.lt
              have HST := Lib.hid (((HW8.out.store (R := wr.heap.size) (i := 3) (u := .int .i64 q.x) (by omega) (fun g hg => HLT.out _ g hg HW.out.own)).store (R := wr.heap.size) (i := 4) (u := .int .i64 q.y) (by omega) (fun g hg => HLT.out _ g hg HW.out.own)).store (R := wr.heap.size) (i := 5) (u := .int .i64 q.z) (by omega) (fun g hg => HLT.out _ g hg HW.out.own))
              have hbase : w.heap.size + 1 ≤ w8.heap.size := by omega
              go_wp2_with (at_builtin; refine wpList_pushAt _ w8.heap.size (by simp) rfl _ _ 23 rfl 60 10 88 elemRun (w.heap.size + 1) runCells _ _ (mvR by_ r) _ (by rw [HMV.out]; rfl) rfl (run_one _) HST.out.own rfl rfl hlen (by omega) hbase ?_; intro v' w' hown' hg' hat'; have HN9 := Lib.hid (HST.out.push hown' hg'); have hz9 := hg'.size; clear hown' hg' hat')
              go_roundw
              case rel => exact ⟨k + 1, by omega, by go_num, by rw [HSN.out]; exact HN9.out, by simp at hz9; omega, fun j z hj hz => by
                by_cases e : j = k
                · subst e; rw [HY.out] at hz; cases hz; exact HOK.out
                · exact hno.out j z (by omega) hz⟩
              case measure => simp [intOf]; omega
        · obtain rfl : k = rs.length := by omega
          obtain ⟨e1, e2⟩ := HYES.out hno.out
          have HE := Lib.hid (And.intro e1 e2)
          rw [List.take_length] at HW
          clear e1 e2
          go_wp2
          go_ret2
          exact ⟨_, ret2_any rfl (val_int HE.out.1.symm), by rw [HE.out.2]; exact OwnN.mono HW.out.own (by omega), HW.out.below⟩
end Go.Proofs.Ytpidjgljeooblaa
