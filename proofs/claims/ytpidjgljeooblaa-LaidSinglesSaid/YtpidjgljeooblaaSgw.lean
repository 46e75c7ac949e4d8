/-
  Runs of one bar each: plain part; the loop that makes them. The walk of LaidSingles.
-/
import Derived.Test.YtpidjgljeooblaaLbl
import Derived.Test.YtpidjgljeooblaaStp
namespace Go.Proofs.Ytpidjgljeooblaa
section
open Go.RowKit
set_option linter.unusedVariables false
set_option linter.unusedSimpArgs false
attribute [local go_sem ↓] Go.wp_at_zero Go.wp_at_succ

def wadd (p s : Pt) : Pt := ⟨wrap64 (p.x + s.x), wrap64 (p.y + s.y), wrap64 (p.z + s.z)⟩
theorem wadd_eq {p s : Pt} (hp : PtIn 1099511627776 p) (hs : PtIn 1099511627776 s) : wadd p s = padd p s := by
  obtain ⟨a1, a2, a3, a4, a5, a6⟩ := hp
  obtain ⟨b1, b2, b3, b4, b5, b6⟩ := hs
  unfold wadd padd
  rw [IntWalk.wrap64_in _ (by omega), IntWalk.wrap64_in _ (by omega), IntWalk.wrap64_in _ (by omega)]
set_option maxHeartbeats 400000 in
theorem wplus_all (p s : Pt) (w : World) :
    Calls Try.prog 27 #[ptv p, ptv s] w fun e w' => e = .returned (ptv (wadd p s)) ∧ Below w.heap.size w w' := by
  obtain ⟨x, y, z⟩ := p
  obtain ⟨sx, sy, sz⟩ := s
  simp only [wadd] at *
  go_enter Try.func27, Try.ntmps27
  go_wp2
  exact bodyPost_ret (v := ptv _) (by simp [results, Try.results27, go_sem]) rfl ⟨rfl, by go_grown⟩

def sgl (r : RunD) (p : Pt) : RunD := ⟨r.mark, r.tx, r.ty, p, ⟨0, 0, 0⟩, 1⟩
def atN (r : RunD) : Nat → Pt
  | 0 => r.at_
  | k + 1 => wadd (atN r k) r.step
def sglN (r : RunD) (c : Nat) : List RunD := (List.range c).map fun k => sgl r (atN r k)
def sgls (rs : List RunD) : List RunD := rs.flatMap fun r => sglN r r.count.toNat
theorem sglN_succ (r : RunD) (c : Nat) : sglN r (c + 1) = sglN r c ++ [sgl r (atN r c)] := by unfold sglN; rw [List.range_succ, List.map_append]; rfl
theorem sgls_snoc {rs : List RunD} {k : Nat} {r : RunD} (h : rs[k]? = some r) : sgls (rs.take (k + 1)) = sgls (rs.take k) ++ sglN r r.count.toNat := by
  have hk := (List.getElem?_eq_some_iff.1 h).1
  unfold sgls
  rw [List.take_succ_eq_append_getElem hk, List.flatMap_append, (List.getElem?_eq_some_iff.1 h).2]
  simp
theorem sgls_len (rs : List RunD) : (sgls rs).length = cumN rs := by
  induction rs with
  | nil => rfl
  | cons r rs ih =>
    have e : sgls (r :: rs) = sglN r r.count.toNat ++ sgls rs := rfl
    have e2 : cumN (r :: rs) = r.count.toNat + cumN rs := by simp [cumN]
    rw [e, List.length_append, ih, e2]; simp [sglN]
theorem sgls_cum (rs : List RunD) : cumN (sgls rs) = cumN rs := by
  have key : ∀ r c, cumN (sglN r c) = c := by
    intro r c
    induction c with
    | zero => rfl
    | succ c ih =>
      have e : cumN (sglN r (c + 1)) = cumN (sglN r c) + 1 := by rw [sglN_succ]; unfold cumN; rw [List.map_append, List.sum_append]; rfl
      rw [e, ih]
  induction rs with
  | nil => rfl
  | cons r rs ih =>
    have e : sgls (r :: rs) = sglN r r.count.toNat ++ sgls rs := rfl
    have e2 : cumN (r :: rs) = r.count.toNat + cumN rs := by simp [cumN]
    have e3 : ∀ a b : List RunD, cumN (a ++ b) = cumN a + cumN b := fun a b => by unfold cumN; rw [List.map_append, List.sum_append]
    rw [e, e3, key, ih, e2]
theorem sgls_marks (rs : List RunD) : laidMarks (sgls rs) = laidMarks rs := by
  have key : ∀ r c, laidMarks (sglN r c) = List.replicate c r.mark := by
    intro r c
    induction c with
    | zero => rfl
    | succ c ih =>
      rw [sglN_succ]
      have e3 : ∀ a b : List RunD, laidMarks (a ++ b) = laidMarks a ++ laidMarks b := fun a b => by unfold laidMarks; rw [List.flatMap_append]
      rw [e3, ih, List.replicate_succ']
      rfl
  induction rs with
  | nil => rfl
  | cons r rs ih =>
    have e : sgls (r :: rs) = sglN r r.count.toNat ++ sgls rs := rfl
    have e3 : ∀ a b : List RunD, laidMarks (a ++ b) = laidMarks a ++ laidMarks b := fun a b => by unfold laidMarks; rw [List.flatMap_append]
    rw [e, e3, key, ih]
    rfl
/-- Where the bars of a run lie: nothing wraps. -/
theorem atN_eq {r : RunD} (ha : PtIn 1048576 r.at_) (hs : 1 < r.count → PtIn 2097152 r.step) (hc : r.count ≤ 1000) : ∀ k : Nat, (k : Int) < r.count → atN r k = atK r k := by
  intro k
  induction k with
  | zero => intro _; rfl
  | succ k ih =>
    intro hk
    have h1 := ih (by omega)
    have hst := hs (by omega)
    have hb : PtIn 4296015872 (atK r k) := by
      unfold atK
      split
      · exact (padd_bd ha (pstep_bd hst (by omega) (by omega))).mono (by omega)
      · exact ha.mono (by omega)
    show wadd (atN r k) r.step = _
    rw [h1, wadd_eq (hb.mono (by omega)) (hst.mono (by omega))]
    have := atK_succ r k
    rw [← this]
    rfl
theorem sgls_pts {l : List BarD} {rs : List RunD} (h : ∀ r ∈ rs, PtIn 1048576 r.at_ ∧ (1 < r.count → PtIn 2097152 r.step) ∧ r.count ≤ 1000) : laidPts l (sgls rs) = laidPts l rs := by
  have e3 : ∀ a b : List RunD, laidPts l (a ++ b) = laidPts l a ++ laidPts l b := fun a b => by unfold laidPts; rw [List.flatMap_append]
  have key : ∀ r : RunD, PtIn 1048576 r.at_ ∧ (1 < r.count → PtIn 2097152 r.step) ∧ r.count ≤ 1000 → ∀ c : Nat, (c : Int) ≤ r.count → laidPts l (sglN r c) = (List.range c).map (barPts l r) := by
    intro r hr c
    induction c with
    | zero => intro _; rfl
    | succ c ih =>
      intro hc
      rw [sglN_succ, e3, ih (by omega), List.range_succ, List.map_append]
      congr 1
      have e4 : laidPts l [sgl r (atN r c)] = [barPts l (sgl r (atN r c)) 0] := by simp [laidPts, sgl]
      rw [e4]
      have e5 : barPts l (sgl r (atN r c)) 0 = barPts l r c := by
        unfold barPts
        have e6 : ptsOf l (sgl r (atN r c)) = ptsOf l r := rfl
        rw [e6]
        refine List.map_congr_left fun p _ => ?_
        rw [atN_eq hr.1 hr.2.1 hr.2.2 c (by omega)]
        unfold shiftP sgl atK
        rw [if_neg (by omega)]
        split
        · rw [pmul_one, pmul_one]; unfold padd; simp only [Pt.mk.injEq]; omega
        · simp only [pmul_one]
      rw [e5]
      rfl
  induction rs with
  | nil => rfl
  | cons r rs ih =>
    have e : sgls (r :: rs) = sglN r r.count.toNat ++ sgls rs := rfl
    have hr := h r (List.mem_cons_self ..)
    rw [e, e3, ih (fun x hx => h x (List.mem_cons_of_mem _ hx))]
    have e5 : laidPts l (r :: rs) = (List.range r.count.toNat).map (barPts l r) ++ laidPts l rs := rfl
    rw [e5]
    congr 1
    by_cases hc : 0 ≤ r.count
    · exact key r hr _ (by omega)
    · have : r.count.toNat = 0 := by omega
      rw [this]; rfl
theorem sgls_laidN {rs : List RunD} (h : ∀ r ∈ rs, 1 ≤ r.count) (m : ByteArray) : laidN (sgls rs) m = laidN rs m := by
  rw [← cntM_laid h, ← sgls_marks, cntM_laid]
  intro r hr
  obtain ⟨x, _, hx⟩ := List.mem_flatMap.1 hr
  obtain ⟨k, _, rfl⟩ := List.mem_map.1 hx
  exact Int.le_refl _
theorem sgls_bal {rs : List RunD} (l : List BarD) (h : ∀ r ∈ rs, 1 ≤ r.count) : l.flatMap (findR (sgls rs)) = l.flatMap (findR rs) := by
  have e : findR (sgls rs) = findR rs := by
    funext b
    unfold findR
    rw [sgls_laidN h]
  rw [e]
theorem sgls_mem {rs : List RunD} {s : RunD} (h : s ∈ sgls rs) : ∃ r ∈ rs, s.mark = r.mark := by
  obtain ⟨r, hr, hx⟩ := List.mem_flatMap.1 h
  obtain ⟨k, _, rfl⟩ := List.mem_map.1 hx
  exact ⟨r, hr, rfl⟩

structure SgW (w : World) (R A : Nat) (r : RunD) (p : Pt) (base : Nat) (o : Value) (D : List RunD) (wr : World) : Prop where
  below : Below w.heap.size w wr
  far : w.heap.size ≤ R ∧ w.heap.size ≤ A ∧ R ≠ A
  run : BlkIs wr R 60 (runCellsA r)
  pos : BlkIs wr A 31 #[.int .i64 p.x, .int .i64 p.y, .int .i64 p.z]
  own : OwnRuns wr base o D
  ne : ∀ g, o.ownBlock = some g → g ≠ R ∧ g ≠ A
  hb : w.heap.size ≤ base
section
variable {w wr w' : World} {R A base : Nat} {r : RunD} {p : Pt} {o o' : Value} {D D' : List RunD}
theorem SgW.after (h : SgW w R A r p base o D wr) (hb : Below wr.heap.size wr w') : SgW w R A r p base o D w' := ⟨bstep h.below hb, h.far, h.run.below hb, h.pos.below hb, OwnN.below h.own hb, h.ne, h.hb⟩
theorem SgW.push (h : SgW w R A r p base o D wr) (ho : OwnRuns w' base o' D') (hg : wr.grownBy w' o.ownBlock) (hat : o'.ownBlock = o.ownBlock ∨ ∃ g, wr.heap.size ≤ g ∧ o'.ownBlock = some g) : SgW w R A r p base o' D' w' := by
  have hb := h.hb
  refine ⟨h.below.grown hg h.below.size (fun j hj => by have := (OwnN.lt h.own j hj).1; omega), h.far, (hg.block _ h.run.lt (fun e => (h.ne _ e.symm).1 rfl)).trans h.run, (hg.block _ h.pos.lt (fun e => (h.ne _ e.symm).2 rfl)).trans h.pos, ho, fun g hgv => ?_, hb⟩
  rcases hat with e | ⟨g', h1, e⟩
  · rw [e] at hgv; exact h.ne g hgv
  · rw [e] at hgv
    cases hgv
    have := h.run.lt
    have := h.pos.lt
    omega
theorem SgW.move (h : SgW w R A r p base o D wr) (q : Pt) : SgW w R A r q base o D (((wr.setCell ⟨A, 0, none⟩ (.int .i64 q.x)).setCell ⟨A, 1, none⟩ (.int .i64 q.y)).setCell ⟨A, 2, none⟩ (.int .i64 q.z)) := by
  obtain ⟨f1, f2, f3⟩ := h.far
  refine ⟨((h.below.setCell (by simp; omega) _).setCell (by simp; omega) _).setCell (by simp; omega) _, h.far, ((h.run.far (by simp; omega) _).far (by simp; omega) _).far (by simp; omega) _, ((h.pos.set 0 _).set 1 _).set 2 _, ?_, h.ne, h.hb⟩
  refine OwnN.kept h.own (fun g hg => ?_)
  have hne : g ≠ A := (h.ne g hg).2
  rw [heap_setCell_other _ _ _ _ hne, heap_setCell_other _ _ _ _ hne, heap_setCell_other _ _ _ _ hne]
end
end

section
open Go.RowKit
set_option linter.unusedVariables false
set_option linter.unusedSimpArgs false
attribute [local go_sem ↓] Go.wp_at_zero Go.wp_at_succ

theorem small20_any (v vr : Value) (l : List BarD) (rs : List RunD) (w : World) (hp : Bars w v l) (hr : Runs w vr rs) (hl : l.length ≤ 140737488355328) (hlr : rs.length ≤ 140737488355328) :
    Calls Try.prog 26 #[v, vr, .int .i64 8, .int .i64 20] w (SomeB w) := rsmall_any v vr l rs 20 w hp hr hl hlr (by omega) (by omega)

set_option maxRecDepth 100000 in
set_option maxHeartbeats 8000000 in
theorem laidSingles_walk (w : World) (v : Value) (l : List BarD) (hp : Bars w v l) (hf : FitB l) (hl : l.length * 64 ≤ 140737488351232) (vr : Value) (rs : List RunD) (hr : Runs w vr rs) (hm : ∀ r ∈ rs, r.mark.size ≤ maxLen) (hlr : rs.length * 88 ≤ 140737488351232) :
    Calls Try.prog 5 #[v, vr] w fun e w' => e = .returned (.bool true) ∧ Below w.heap.size w w' := by
  have hl2 : l.length ≤ 140737488355328 := by omega
  have hlr2 : rs.length ≤ 140737488355328 := by omega
  have HSM := Lib.hid (fun W (hW : Below w.heap.size w W) => small20_any v vr l rs W (hp.below hW) (hr.below hW) hl2 hlr2)
  have HLV := Lib.hid (fun W (hW : Below w.heap.size w W) => lvalid_any v vr l rs W (hp.below hW) (hr.below hW) hl2 hlr2 hf)
  have HP := Lib.hid hp
  have HR := Lib.hid hr
  have HFI := Lib.hid hf
  have HM := Lib.hid hm
  clear hp hr hf hl hlr hm
  cases hok : laidOk l rs with
  | false =>
    rw [hok] at HLV
    clear hok
    go_enter Try.func5, Try.ntmps5
    go_wp2_with fail
    refine (awake_any _).mono ?_
    rintro e w1 ⟨rfl, hb1⟩
    have HB1 := Lib.hid hb1
    clear hb1
    go_wp2_with fail
    refine (HSM.out _ HB1.out).mono ?_
    rintro e w2 ⟨q, rfl, hb2⟩
    have HB2 := Lib.hid (bstep HB1.out hb2)
    clear hb2
    cases q
    · go_wp2
      go_ret
      exact ⟨rfl, HB2.out⟩
    · go_wp2_with fail
      refine (HLV.out _ HB2.out).mono ?_
      rintro e w3 ⟨rfl, hb3⟩
      have HB3 := Lib.hid (bstep HB2.out hb3)
      clear hb3
      go_wp2
      go_ret
      exact ⟨rfl, HB3.out⟩
  | true =>
    rw [hok] at HLV
    obtain ⟨b1, b2, b3⟩ := laid_bars hok
    obtain ⟨s1, s2, s3, s4, s5⟩ := laid_sum hok
    have HOK := Lib.hid hok
    have HC := Lib.hid (fun W (hW : Below w.heap.size w W) => count_good v vr l rs W (HP.out.below hW) (HR.out.below hW) hl2 hlr2 HFI.out hok)
    have HBA := Lib.hid (fun W (hW : Below w.heap.size w W) => balance_good v vr l rs W (HP.out.below hW) (HR.out.below hW) hl2 hlr2 HFI.out hok HM.out b1 b2)
    have HBE := Lib.hid (bal_eq rs b3)
    rw [HBE.out] at HBA
    have HL := Lib.hid (fun (i : Int) W (hW : Below w.heap.size w W) => legs_good v vr i l rs W (HP.out.below hW) (HR.out.below hW) hl2 hlr2 HFI.out hok)
    have HMK := Lib.hid (fun (i : Int) (h64 : i ≤ 9223372036854775807) W (hW : Below w.heap.size w W) => mark_good v vr i l rs W (HP.out.below hW) (HR.out.below hW) hl2 hlr2 HFI.out hok h64)
    have HPB : Hid (∀ r ∈ rs, PtIn 1048576 r.at_ ∧ (1 < r.count → PtIn 2097152 r.step) ∧ r.count ≤ 1000) := fun r hm => by
      obtain ⟨q1, q2, q3, q4⟩ := laidOk_parts hok
      obtain ⟨b, h1, h2, h3, h4, h5, h6, h7, h8, h9⟩ := right_parts q1 (q3 r hm)
      exact ⟨ptIn_iff.1 h4, fun h => ptIn_iff.1 (h7 h), h6⟩
    have HS3 := Lib.hid s3
    have hc1 : cumN rs ≤ 2000 := by omega
    have HGL : Hid ((l.flatMap (findR rs)).length ≤ 140737488355328) := by have := findR_len rs l; unfold Hid; omega
    have HCT := Lib.hid (fun k => cumN_take_le rs k)
    have HSLT := Lib.hid (fun k => sgls_len (rs.take k))
    clear hok s1 s3 s4 s5
    go_enter Try.func5, Try.ntmps5
    go_wp2_with fail
    refine (awake_any _).mono ?_
    rintro e w1 ⟨rfl, hb1⟩
    have HB1 := Lib.hid hb1
    clear hb1
    go_wp2_with fail
    refine (HSM.out _ HB1.out).mono ?_
    rintro e w2 ⟨q, rfl, hb2⟩
    have HB2 := Lib.hid (bstep HB1.out hb2)
    clear hb2
    cases q
    · go_wp2
      go_ret
      exact ⟨rfl, HB2.out⟩
    · go_wp2_with fail
      refine (HLV.out _ HB2.out).mono ?_
      rintro e w3 ⟨rfl, hb3⟩
      have HB3 := Lib.hid (bstep HB2.out hb3)
      obtain ⟨ro, rcap, rfl⟩ := HR.out.at_
      clear hb3 HSM HLV HB1 HB2
      go_wp2_with fail
      go_loopw [5, 40] (fun o i wr => ∃ k : Nat, k ≤ rs.length ∧ i = .int .i64 (k : Int) ∧ Below w.heap.size w wr ∧ OwnRuns wr w.heap.size o (sgls (rs.take k))) (fun _ i _ => rs.length - (intOf i).toNat)
      case atStart => exact ⟨0, Nat.zero_le _, rfl, HB3.out, OwnN.nil _ _ _ _ _⟩
      case round =>
        clear HB3
        obtain ⟨k, hk, rfl, hBr, hown⟩ := hrel
        have HB := Lib.hid hBr
        have HO := Lib.hid hown
        clear hBr hown
        by_cases hk2 : k < rs.length
        · obtain ⟨r, hy⟩ : ∃ y, rs[k]? = some y := ⟨_, List.getElem?_eq_getElem hk2⟩
          obtain ⟨b, off, rfl, hbl, c0, c1, c2, c3, c4, c5, c6, c7, c8, c9⟩ := runs_get (HR.out.below HB.out) hy
          obtain ⟨n1, n2⟩ := HS3.out r (List.mem_of_getElem? hy)
          have HSN := Lib.hid (sgls_snoc hy)
          have hz := HB.out.size
          have HW0 : Hid (SgW w wr.heap.size (wr.heap.size + 1) r (atN r 0) w.heap.size u5 (sgls (rs.take k) ++ sglN r 0) ((wr.alloc (.cells (runCellsA r) 60)).alloc (.cells #[.int .i64 r.at_.x, .int .i64 r.at_.y, .int .i64 r.at_.z] 31))) := by
            refine ⟨(HB.out.alloc HB.out.size _).alloc (by simp; omega) _, ⟨by omega, by omega, by omega⟩, (BlkIs.new wr _ _).alloc _, BlkIs.new1 wr _ _ _, ?_, fun g hg => ?_, Nat.le_refl _⟩
            · have e : sgls (rs.take k) ++ sglN r 0 = sgls (rs.take k) := by unfold sglN; simp
              rw [e]
              exact OwnN.alloc (OwnN.alloc HO.out _) _
            · have := (OwnN.lt HO.out g hg).2
              omega
          have hsl : (sgls (rs.take k)).length ≤ 2000 := by
            have h1 := HSLT.out k
            have h2 := HCT.out k
            omega
          obtain ⟨c, hc⟩ : ∃ c : Nat, r.count = (c : Int) := ⟨r.count.toNat, by omega⟩
          have hcn : r.count.toNat = c := by omega
          rw [hcn] at HSN
          have HC0 := Lib.hid hc
          clear hy hcn hc
          obtain ⟨wo, rfl⟩ : ∃ wo : World, wo = wr := ⟨_, rfl⟩
          go_wp2_with fail
          go_loopw [5, 48] (fun o i wr => ∃ j : Nat, j ≤ c ∧ i = .int .i64 (j : Int) ∧ SgW w wo.heap.size (wo.heap.size + 1) r (atN r j) w.heap.size o (sgls (rs.take k) ++ sglN r j) wr) (fun _ i _ => c - (intOf i).toNat)
          case atStart => exact ⟨0, Nat.zero_le _, rfl, HW0.out⟩
          case round =>
            clear HW0
            obtain ⟨j, hj, rfl, hW⟩ := hrel
            have HW := Lib.hid hW
            clear hW
            by_cases hj2 : j < c
            · have hjr : (j : Int) < r.count := by have := HC0.out; omega
              have d0 := HW.out.run.cell 0
              have d1 := HW.out.run.cell 1
              have d2 := HW.out.run.cell 2
              have p0 := HW.out.pos.cell 0
              have p1 := HW.out.pos.cell 1
              have p2 := HW.out.pos.cell 2
              have hlen : (sgls (rs.take k) ++ sglN r j).length + 1 ≤ 1099511627776 := by rw [List.length_append]; simp [sglN]; omega
              have HSC := Lib.hid (sglN_succ r j)
              have HAT : Hid (atN r (j + 1) = wadd (atN r j) r.step) := rfl
              have hbase : w.heap.size ≤ wr.heap.size := HW.out.below.size
              generalize hp : atN r j = p at *
              clear c0 c1 c2 c3 c4 c5 c6 c7 c8 c9 hp
              go_wp2_with (at_builtin; refine wpList_pushAt _ wr.heap.size rfl rfl _ _ 23 rfl 60 10 88 elemRun w.heap.size runCells _ _ (sgl r p) _ rfl rfl (run_one _) HW.out.own rfl rfl hlen (by omega) hbase ?_; intro v' w' hown' hg' hat'; have HN9 := Lib.hid (HW.out.push hown' hg' hat'); clear hown' hg' hat' d0 d1 d2 p0 p1 p2; have p0 := HN9.out.pos.cell 0; have p1 := HN9.out.pos.cell 1; have p2 := HN9.out.pos.cell 2; have d6 := HN9.out.run.cell 6; have d7 := HN9.out.run.cell 7; have d8 := HN9.out.run.cell 8)
              refine (wplus_all p r.step _).mono ?_
              rintro e w9 ⟨rfl, hb9⟩
              have HN8 := Lib.hid (HN9.out.after hb9)
              clear hb9 p0 p1 p2 d6 d7 d8
              generalize hq : wadd p r.step = q at *
              have p0 := HN8.out.pos.cell 0
              have p1 := HN8.out.pos.cell 1
              have p2 := HN8.out.pos.cell 2
              have pf := HN8.out.pos.free
              have pz := HN8.out.pos.lt
              have HMV := Lib.hid (HN8.out.move q)
              clear hq
              go_wp2_with fail
              go_roundw
              case rel => exact ⟨j + 1, by omega, by go_num, by rw [HAT.out, HSC.out, ← List.append_assoc]; exact HMV.out⟩
              case measure => simp [intOf]; omega
            · have hjr : ¬ (j : Int) < r.count := by have := HC0.out; omega
              obtain rfl : j = c := by omega
              go_wp2_with fail
              go_roundw
              case rel => exact ⟨k + 1, by omega, by go_num, HW.out.below, by rw [HSN.out]; exact HW.out.own⟩
              case measure => simp [intOf]; omega
        · obtain rfl : k = rs.length := by omega
          rw [List.take_length] at HO
          have HSL := Lib.hid (sgls_len rs)
          have HSC := Lib.hid (sgls_cum rs)
          have HSM := Lib.hid (sgls_marks rs)
          have HSP := Lib.hid (sgls_pts (l := l) HPB.out)
          have HSB := Lib.hid (sgls_bal l (fun r hr => (HS3.out r hr).1))
          have HSK : Hid (∀ r ∈ sgls rs, r.mark.size ≤ maxLen) := fun s hs => by
            obtain ⟨r, hr, e⟩ := sgls_mem hs
            rw [e]; exact HM.out r hr
          have hn2 : (sgls rs).length ≤ 140737488355328 := by have := HSL.out; omega
          have HB0 := Lib.hid (bal_eq (sgls rs) b3)
          generalize sgls rs = S at *
          obtain ⟨so, sc, rfl⟩ := OwnN.shape HO.out
          have HCN := Lib.hid (fun (h : laidOk l S = true) W (hW : Below w.heap.size w W) (hr : Runs W (.slice so S.length sc) S) => count_good v _ l S W (HP.out.below hW) hr hl2 hn2 HFI.out h)
          have HCB := Lib.hid (fun (h : laidOk l S = false) W (hW : Below w.heap.size w W) (hr : Runs W (.slice so S.length sc) S) => count_bad v _ l S W (HP.out.below hW) hr hl2 hn2 HFI.out h)
          have HBN := Lib.hid (fun (h : laidOk l S = true) W (hW : Below w.heap.size w W) (hr : Runs W (.slice so S.length sc) S) => balance_good v _ l S W (HP.out.below hW) hr hl2 hn2 HFI.out h HSK.out b1 b2)
          have HBB := Lib.hid (fun (h : laidOk l S = false) W (hW : Below w.heap.size w W) (hr : Runs W (.slice so S.length sc) S) => balance_bad v _ l S W (HP.out.below hW) hr hl2 hn2 HFI.out h)
          have HLN := Lib.hid (fun (h : laidOk l S = true) (i : Int) W (hW : Below w.heap.size w W) (hr : Runs W (.slice so S.length sc) S) => legs_good v _ i l S W (HP.out.below hW) hr hl2 hn2 HFI.out h)
          have HMN := Lib.hid (fun (h : laidOk l S = true) (i : Int) (h64 : i ≤ 9223372036854775807) W (hW : Below w.heap.size w W) (hr : Runs W (.slice so S.length sc) S) => mark_good v _ i l S W (HP.out.below hW) hr hl2 hn2 HFI.out h h64)
          clear hk hk2 HPB HS3 HCT HSLT HBE
          go_wp2_with fail
          refine (HC.out _ HB.out).mono ?_
          rintro e w4 ⟨rfl, hb4⟩
          have HB4 := Lib.hid (bstep HB.out hb4)
          have HO4 := Lib.hid (OwnN.below HO.out hb4)
          clear hb4 HC
          have hsz : ((cumN rs : Int) != (S.length : Int)) = false := bne_no (by have := HSL.out; omega)
          cases hok2 : laidOk l S with
          | false =>
            go_wp2_with fail
            refine (HCB.out hok2 _ HB4.out (OwnN.fl run_len HO4.out)).mono ?_
            rintro e w5 ⟨rfl, hb5⟩
            have HB5 := Lib.hid (bstep HB4.out hb5)
            have HO5 := Lib.hid (OwnN.below HO4.out hb5)
            clear hb5
            have HBB2 := Lib.hid (HBB.out hok2)
            clear hok2 HBB HCB HCN HBN HLN HMN
            go_wp2_with fail
            refine (HBA.out _ HB5.out).mono ?_
            rintro e w6 ⟨o6, rfl, ho6, hb6⟩
            have HB6 := Lib.hid (bstep HB5.out hb6)
            have HO6 := Lib.hid (OwnN.below HO5.out hb6)
            clear hb6 ho6
            go_wp2_with fail
            refine (HBB2.out _ HB6.out (OwnN.fl run_len HO6.out)).mono ?_
            rintro e w7 ⟨rfl, hb7⟩
            have HB7 := Lib.hid (bstep HB6.out hb7)
            clear hb7
            go_wp2
            go_ret
            exact ⟨rfl, HB7.out⟩
          | true =>
            have HCN2 := Lib.hid (HCN.out hok2)
            have HBN2 := Lib.hid (HBN.out hok2)
            have HLN2 := Lib.hid (HLN.out hok2)
            have HMN2 := Lib.hid (HMN.out hok2)
            rw [HSC.out] at HCN2
            rw [HB0.out, HSB.out] at HBN2
            clear hok2 HBB HCB HCN HBN HLN HMN HB0 HSB
            go_wp2_with fail
            refine (HCN2.out _ HB4.out (OwnN.fl run_len HO4.out)).mono ?_
            rintro e w5 ⟨rfl, hb5⟩
            have HB5 := Lib.hid (bstep HB4.out hb5)
            have HO5 := Lib.hid (OwnN.below HO4.out hb5)
            clear hb5
            go_wp2_with fail
            refine (HBA.out _ HB5.out).mono ?_
            rintro e w6 ⟨o6, rfl, ho6, hb6⟩
            have HB6 := Lib.hid (bstep HB5.out hb6)
            have HO6 := Lib.hid (OwnN.below HO5.out hb6)
            have HF6 := Lib.hid ho6
            clear hb6 ho6
            go_wp2_with fail
            refine (HBN2.out _ HB6.out (OwnN.fl run_len HO6.out)).mono ?_
            rintro e w7 ⟨o7, rfl, ho7, hb7⟩
            have HB7 := Lib.hid (bstep HB6.out hb7)
            have HO7 := Lib.hid (OwnN.below HO6.out hb7)
            have HEQ := Lib.hid (eqFd_same o6 o7 _ w7 _ _ (OwnN.below HF6.out hb7) ho7 HGL.out)
            clear hb7 ho7 HF6
            go_wp2_with fail
            refine HEQ.out.mono ?_
            rintro e w8 ⟨rfl, hb8⟩
            have HB8 := Lib.hid (bstep HB7.out hb8)
            have HO8 := Lib.hid (OwnN.below HO7.out hb8)
            clear hb8 HEQ HBA HBN2 HCN2 HB HB4 HB5 HB6 HB7 HO HO4 HO5 HO6 HO7
            go_wp2_with fail
            go_loopw [127] (fun i wr => ∃ n : Nat, n ≤ cumN rs ∧ i = .int .i64 (n : Int) ∧ Below w.heap.size w wr ∧ OwnRuns wr w.heap.size (.slice so S.length sc) S) (fun i _ => cumN rs - (intOf i).toNat)
            case atStart => exact ⟨0, Nat.zero_le _, rfl, HB8.out, HO8.out⟩
            case round =>
              clear HB8 HO8
              obtain ⟨n, hn, rfl, hBr, hown⟩ := hrel
              have HB := Lib.hid hBr
              have HO := Lib.hid hown
              clear hBr hown
              by_cases hn2 : n < cumN rs
              · go_wp2_with fail
                refine (HL.out (n : Int) _ HB.out).mono ?_
                rintro e w9 (⟨q, o9, _, hq, rfl, ho9, hb9⟩ | ⟨hbad, _, _⟩)
                · have HB9 := Lib.hid (bstep HB.out hb9)
                  have HO9 := Lib.hid (OwnN.below HO.out hb9)
                  have HX9 := Lib.hid ho9
                  have HQ := Lib.hid hq
                  obtain ⟨q1, q2, q3⟩ := laid_near HOK.out hq
                  have HGB : Hid ((legsN q (q.length - 1)).length ≤ 140737488355328) := by unfold Hid; rw [legsN_len]; omega
                  clear hb9 ho9 hq q1 q2 q3
                  go_wp2_with fail
                  refine (HLN2.out (n : Int) _ HB9.out (OwnN.fl run_len HO9.out)).mono ?_
                  rintro e w10 (⟨q', o10, _, hq', rfl, ho10, hb10⟩ | ⟨hbad, _, _⟩)
                  · obtain rfl : q' = q := by
                      rw [HSP.out, HQ.out] at hq'
                      exact (Option.some.inj hq').symm
                    have HB10 := Lib.hid (bstep HB9.out hb10)
                    have HO10 := Lib.hid (OwnN.below HO9.out hb10)
                    have HX10 := Lib.hid (HX9.out.keep hb10)
                    have HY10 := Lib.hid ho10
                    clear hb10 ho10 hq' HX9
                    go_wp2_with fail
                    refine (HMK.out (n : Int) (by omega) _ HB10.out).mono ?_
                    rintro e w11 (⟨m, _, hm, rfl, hb11⟩ | ⟨hbad, _, _⟩)
                    · have HB11 := Lib.hid (bstep HB10.out hb11)
                      have HO11 := Lib.hid (OwnN.below HO10.out hb11)
                      have HX11 := Lib.hid (HX10.out.keep hb11)
                      have HY11 := Lib.hid (OwnBxs.keep HY10.out hb11)
                      have HMM := Lib.hid hm
                      clear hb11 hm HX10 HY10
                      go_wp2_with fail
                      refine (HMN2.out (n : Int) (by omega) _ HB11.out (OwnN.fl run_len HO11.out)).mono ?_
                      rintro e w12 (⟨m', _, hm', rfl, hb12⟩ | ⟨hbad, _, _⟩)
                      · obtain rfl : m' = m := by
                          rw [HSM.out, HMM.out] at hm'
                          exact (Option.some.inj hm').symm
                        have HB12 := Lib.hid (bstep HB11.out hb12)
                        have HO12 := Lib.hid (OwnN.below HO11.out hb12)
                        have HEQ := Lib.hid (eqBx_same _ _ _ w12 _ _ (HX11.out.keep hb12) (OwnBxs.keep HY11.out hb12) HGB.out)
                        clear hb12 hm'
                        go_wp2_with fail
                        refine HEQ.out.mono ?_
                        rintro e w13 ⟨rfl, hb13⟩
                        have HB13 := Lib.hid (bstep HB12.out hb13)
                        have HO13 := Lib.hid (OwnN.below HO12.out hb13)
                        clear hb13
                        go_wp2
                        go_roundw
                        case rel => exact ⟨n + 1, by omega, by go_num, HB13.out, HO13.out⟩
                        case measure => simp [intOf]; omega
                      · have := HSC.out
                        omega
                    · omega
                  · have := HSC.out
                    omega
                · omega
              · obtain rfl : n = cumN rs := by omega
                go_wp2
                go_ret
                exact ⟨rfl, HB.out⟩
end
end Go.Proofs.Ytpidjgljeooblaa
