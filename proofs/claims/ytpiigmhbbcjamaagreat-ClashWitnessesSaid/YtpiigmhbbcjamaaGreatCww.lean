/-
  The walk of ClashWitnesses.
-/
import Derived.Test.YtpiigmhbbcjamaaGreatCck
import Derived.Test.YtpiigmhbbcjamaaGreatEqC
import Derived.Laws.EntriesVeiled
namespace Go.Proofs.YtpiigmhbbcjamaaGreat
section
open Go.RowKit
set_option linter.unusedVariables false
set_option linter.unusedSimpArgs false
attribute [local go_sem ↓] Go.wp_at_zero Go.wp_at_succ

/-! ### ContainsFunc over clashes -/
def ClPred (F : Nat) (caps : Array Value) (p : ClD → Bool) (l : List ClD) (w : World) : Prop :=
  (∀ (xs : Array Value) (W : World), (callFunc F xs).run Tryz.prog W = .ok (.enter F xs) W) ∧
  ∀ (x : ClD) (W : World), x ∈ l → Below w.heap.size w W → Calls Tryz.prog F (#[clv x] ++ caps) W fun e w1 => e = .returned (.bool (p x)) ∧ Below W.heap.size W w1
set_option maxRecDepth 100000 in
set_option maxHeartbeats 1000000 in
theorem indexCl_any (F : Nat) (caps : Array Value) (p : ClD → Bool) (v : Value) (l : List ClD) (w : World) (hp : Cls w v l) (hl : l.length ≤ 140737488355328) (hC : ClPred F caps p l w) :
    Calls Tryz.prog 46 #[v, .func (.func F) #[] caps] w fun e w' => (∃ i : Int, e = .returned (.int .i64 i) ∧ decide (0 ≤ i) = l.any p) ∧ Below w.heap.size w w' := by
  obtain ⟨hF, hC⟩ := hC
  obtain ⟨ao, cap, rfl⟩ := hp.at_
  have HP := Lib.hid hp
  have HC := Lib.hid hC
  clear hp hC
  go_enter Tryz.func46, Tryz.ntmps46
  go_wp2
  go_loopw [5, 8] (fun _ i wr => ∃ k : Nat, k ≤ l.length ∧ i = .int .i64 k ∧ Below w.heap.size w wr ∧ Hid (∀ (j : Nat) y, j < k → l[j]? = some y → p y = false)) (fun _ i _ => l.length - (intOf i).toNat)
  case atStart => exact ⟨0, Nat.zero_le _, rfl, Below.refl _ _, fun j _ hj => by omega⟩
  case round =>
    obtain ⟨k, hk, rfl, hBr, hno⟩ := hrel
    by_cases hk2 : k < l.length
    · obtain ⟨x, hy⟩ : ∃ y, l[k]? = some y := ⟨_, List.getElem?_eq_getElem hk2⟩
      obtain ⟨b, off, rfl, hbl, c0, c1, c2, c3, c4, c5, c6, c7⟩ := cls_get (Fl.below HP.out hBr) hy
      have HK := Lib.hid (HC.out x wr (List.mem_of_getElem? hy) hBr)
      have HY := Lib.hid hy
      obtain ⟨q, hq⟩ : ∃ q, p x = q := ⟨_, rfl⟩
      rw [hq] at HK
      have HQ := Lib.hid hq
      clear hy hq
      cases q
      · go_wp2_with fail
        refine HK.out.mono ?_
        rintro e w9 ⟨rfl, hb9⟩
        have hB9 := bstep hBr hb9
        go_wp2
        go_roundw
        case rel => exact ⟨k + 1, by omega, by go_num, hB9, fun j z hj hz => by
          by_cases e : j = k
          · subst e; rw [HY.out] at hz; cases hz; exact HQ.out
          · exact hno j z (by omega) hz⟩
        case measure => simp [intOf]; omega
      · have HR := Lib.hid (show l.any p = true from List.any_eq_true.2 ⟨x, List.mem_of_getElem? HY.out, HQ.out⟩)
        go_wp2_with fail
        refine HK.out.mono ?_
        rintro e w9 ⟨rfl, hb9⟩
        have hB9 := bstep hBr hb9
        go_wp2
        go_ret
        exact ⟨⟨k, rfl, by rw [HR.out]; simp⟩, hB9⟩
    · have HR := Lib.hid (show l.any p = false from List.any_eq_false.2 fun x hx => by
        obtain ⟨j, hj, rfl⟩ := List.getElem_of_mem hx
        rw [hno j _ (by omega) (List.getElem?_eq_getElem hj)]
        simp)
      go_wp2
      go_ret
      exact ⟨⟨-1, rfl, by rw [HR.out]; rfl⟩, hBr⟩
theorem anyCl_any (F : Nat) (caps : Array Value) (p : ClD → Bool) (v : Value) (l : List ClD) (w : World) (hp : Cls w v l) (hl : l.length ≤ 140737488355328) (hC : ClPred F caps p l w) :
    Calls Tryz.prog 23 #[v, .func (.func F) #[] caps] w fun e w' => e = .returned (.bool (l.any p)) ∧ Below w.heap.size w w' := by
  have HI := Lib.hid (indexCl_any F caps p v l w hp hl hC)
  clear hC hp
  generalize l.any p = q at *
  go_enter Tryz.func23, Tryz.ntmps23
  go_wp2_with fail
  refine HI.out.mono ?_
  rintro e w9 ⟨⟨i, rfl, hi⟩, hb1⟩
  have HR := Lib.hid hi
  clear hi
  go_wp2
  go_ret
  exact ⟨ret_bool HR.out, hb1⟩


/-! ### in -/
def sameC (x y : ClD) : Bool := decide (x.a = y.a ∧ x.b = y.b)
def inL (l : List ClD) (x : ClD) : Bool := l.any (sameC x)
theorem cw11_any (g : Nat) (x y : ClD) (w : World) (hg : BlkIs w g 45 (clA x)) :
    Calls Tryz.prog 24 #[clv y, .pointer (some ⟨g, 0, none⟩)] w fun e w' => e = .returned (.bool (sameC x y)) ∧ Below w.heap.size w w' := by
  have HB := Lib.hid (below_new w (.cells (clA y) 45))
  have c0 := hg.cell 0
  have c1 := hg.cell 1
  have cl := hg.lt
  have HS : Hid (sameC x y = decide (x.a = y.a ∧ x.b = y.b)) := rfl
  rw [HS.out]
  clear HS hg
  by_cases h1 : x.a = y.a
  · by_cases h2 : x.b = y.b
    · have HE : Hid (decide (x.a = y.a ∧ x.b = y.b) = true) := dec_yes ⟨h1, h2⟩
      rw [HE.out]
      have d1 : (x.a == y.a) = true := beq_yes h1
      have d2 : (x.b == y.b) = true := beq_yes h2
      clear h1 h2
      go_enter Tryz.func24, Tryz.ntmps24
      go_wp2
      go_ret
      exact ⟨rfl, HB.out⟩
    · have HE : Hid (decide (x.a = y.a ∧ x.b = y.b) = false) := dec_no (fun h => h2 h.2)
      rw [HE.out]
      have d1 : (x.a == y.a) = true := beq_yes h1
      have d2 : (x.b == y.b) = false := beq_no h2
      clear h1 h2
      go_enter Tryz.func24, Tryz.ntmps24
      go_wp2
      go_ret
      exact ⟨rfl, HB.out⟩
  · have HE : Hid (decide (x.a = y.a ∧ x.b = y.b) = false) := dec_no (fun h => h1 h.1)
    rw [HE.out]
    have d1 : (x.a == y.a) = false := beq_no h1
    clear h1
    go_enter Tryz.func24, Tryz.ntmps24
    go_wp2
    go_ret
    exact ⟨rfl, HB.out⟩
theorem cw11_pred (g : Nat) (x : ClD) (l : List ClD) (w : World) (hg : BlkIs w g 45 (clA x)) : ClPred 24 #[.pointer (some ⟨g, 0, none⟩)] (sameC x) l w :=
  ⟨fun xs W => by go_simp, fun y W _ hW => cw11_any g x y W (hg.below hW)⟩
theorem cw1_any (v : Value) (l : List ClD) (x : ClD) (w : World) (hl : Cls w v l) (hn : l.length ≤ 140737488355328) :
    Calls Tryz.prog 22 #[v, clv x] w fun e w' => e = .returned (.bool (inL l x)) ∧ Below w.heap.size w w' := by
  have HB := Lib.hid (below_new w (.cells (clA x) 45))
  have HC := Lib.hid (anyCl_any 24 #[.pointer (some ⟨w.heap.size, 0, none⟩)] (sameC x) v l _ (Fl.below hl HB.out) hn (cw11_pred w.heap.size x l _ (BlkIs.new w (clA x) 45)))
  have HI : Hid (inL l x = l.any (sameC x)) := rfl
  rw [HI.out]
  generalize l.any (sameC x) = q at *
  clear hl HI
  go_enter Tryz.func22, Tryz.ntmps22
  go_wp2_with fail
  refine HC.out.mono ?_
  rintro e w1 ⟨rfl, hb1⟩
  have HB1 := Lib.hid (bstep HB.out hb1)
  clear hb1
  go_wp2
  go_ret
  exact ⟨rfl, HB1.out⟩
abbrev fv1 : Value := .func (.func 22) #[] #[]
theorem cw2_any (g1 g2 : Nat) (v : Value) (l : List ClD) (y : ClD) (w : World) (h1 : w.cell? ⟨g1, 0, none⟩ = some fv1) (h2 : w.cell? ⟨g2, 0, none⟩ = some v) (l1 : g1 < w.heap.size) (l2 : g2 < w.heap.size) (hl : Cls w v l) (hn : l.length ≤ 140737488355328) :
    Calls Tryz.prog 26 #[clv y, .pointer (some ⟨g1, 0, none⟩), .pointer (some ⟨g2, 0, none⟩)] w fun e w' => e = .returned (.bool (!inL l y)) ∧ Below w.heap.size w w' := by
  have HB := Lib.hid (below_new w (.cells (clA y) 45))
  have HC := Lib.hid (cw1_any v l y _ (Fl.below hl HB.out) hn)
  generalize inL l y = q at *
  clear hl
  go_enter Tryz.func26, Tryz.ntmps26
  go_wp2_with fail
  refine HC.out.mono ?_
  rintro e w1 ⟨rfl, hb1⟩
  have HB1 := Lib.hid (bstep HB.out hb1)
  clear hb1
  go_wp2
  go_ret
  exact ⟨rfl, HB1.out⟩
theorem cw2_pred (g1 g2 : Nat) (v : Value) (m l : List ClD) (w : World) (h1 : w.cell? ⟨g1, 0, none⟩ = some fv1) (h2 : w.cell? ⟨g2, 0, none⟩ = some v) (l1 : g1 < w.heap.size) (l2 : g2 < w.heap.size) (hl : Cls w v m) (hn : m.length ≤ 140737488355328) :
    ClPred 26 #[.pointer (some ⟨g1, 0, none⟩), .pointer (some ⟨g2, 0, none⟩)] (fun y => !inL m y) l w :=
  ⟨fun xs W => by go_simp, fun y W _ hW => cw2_any g1 g2 v m y W ((hW.cell (p := ⟨g1, 0, none⟩) l1).trans h1) ((hW.cell (p := ⟨g2, 0, none⟩) l2).trans h2) (by have := hW.size; omega) (by have := hW.size; omega) (Fl.below hl hW) hn⟩

/-! ### the plain law -/
theorem wits_all {L : List (List Bx)} {Z : List Int} {c : Int} (hz : LzOk L Z) {x : ClD} (h : x ∈ allC L Z c L.length L.length) : ckC L Z c x = true := by
  obtain ⟨i, k, h1, h2, h3, rfl⟩ := allC_mem.1 h
  obtain ⟨p1, p2, p3⟩ := hz.legs i (by omega)
  obtain ⟨q1, q2, q3⟩ := hz.legs k h2
  obtain ⟨o1, o2, o3⟩ := hit_wit (L := L) (i := i) (k := k) p1 q1 p3 q3
  show ckC L Z c ⟨i, k, (sqAt L i k).p, (sqAt L i k).q⟩ = true
  rw [ckC_in h1 h2]
  have e1 : onB (L.getD i []) (sqAt L i k).p = true := onB_iff.2 o1
  have e2 : onB (L.getD k []) (sqAt L i k).q = true := onB_iff.2 o2
  rw [e1, e2, o3]
  exact h3
theorem wits_in {L : List (List Bx)} {Z : List Int} {c : Int} {x : ClD} (h : ckC L Z c x = true) : inL (allC L Z c L.length L.length) x = true := by
  by_cases hr : 0 ≤ x.a ∧ x.a < x.b ∧ x.b < (L.length : Int)
  · obtain ⟨xa, xb, p, q⟩ := x
    simp only at hr
    obtain ⟨a, rfl⟩ : ∃ n : Nat, xa = (n : Int) := ⟨xa.toNat, by omega⟩
    obtain ⟨b, rfl⟩ : ∃ n : Nat, xb = (n : Int) := ⟨xb.toNat, by omega⟩
    rw [ckC_in (by omega) (by omega)] at h
    simp only [Bool.and_eq_true, decide_eq_true_eq] at h
    obtain ⟨h1, h2, h3⟩ := h
    have hh := wit_hit (L := L) (Z := Z) (c := c) (i := a) (k := b) (onB_iff.1 h1) (onB_iff.1 h2) h3
    unfold inL
    rw [List.any_eq_true]
    refine ⟨clOf L a b, allC_mem.2 ⟨a, b, by omega, by omega, hh, rfl⟩, ?_⟩
    unfold sameC
    exact dec_yes ⟨rfl, rfl⟩
  · rw [ckC_far hr] at h; cases h
theorem wits_more {L : List (List Bx)} {Z : List Int} {c d : Int} (hz : LzOk L Z) (hc : 0 ≤ c) (h : c ≤ d) : (allC L Z c L.length L.length).any (fun y => !inL (allC L Z d L.length L.length) y) = false := by
  rw [List.any_eq_false]
  intro x hx
  obtain ⟨i, k, h1, h2, h3, rfl⟩ := allC_mem.1 hx
  have s1 := (hz.size i (by omega)).1
  have s2 := (hz.size k h2).1
  have hh := hit_mono (L := L) (Z := Z) (i := i) (k := k) (by unfold sizeAt; omega) h h3
  have hi : inL (allC L Z d L.length L.length) (clOf L i k) = true := by
    unfold inL
    rw [List.any_eq_true]
    refine ⟨clOf L i k, allC_mem.2 ⟨i, k, h1, h2, hh, rfl⟩, ?_⟩
    unfold sameC
    exact dec_yes ⟨rfl, rfl⟩
  rw [hi]
  simp

/-! ### the walk -/
set_option maxRecDepth 100000 in
set_option maxHeartbeats 8000000 in
theorem clashWitnesses_walk (w : World) (v : Value) (l : List BarD) (hp : Bars w v l) (hf : FitB l) (hl : l.length * 64 ≤ 140737488351232) (vr : Value) (rs : List RunD) (hr : Runs w vr rs) (hm : ∀ r ∈ rs, r.mark.size ≤ maxLen) (hlr : rs.length * 88 ≤ 140737488351232)
    (c : Int) (wc : (Lit.int .i64 c).wf = true) (d : Int) (wd : (Lit.int .i64 d).wf = true) (x : ClD) (hx : (Lit.int .i64 x.a).wf = true) (hy : (Lit.int .i64 x.b).wf = true) :
    Calls Tryz.prog 5 #[v, vr, .int .i64 c, .int .i64 d, clv x] w fun en w' => en = .returned (.bool true) ∧ Below w.heap.size w w' := by
  have hl2 : l.length ≤ 140737488355328 := by omega
  have hlr2 : rs.length ≤ 140737488355328 := by omega
  have HP := Lib.hid hp
  have HR := Lib.hid hr
  have HFI := Lib.hid hf
  have HRD := Lib.hid (fun W (hW : Below w.heap.size w W) => ready_any v vr l rs W (hp.below hW) (hr.below hW) hl2 hlr2 hf)
  have HCC := Lib.hid (fun W => rclear19_any c W)
  have HCD := Lib.hid (fun W => rclear19_any d W)
  have HB0 := Lib.hid (below_new w (.cells (clA x) 45))
  have HX0 := Lib.hid (BlkIs.new w (clA x) 45)
  clear hp hr hf hl hm hlr wc wd hx hy
  obtain ⟨q1, hq1⟩ : ∃ q, clrB c = q := ⟨_, rfl⟩
  obtain ⟨q2, hq2⟩ : ∃ q, clrB d = q := ⟨_, rfl⟩
  have HQ1 := Lib.hid hq1
  have HQ2 := Lib.hid hq2
  rw [hq1] at HCC
  rw [hq2] at HCD
  clear hq1 hq2
  go_enter Tryz.func5, Tryz.ntmps5
  go_wp2_with fail
  refine (cawake_any _).mono ?_
  rintro en w1 ⟨rfl, hb1⟩
  have HW1 := Lib.hid (bstep HB0.out hb1)
  have HX1 := Lib.hid (HX0.out.below hb1)
  clear hb1 HB0 HX0
  go_wp2_with fail
  refine (HRD.out _ HW1.out).mono ?_
  rintro en w2 ⟨q, rfl, hb2, hq⟩
  have HW2 := Lib.hid (bstep HW1.out hb2)
  have HX2 := Lib.hid (HX1.out.below hb2)
  have HQ := Lib.hid hq
  clear hb2 hq HW1 HX1 HRD
  cases q
  · go_wp2
    go_ret
    exact ⟨rfl, HW2.out⟩
  · go_wp2_with fail
    refine (HCC.out _).mono ?_
    rintro en w3 ⟨rfl, rfl⟩
    cases q1
    · go_wp2
      go_ret
      exact ⟨rfl, HW2.out⟩
    · go_wp2_with fail
      refine (HCD.out _).mono ?_
      rintro en w3 ⟨rfl, rfl⟩
      cases q2
      · go_wp2
        go_ret
        exact ⟨rfl, HW2.out⟩
      · obtain ⟨hok, h14⟩ := HQ.out (by simp)
        obtain ⟨c0, c1⟩ := clr_yes HQ1.out
        obtain ⟨d0, d1⟩ := clr_yes HQ2.out
        obtain ⟨M, hM, hcm, hMB⟩ : ∃ M : Int, (if c ≤ d then d else c) = M ∧ c ≤ M ∧ clrB M = true := by
          by_cases h : c ≤ d
          · exact ⟨d, if_pos h, h, HQ2.out⟩
          · exact ⟨c, if_neg h, Int.le_refl _, HQ1.out⟩
        have hz := lzOk_of hok
        have HPA := Lib.hid (fun W (hW : Below w.heap.size w W) => cpairs_good v vr c l rs W (HP.out.below hW) (HR.out.below hW) hl2 hlr2 HFI.out hok HQ1.out h14)
        have HPM := Lib.hid (fun W (hW : Below w.heap.size w W) => cpairs_good v vr M l rs W (HP.out.below hW) (HR.out.below hW) hl2 hlr2 HFI.out hok hMB h14)
        have HCK := Lib.hid (fun y W (hW : Below w.heap.size w W) => ccheck_good v vr c y l rs W (HP.out.below hW) (HR.out.below hW) hl2 hlr2 HFI.out hok HQ1.out)
        have HALL := Lib.hid (fun y (h : y ∈ allC (lgsOf l rs) (szsOf l rs) c (lgsOf l rs).length (lgsOf l rs).length) => wits_all hz h)
        have HIN := Lib.hid (fun y h => wits_in (L := lgsOf l rs) (Z := szsOf l rs) (c := c) (x := y) h)
        have HMO := Lib.hid (wits_more hz c0 hcm)
        have hA : (allC (lgsOf l rs) (szsOf l rs) c (lgsOf l rs).length (lgsOf l rs).length).length ≤ 196 := Nat.le_trans (allC_len _ _ _ _ _) (Nat.mul_le_mul h14 h14)
        have hB : (allC (lgsOf l rs) (szsOf l rs) M (lgsOf l rs).length (lgsOf l rs).length).length ≤ 196 := Nat.le_trans (allC_len _ _ _ _ _) (Nat.mul_le_mul h14 h14)
        generalize allC (lgsOf l rs) (szsOf l rs) c (lgsOf l rs).length (lgsOf l rs).length = A at *
        generalize allC (lgsOf l rs) (szsOf l rs) M (lgsOf l rs).length (lgsOf l rs).length = B at *
        generalize ckC (lgsOf l rs) (szsOf l rs) c = ck at *
        clear hok h14 hz hMB HQ HQ1 HQ2 HCC HCD hcm
        go_wp2_with fail
        refine (HPA.out _ HW2.out).mono ?_
        rintro en w3 ⟨o1, rfl, ho1, hb3⟩
        have HW3 := Lib.hid (bstep HW2.out hb3)
        have HX3 := Lib.hid (HX2.out.below hb3)
        have HC1 := Lib.hid (OwnN.fl (fun _ => rfl) ho1 : Cls w3 o1 A)
        obtain ⟨ao, cap, rfl⟩ := ho1.shape
        clear hb3 HW2 HX2 HPA ho1
        have HBF := Lib.hid (below_new w3 (.cells #[fv1] 49))
        have HF4 := Lib.hid (BlkIs.new w3 #[fv1] 49)
        have HC4 := Lib.hid (Fl.below HC1.out HBF.out)
        have HX4 := Lib.hid (HX3.out.below HBF.out)
        have HW4 := Lib.hid (bstep HW3.out HBF.out)
        clear HW3 HC1 HX3 HBF
        go_wp2_with fail
        generalize hgf : w3.heap.size = gf at *
        generalize w3.alloc (.cells #[fv1] 49) = w4 at *
        clear hgf
        go_loopw [49] (fun i wr => ∃ k : Nat, k ≤ A.length ∧ i = .int .i64 (k : Int) ∧ Below w4.heap.size w4 wr) (fun i _ => A.length - (intOf i).toNat)
        case atStart => exact ⟨0, Nat.zero_le _, rfl, Below.refl _ _⟩
        case round =>
          obtain ⟨k, hk, rfl, hBr⟩ := hrel
          have HB := Lib.hid hBr
          clear hBr
          by_cases hk2 : k < A.length
          · obtain ⟨y, hyk⟩ : ∃ y, A[k]? = some y := ⟨_, List.getElem?_eq_getElem hk2⟩
            obtain ⟨b, off, rfl, hbl, e0, e1, e2, e3, e4, e5, e6, e7⟩ := cls_get (Fl.below HC4.out HB.out) hyk
            have HCY := Lib.hid (fun W hW => HCK.out y W hW)
            rw [HALL.out y (List.mem_of_getElem? hyk)] at HCY
            have HB2 := Lib.hid (HB.out.alloc HB.out.size (.cells (clA y) 45))
            clear hyk HB
            go_wp2_with fail
            refine (HCY.out _ (bstep HW4.out HB2.out)).mono ?_
            rintro en w5 ⟨rfl, hb5⟩
            have HB5 := Lib.hid (bstep HB2.out hb5)
            clear hb5 HB2 HCY
            go_wp2
            go_roundw
            case rel => exact ⟨k + 1, by omega, by go_num, HB5.out⟩
            case measure => simp [intOf]; omega
          · obtain rfl : k = A.length := by omega
            have HXr := Lib.hid (HX4.out.below HB.out)
            have HFr := Lib.hid (HF4.out.below HB.out)
            have HCr := Lib.hid (Fl.below HC4.out HB.out)
            have HWr := Lib.hid (bstep HW4.out HB.out)
            obtain ⟨cx, hcx⟩ : ∃ q, ck x = q := ⟨_, rfl⟩
            have HCX := Lib.hid (fun W hW => HCK.out x W hW)
            rw [hcx] at HCX
            have HIX := Lib.hid (fun h => HIN.out x (hcx.trans h))
            clear HX4 HF4 HC4 HW4 HB HCK HALL HIN hcx
            have e0 := HXr.out.cell 0
            have e1 := HXr.out.cell 1
            have e2 := HXr.out.cell 2
            have e3 := HXr.out.cell 3
            have e4 := HXr.out.cell 4
            have e5 := HXr.out.cell 5
            have e6 := HXr.out.cell 6
            have e7 := HXr.out.cell 7
            go_wp2_with fail
            refine (HCX.out _ HWr.out).mono ?_
            rintro en w5 ⟨rfl, hb5⟩
            have HX5 := Lib.hid (HXr.out.below hb5)
            have HF5 := Lib.hid (HFr.out.below hb5)
            have HC5 := Lib.hid (Fl.below HCr.out hb5)
            have HW5 := Lib.hid (bstep HWr.out hb5)
            clear hb5 HXr HFr HCr HWr HCX e0 e1 e2 e3 e4 e5 e6 e7
            cases cx
            · by_cases hcd : c < d
              · rw [if_pos (by omega)] at hM
                subst hM
                have m0 : ¬ d < c := by omega
                have m1 : ¬ d ≤ c := by omega
                have m2 : c ≤ d := by omega
                go_wp2_with fail
                refine (HPM.out _ HW5.out).mono ?_
                rintro en w7 ⟨o2, rfl, ho2, hb7⟩
                have HW7 := Lib.hid (bstep HW5.out hb7)
                have HC7 := Lib.hid (Fl.below HC5.out hb7)
                have HF7 := Lib.hid (HF5.out.below hb7)
                have HD7 := Lib.hid (OwnN.fl (fun _ => rfl) ho2 : Cls w7 o2 B)
                obtain ⟨bo, bc, rfl⟩ := ho2.shape
                clear hb7 HW5 HC5 HF5 HX5 HPM ho2
                have HBM := Lib.hid (below_new w7 (.cells #[(.slice bo B.length bc : Value)] 34))
                have HM8 := Lib.hid (BlkIs.new w7 #[(.slice bo B.length bc : Value)] 34)
                have HF8 := Lib.hid (HF7.out.below HBM.out)
                have HD8 := Lib.hid (Fl.below HD7.out HBM.out)
                have HC8 := Lib.hid (Fl.below HC7.out HBM.out)
                have HW8 := Lib.hid (bstep HW7.out HBM.out)
                clear HF7 HD7 HC7 HW7 HBM
                have HAN := Lib.hid (anyCl_any 26 #[.pointer (some ⟨gf, 0, none⟩), .pointer (some ⟨w7.heap.size, 0, none⟩)] (fun y => !inL B y) _ A _ HC8.out (by omega) (cw2_pred gf w7.heap.size (.slice bo B.length bc) B A _ (HF8.out.cell 0) (HM8.out.cell 0) HF8.out.lt HM8.out.lt HD8.out (by omega)))
                rw [HMO.out] at HAN
                clear HF8 HD8 HC8 HM8 HMO
                go_wp2_with fail
                refine HAN.out.mono ?_
                rintro en w9 ⟨rfl, hb9⟩
                have HW9 := Lib.hid (bstep HW8.out hb9)
                clear hb9
                go_wp2
                go_ret
                exact ⟨rfl, HW9.out⟩
              · by_cases hcd2 : d < c
                · rw [if_neg (by omega)] at hM
                  subst hM
                  have m0 : ¬ c < d := by omega
                  have m1 : ¬ c ≤ d := by omega
                  have m2 : d ≤ c := by omega
                  go_wp2_with fail
                  refine (HPM.out _ HW5.out).mono ?_
                  rintro en w7 ⟨o2, rfl, ho2, hb7⟩
                  have HW7 := Lib.hid (bstep HW5.out hb7)
                  have HC7 := Lib.hid (Fl.below HC5.out hb7)
                  have HF7 := Lib.hid (HF5.out.below hb7)
                  have HD7 := Lib.hid (OwnN.fl (fun _ => rfl) ho2 : Cls w7 o2 B)
                  obtain ⟨bo, bc, rfl⟩ := ho2.shape
                  clear hb7 HW5 HC5 HF5 HX5 HPM ho2
                  have HBM := Lib.hid (below_new w7 (.cells #[(.slice bo B.length bc : Value)] 34))
                  have HM8 := Lib.hid (BlkIs.new w7 #[(.slice bo B.length bc : Value)] 34)
                  have HF8 := Lib.hid (HF7.out.below HBM.out)
                  have HD8 := Lib.hid (Fl.below HD7.out HBM.out)
                  have HC8 := Lib.hid (Fl.below HC7.out HBM.out)
                  have HW8 := Lib.hid (bstep HW7.out HBM.out)
                  clear HF7 HD7 HC7 HW7 HBM
                  have HAN := Lib.hid (anyCl_any 26 #[.pointer (some ⟨gf, 0, none⟩), .pointer (some ⟨w7.heap.size, 0, none⟩)] (fun y => !inL B y) _ A _ HC8.out (by omega) (cw2_pred gf w7.heap.size (.slice bo B.length bc) B A _ (HF8.out.cell 0) (HM8.out.cell 0) HF8.out.lt HM8.out.lt HD8.out (by omega)))
                  rw [HMO.out] at HAN
                  clear HF8 HD8 HC8 HM8 HMO
                  go_wp2_with fail
                  refine HAN.out.mono ?_
                  rintro en w9 ⟨rfl, hb9⟩
                  have HW9 := Lib.hid (bstep HW8.out hb9)
                  clear hb9
                  go_wp2
                  go_ret
                  exact ⟨rfl, HW9.out⟩
                · obtain rfl : c = d := by omega
                  rw [if_pos (Int.le_refl _)] at hM
                  subst hM
                  have m0 : ¬ c < c := by omega
                  have m2 : c ≤ c := by omega
                  clear hcd hcd2
                  go_wp2_with fail
                  refine (HPM.out _ HW5.out).mono ?_
                  rintro en w7 ⟨o2, rfl, ho2, hb7⟩
                  have HW7 := Lib.hid (bstep HW5.out hb7)
                  have HC7 := Lib.hid (Fl.below HC5.out hb7)
                  have HF7 := Lib.hid (HF5.out.below hb7)
                  have HD7 := Lib.hid (OwnN.fl (fun _ => rfl) ho2 : Cls w7 o2 B)
                  obtain ⟨bo, bc, rfl⟩ := ho2.shape
                  clear hb7 HW5 HC5 HF5 HX5 HPM ho2
                  have HBM := Lib.hid (below_new w7 (.cells #[(.slice bo B.length bc : Value)] 34))
                  have HM8 := Lib.hid (BlkIs.new w7 #[(.slice bo B.length bc : Value)] 34)
                  have HF8 := Lib.hid (HF7.out.below HBM.out)
                  have HD8 := Lib.hid (Fl.below HD7.out HBM.out)
                  have HC8 := Lib.hid (Fl.below HC7.out HBM.out)
                  have HW8 := Lib.hid (bstep HW7.out HBM.out)
                  clear HF7 HD7 HC7 HW7 HBM
                  have HAN := Lib.hid (anyCl_any 26 #[.pointer (some ⟨gf, 0, none⟩), .pointer (some ⟨w7.heap.size, 0, none⟩)] (fun y => !inL B y) _ A _ HC8.out (by omega) (cw2_pred gf w7.heap.size (.slice bo B.length bc) B A _ (HF8.out.cell 0) (HM8.out.cell 0) HF8.out.lt HM8.out.lt HD8.out (by omega)))
                  rw [HMO.out] at HAN
                  clear HF8 HD8 HC8 HM8 HMO
                  go_wp2_with fail
                  refine HAN.out.mono ?_
                  rintro en w9 ⟨rfl, hb9⟩
                  have HW9 := Lib.hid (bstep HW8.out hb9)
                  clear hb9
                  go_wp2
                  go_ret
                  exact ⟨rfl, HW9.out⟩
            · have HIT := Lib.hid (HIX.out rfl)
              have HCI := Lib.hid (cw1_any _ A x w5 HC5.out (by omega))
              rw [HIT.out] at HCI
              clear HIX HIT
              have e0 := HX5.out.cell 0
              have e1 := HX5.out.cell 1
              have e2 := HX5.out.cell 2
              have e3 := HX5.out.cell 3
              have e4 := HX5.out.cell 4
              have e5 := HX5.out.cell 5
              have e6 := HX5.out.cell 6
              have e7 := HX5.out.cell 7
              have f0 := HF5.out.cell 0
              go_wp2_with fail
              refine HCI.out.mono ?_
              rintro en w6 ⟨rfl, hb6⟩
              have HX6 := Lib.hid (HX5.out.below hb6)
              have HF6 := Lib.hid (HF5.out.below hb6)
              have HC6 := Lib.hid (Fl.below HC5.out hb6)
              have HW6 := Lib.hid (bstep HW5.out hb6)
              clear hb6 HX5 HF5 HC5 HW5 HCI e0 e1 e2 e3 e4 e5 e6 e7 f0
              by_cases hcd : c < d
              · rw [if_pos (by omega)] at hM
                subst hM
                have m0 : ¬ d < c := by omega
                have m1 : ¬ d ≤ c := by omega
                have m2 : c ≤ d := by omega
                go_wp2_with fail
                refine (HPM.out _ HW6.out).mono ?_
                rintro en w7 ⟨o2, rfl, ho2, hb7⟩
                have HW7 := Lib.hid (bstep HW6.out hb7)
                have HC7 := Lib.hid (Fl.below HC6.out hb7)
                have HF7 := Lib.hid (HF6.out.below hb7)
                have HD7 := Lib.hid (OwnN.fl (fun _ => rfl) ho2 : Cls w7 o2 B)
                obtain ⟨bo, bc, rfl⟩ := ho2.shape
                clear hb7 HW6 HC6 HF6 HX6 HPM ho2
                have HBM := Lib.hid (below_new w7 (.cells #[(.slice bo B.length bc : Value)] 34))
                have HM8 := Lib.hid (BlkIs.new w7 #[(.slice bo B.length bc : Value)] 34)
                have HF8 := Lib.hid (HF7.out.below HBM.out)
                have HD8 := Lib.hid (Fl.below HD7.out HBM.out)
                have HC8 := Lib.hid (Fl.below HC7.out HBM.out)
                have HW8 := Lib.hid (bstep HW7.out HBM.out)
                clear HF7 HD7 HC7 HW7 HBM
                have HAN := Lib.hid (anyCl_any 26 #[.pointer (some ⟨gf, 0, none⟩), .pointer (some ⟨w7.heap.size, 0, none⟩)] (fun y => !inL B y) _ A _ HC8.out (by omega) (cw2_pred gf w7.heap.size (.slice bo B.length bc) B A _ (HF8.out.cell 0) (HM8.out.cell 0) HF8.out.lt HM8.out.lt HD8.out (by omega)))
                rw [HMO.out] at HAN
                clear HF8 HD8 HC8 HM8 HMO
                go_wp2_with fail
                refine HAN.out.mono ?_
                rintro en w9 ⟨rfl, hb9⟩
                have HW9 := Lib.hid (bstep HW8.out hb9)
                clear hb9
                go_wp2
                go_ret
                exact ⟨rfl, HW9.out⟩
              · by_cases hcd2 : d < c
                · rw [if_neg (by omega)] at hM
                  subst hM
                  have m0 : ¬ c < d := by omega
                  have m1 : ¬ c ≤ d := by omega
                  have m2 : d ≤ c := by omega
                  go_wp2_with fail
                  refine (HPM.out _ HW6.out).mono ?_
                  rintro en w7 ⟨o2, rfl, ho2, hb7⟩
                  have HW7 := Lib.hid (bstep HW6.out hb7)
                  have HC7 := Lib.hid (Fl.below HC6.out hb7)
                  have HF7 := Lib.hid (HF6.out.below hb7)
                  have HD7 := Lib.hid (OwnN.fl (fun _ => rfl) ho2 : Cls w7 o2 B)
                  obtain ⟨bo, bc, rfl⟩ := ho2.shape
                  clear hb7 HW6 HC6 HF6 HX6 HPM ho2
                  have HBM := Lib.hid (below_new w7 (.cells #[(.slice bo B.length bc : Value)] 34))
                  have HM8 := Lib.hid (BlkIs.new w7 #[(.slice bo B.length bc : Value)] 34)
                  have HF8 := Lib.hid (HF7.out.below HBM.out)
                  have HD8 := Lib.hid (Fl.below HD7.out HBM.out)
                  have HC8 := Lib.hid (Fl.below HC7.out HBM.out)
                  have HW8 := Lib.hid (bstep HW7.out HBM.out)
                  clear HF7 HD7 HC7 HW7 HBM
                  have HAN := Lib.hid (anyCl_any 26 #[.pointer (some ⟨gf, 0, none⟩), .pointer (some ⟨w7.heap.size, 0, none⟩)] (fun y => !inL B y) _ A _ HC8.out (by omega) (cw2_pred gf w7.heap.size (.slice bo B.length bc) B A _ (HF8.out.cell 0) (HM8.out.cell 0) HF8.out.lt HM8.out.lt HD8.out (by omega)))
                  rw [HMO.out] at HAN
                  clear HF8 HD8 HC8 HM8 HMO
                  go_wp2_with fail
                  refine HAN.out.mono ?_
                  rintro en w9 ⟨rfl, hb9⟩
                  have HW9 := Lib.hid (bstep HW8.out hb9)
                  clear hb9
                  go_wp2
                  go_ret
                  exact ⟨rfl, HW9.out⟩
                · obtain rfl : c = d := by omega
                  rw [if_pos (Int.le_refl _)] at hM
                  subst hM
                  have m0 : ¬ c < c := by omega
                  have m2 : c ≤ c := by omega
                  clear hcd hcd2
                  go_wp2_with fail
                  refine (HPM.out _ HW6.out).mono ?_
                  rintro en w7 ⟨o2, rfl, ho2, hb7⟩
                  have HW7 := Lib.hid (bstep HW6.out hb7)
                  have HC7 := Lib.hid (Fl.below HC6.out hb7)
                  have HF7 := Lib.hid (HF6.out.below hb7)
                  have HD7 := Lib.hid (OwnN.fl (fun _ => rfl) ho2 : Cls w7 o2 B)
                  obtain ⟨bo, bc, rfl⟩ := ho2.shape
                  clear hb7 HW6 HC6 HF6 HX6 HPM ho2
                  have HBM := Lib.hid (below_new w7 (.cells #[(.slice bo B.length bc : Value)] 34))
                  have HM8 := Lib.hid (BlkIs.new w7 #[(.slice bo B.length bc : Value)] 34)
                  have HF8 := Lib.hid (HF7.out.below HBM.out)
                  have HD8 := Lib.hid (Fl.below HD7.out HBM.out)
                  have HC8 := Lib.hid (Fl.below HC7.out HBM.out)
                  have HW8 := Lib.hid (bstep HW7.out HBM.out)
                  clear HF7 HD7 HC7 HW7 HBM
                  have HAN := Lib.hid (anyCl_any 26 #[.pointer (some ⟨gf, 0, none⟩), .pointer (some ⟨w7.heap.size, 0, none⟩)] (fun y => !inL B y) _ A _ HC8.out (by omega) (cw2_pred gf w7.heap.size (.slice bo B.length bc) B A _ (HF8.out.cell 0) (HM8.out.cell 0) HF8.out.lt HM8.out.lt HD8.out (by omega)))
                  rw [HMO.out] at HAN
                  clear HF8 HD8 HC8 HM8 HMO
                  go_wp2_with fail
                  refine HAN.out.mono ?_
                  rintro en w9 ⟨rfl, hb9⟩
                  have HW9 := Lib.hid (bstep HW8.out hb9)
                  clear hb9
                  go_wp2
                  go_ret
                  exact ⟨rfl, HW9.out⟩
end
end Go.Proofs.YtpiigmhbbcjamaaGreat
