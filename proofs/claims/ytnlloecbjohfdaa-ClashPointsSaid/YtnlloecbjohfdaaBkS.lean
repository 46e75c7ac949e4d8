/-
  Boxes that hold others; the size of a laid bar in the reference; what is near; Sweep; ContainsFunc over boxes.
-/
import Derived.Test.YtnlloecbjohfdaaBkI
namespace Go.Proofs.Ytnlloecbjohfdaa
open Go.RowKit
set_option linter.unusedVariables false
set_option linter.unusedSimpArgs false
attribute [local go_sem ↓] Go.wp_at_zero Go.wp_at_succ

/-! ### ContainsFunc over boxes -/
def BoxPred (F : Nat) (caps : Array Value) (p : Bx → Bool) (l : List Bx) (w : World) : Prop :=
  (∀ (xs : Array Value) (W : World), (callFunc F xs).run Try.prog W = .ok (.enter F xs) W) ∧
  ∀ (x : Bx) (W : World), x ∈ l → Below w.heap.size w W → Calls Try.prog F (#[bxv x] ++ caps) W fun e w1 => e = .returned (.bool (p x)) ∧ Below W.heap.size W w1
set_option maxRecDepth 100000 in
set_option maxHeartbeats 1000000 in
theorem indexBx_any (F : Nat) (caps : Array Value) (p : Bx → Bool) (v : Value) (l : List Bx) (w : World) (hp : Bxs w v l) (hl : l.length ≤ 140737488355328) (hC : BoxPred F caps p l w) :
    Calls Try.prog 59 #[v, .func (.func F) #[] caps] w fun e w' => (∃ i : Int, e = .returned (.int .i64 i) ∧ decide (0 ≤ i) = l.any p) ∧ Below w.heap.size w w' := by
  obtain ⟨hF, hC⟩ := hC
  obtain ⟨ao, cap, rfl⟩ := hp.at_
  have HP := Lib.hid hp
  have HC := Lib.hid hC
  clear hp hC
  go_enter Try.func59, Try.ntmps59
  go_wp2
  go_loopw [5, 8] (fun _ i wr => ∃ k : Nat, k ≤ l.length ∧ i = .int .i64 k ∧ Below w.heap.size w wr ∧ Hid (∀ (j : Nat) y, j < k → l[j]? = some y → p y = false)) (fun _ i _ => l.length - (intOf i).toNat)
  case atStart => exact ⟨0, Nat.zero_le _, rfl, Below.refl _ _, fun j _ hj => by omega⟩
  case round =>
    obtain ⟨k, hk, rfl, hBr, hno⟩ := hrel
    by_cases hk2 : k < l.length
    · obtain ⟨x, hy⟩ : ∃ y, l[k]? = some y := ⟨_, List.getElem?_eq_getElem hk2⟩
      obtain ⟨b, off, rfl, hbl, c0, c1, c2, c3, c4, c5⟩ := bxs_get (HP.out.below hBr) hy
      have HK := Lib.hid (HC.out x wr (List.mem_of_getElem? hy) hBr)
      have HY := Lib.hid hy
      obtain ⟨q, hq⟩ : ∃ q, p x = q := ⟨_, rfl⟩
      rw [hq] at HK
      have HQ := Lib.hid hq
      clear hy hq
      cases q
      · go_wp2_with fail
        refine HK.out.mono ?_
        rintro e w9 ⟨rfl, hb9⟩
        have hB9 := bstep hBr hb9
        go_wp2
        go_roundw
        case rel => exact ⟨k + 1, by omega, by go_num, hB9, fun j z hj hz => by
          by_cases e : j = k
          · subst e; rw [HY.out] at hz; cases hz; exact HQ.out
          · exact hno j z (by omega) hz⟩
        case measure => simp [intOf]; omega
      · have HR := Lib.hid (show l.any p = true from List.any_eq_true.2 ⟨x, List.mem_of_getElem? HY.out, HQ.out⟩)
        go_wp2_with fail
        refine HK.out.mono ?_
        rintro e w9 ⟨rfl, hb9⟩
        have hB9 := bstep hBr hb9
        go_wp2
        go_ret
        exact ⟨⟨k, rfl, by rw [HR.out]; simp⟩, hB9⟩
    · have HR := Lib.hid (show l.any p = false from List.any_eq_false.2 fun x hx => by
        obtain ⟨j, hj, rfl⟩ := List.getElem_of_mem hx
        rw [hno j _ (by omega) (List.getElem?_eq_getElem hj)]
        simp)
      go_wp2
      go_ret
      exact ⟨⟨-1, rfl, by rw [HR.out]; rfl⟩, hBr⟩
theorem anyBx_any (F : Nat) (caps : Array Value) (p : Bx → Bool) (v : Value) (l : List Bx) (w : World) (hp : Bxs w v l) (hl : l.length ≤ 140737488355328) (hC : BoxPred F caps p l w) :
    Calls Try.prog 19 #[v, .func (.func F) #[] caps] w fun e w' => e = .returned (.bool (l.any p)) ∧ Below w.heap.size w w' := by
  have HI := Lib.hid (indexBx_any F caps p v l w hp hl hC)
  clear hC hp
  generalize l.any p = q at *
  go_enter Try.func19, Try.ntmps19
  go_wp2_with fail
  refine HI.out.mono ?_
  rintro e w9 ⟨⟨i, rfl, hi⟩, hb1⟩
  have HR := Lib.hid hi
  clear hi
  go_wp2
  go_ret
  exact ⟨ret_bool HR.out, hb1⟩

/-! ### Contains -/
def axI (a b : Bx) (k : Nat) : Prop := ax a.lo k ≤ ax b.lo k ∧ ax b.hi k ≤ ax a.hi k
def inclB (a b : Bx) : Bool := decide ((a.lo.x ≤ b.lo.x ∧ b.hi.x ≤ a.hi.x) ∧ (a.lo.y ≤ b.lo.y ∧ b.hi.y ≤ a.hi.y) ∧ (a.lo.z ≤ b.lo.z ∧ b.hi.z ≤ a.hi.z))
theorem inclB_no {a b : Bx} {k : Nat} (hk : k < 3) (h : ¬ axI a b k) : inclB a b = false := by
  unfold axI ax at h
  unfold inclB
  obtain rfl | rfl | rfl : k = 0 ∨ k = 1 ∨ k = 2 := by omega
  · exact dec_no (fun h2 => h h2.1)
  · exact dec_no (fun h2 => h h2.2.1)
  · exact dec_no (fun h2 => h h2.2.2)
theorem inclB_yes {a b : Bx} (h : ∀ k, k < 3 → axI a b k) : inclB a b = true := dec_yes ⟨h 0 (by omega), h 1 (by omega), h 2 (by omega)⟩
theorem incl_point {b : Bx} {p : Pt} (h : inBx b p) : inclB b ⟨p, p⟩ = true := dec_yes h
set_option maxRecDepth 100000 in
set_option maxHeartbeats 4000000 in
theorem incl_any (a b : Bx) (w : World) : Calls Try.prog 60 #[bxv a, bxv b] w fun e w' => e = .returned (.bool (inclB a b)) ∧ Below w.heap.size w w' := by
  have HEA := Lib.hid (fun k hk W => ends_any a k W hk)
  have HEB := Lib.hid (fun k hk W => ends_any b k W hk)
  have HN := Lib.hid (fun k hk => inclB_no (a := a) (b := b) (k := k) hk)
  have HY := Lib.hid (inclB_yes (a := a) (b := b))
  have HX : Hid (∀ k, axI a b k = (ax a.lo k ≤ ax b.lo k ∧ ax b.hi k ≤ ax a.hi k)) := fun _ => rfl
  generalize inclB a b = ok at *
  go_enter Try.func60, Try.ntmps60
  go_wp2
  go_loopw [10] (fun i wr => ∃ k : Nat, k ≤ 3 ∧ i = .int .i64 k ∧ Below w.heap.size w wr ∧ BlkIs wr w.heap.size 39 (bxCellsA a) ∧ BlkIs wr (w.heap.size + 1) 39 (bxCellsA b) ∧ Hid (∀ j, j < k → axI a b j)) (fun i _ => 3 - (intOf i).toNat)
  case atStart => exact ⟨0, by omega, rfl, by go_grown, (BlkIs.new w _ _).alloc _, BlkIs.new1 w _ _ _, fun j hj => by omega⟩
  case round =>
    obtain ⟨k, hk, rfl, hB, hxa, hxb, hA⟩ := hrel
    have HB := Lib.hid hB
    have HXA := Lib.hid hxa
    have HXB := Lib.hid hxb
    clear hB hxa hxb
    by_cases hk2 : k < 3
    · have c0 := HXA.out.cell 0
      have c1 := HXA.out.cell 1
      have c2 := HXA.out.cell 2
      have c3 := HXA.out.cell 3
      have c4 := HXA.out.cell 4
      have c5 := HXA.out.cell 5
      have HEK := Lib.hid (HEA.out k hk2)
      have HFK := Lib.hid (HEB.out k hk2)
      have HNK := Lib.hid (HN.out k hk2)
      have HXK := Lib.hid (HX.out k)
      generalize ax a.lo k = lo at *
      generalize ax a.hi k = hi at *
      generalize ax b.lo k = fr at *
      generalize ax b.hi k = tt at *
      clear HEA HEB HN
      go_wp2_with fail
      refine (HEK.out _).mono ?_
      rintro e w9 ⟨rfl, hb9⟩
      have HB9 := Lib.hid (bstep HB.out hb9)
      have HXA9 := Lib.hid (HXA.out.below hb9)
      have HXB9 := Lib.hid (HXB.out.below hb9)
      clear hb9 c0 c1 c2 c3 c4 c5 HB HXA HXB
      have c0 := HXB9.out.cell 0
      have c1 := HXB9.out.cell 1
      have c2 := HXB9.out.cell 2
      have c3 := HXB9.out.cell 3
      have c4 := HXB9.out.cell 4
      have c5 := HXB9.out.cell 5
      go_wp2_with fail
      refine (HFK.out _).mono ?_
      rintro e w8 ⟨rfl, hb8⟩
      have HB8 := Lib.hid (bstep HB9.out hb8)
      have HXA8 := Lib.hid (HXA9.out.below hb8)
      have HXB8 := Lib.hid (HXB9.out.below hb8)
      clear hb8 c0 c1 c2 c3 c4 c5 HB9 HXA9 HXB9
      by_cases h1 : fr < lo
      · have HF := Lib.hid (HNK.out (by rw [HXK.out]; omega))
        go_wp2
        go_ret
        exact ⟨ret_bool HF.out.symm, HB8.out⟩
      · by_cases h2 : hi < tt
        · have HF := Lib.hid (HNK.out (by rw [HXK.out]; omega))
          go_wp2
          go_ret
          exact ⟨ret_bool HF.out.symm, HB8.out⟩
        · have HT := Lib.hid (show axI a b k by rw [HXK.out]; omega)
          go_wp2
          go_roundw
          case rel => exact ⟨k + 1, by omega, by go_num, HB8.out, HXA8.out, HXB8.out, fun j hj => by
            by_cases e : j = k
            · rw [e]; exact HT.out
            · exact hA.out j (by omega)⟩
          case measure => simp [intOf]; omega
    · have HT := Lib.hid (HY.out (fun j hj => hA.out j (by omega)))
      go_wp2
      go_ret
      exact ⟨ret_bool HT.out.symm, HB.out⟩
theorem contains_box (a b : Bx) (w : World) (ha : bxOk a = true) (hb : bxOk b = true) : Calls Try.prog 21 #[bxv a, bxv b] w fun e w' => e = .returned (.tuple #[.bool (inclB a b), .int .i64 0]) ∧ Below w.heap.size w w' := by
  have HVA := Lib.hid (fun W => bvalid_any a W)
  have HVB := Lib.hid (fun W => bvalid_any b W)
  rw [ha] at HVA
  rw [hb] at HVB
  have HI := Lib.hid (fun W => incl_any a b W)
  generalize inclB a b = q at *
  have HXA := Lib.hid ((BlkIs.new w (bxCellsA a) 39).alloc (.cells (bxCellsA b) 39))
  have HXB := Lib.hid (BlkIs.new1 w (.cells (bxCellsA a) 39) (bxCellsA b) 39)
  clear ha hb
  go_enter Try.func21, Try.ntmps21
  go_wp2_with fail
  refine (HVA.out _).mono ?_
  rintro e w1 ⟨rfl, hb1⟩
  have HB1 := Lib.hid (bstep (by go_grown) hb1 : Below w.heap.size w w1)
  have HXA1 := Lib.hid (HXA.out.below hb1)
  have HXB1 := Lib.hid (HXB.out.below hb1)
  clear hb1 HXA HXB
  have c0 := HXB1.out.cell 0
  have c1 := HXB1.out.cell 1
  have c2 := HXB1.out.cell 2
  have c3 := HXB1.out.cell 3
  have c4 := HXB1.out.cell 4
  have c5 := HXB1.out.cell 5
  go_wp2_with fail
  refine (HVB.out _).mono ?_
  rintro e w2 ⟨rfl, hb2⟩
  have HB2 := Lib.hid (bstep HB1.out hb2)
  have HXA2 := Lib.hid (HXA1.out.below hb2)
  have HXB2 := Lib.hid (HXB1.out.below hb2)
  clear hb2 c0 c1 c2 c3 c4 c5 HXA1 HXB1 HB1
  have c0 := HXB2.out.cell 0
  have c1 := HXB2.out.cell 1
  have c2 := HXB2.out.cell 2
  have c3 := HXB2.out.cell 3
  have c4 := HXB2.out.cell 4
  have c5 := HXB2.out.cell 5
  have d0 := HXA2.out.cell 0
  have d1 := HXA2.out.cell 1
  have d2 := HXA2.out.cell 2
  have d3 := HXA2.out.cell 3
  have d4 := HXA2.out.cell 4
  have d5 := HXA2.out.cell 5
  go_wp2_with fail
  refine (HI.out _).mono ?_
  rintro e w3 ⟨rfl, hb3⟩
  have HB3 := Lib.hid (bstep HB2.out hb3)
  clear hb3
  go_wp2
  go_ret2
  exact ⟨rfl, HB3.out⟩

/-! ### Sweep of legs -/
theorem sweep1_any (b : Bx) (w : World) : Calls Try.prog 56 #[bxv b] w fun e w' => e = .returned (.bool (!bxOk b)) ∧ Below w.heap.size w w' := by
  have H := Lib.hid (fun W => bvalid_any b W)
  generalize bxOk b = q at *
  go_enter Try.func56, Try.ntmps56
  go_wp2_with fail
  refine (H.out _).mono ?_
  rintro e w1 ⟨rfl, hb1⟩
  have HB1 := Lib.hid (bstep (by go_grown) hb1 : Below w.heap.size w w1)
  clear hb1
  go_wp2
  go_ret
  exact ⟨rfl, HB1.out⟩
set_option maxRecDepth 100000 in
theorem sweepI_good (v : Value) (l : List Bx) (x : Int) (w : World) (hp : Bxs w v l) (hl : l.length ≤ 8) (hok : l.all bxOk = true) (hx : axB x = true) :
    Calls Try.prog 18 #[v, .int .i64 x] w fun e w' => ∃ o, e = .returned (.tuple #[o, .int .i64 0]) ∧ OwnBxs w' w.heap.size o (l.map fun b => wayB b x) ∧ Below w.heap.size w w' := by
  obtain ⟨ao, cap, rfl⟩ := hp.at_
  have HA := Lib.hid (anyBx_any 56 #[] (fun b => !bxOk b) _ l w hp (by omega) ⟨fun xs W => by rfl, fun b W _ _ => sweep1_any b W⟩)
  have hf : l.any (fun b => !bxOk b) = false := by
    rw [List.any_eq_false]
    intro b hb
    simp [List.all_eq_true.1 hok b hb]
  rw [hf] at HA
  have HAX := Lib.hid (fun W => isAxis_any x W)
  have HSW := Lib.hid (fun W (hW : Below w.heap.size w W) => sweep_any _ l x W (hp.below hW) (by omega) hx)
  rw [hx] at HAX
  clear hp hok hx hf
  have d1 : decide ((8 : Int) < (l.length : Int)) = false := dec_no (by omega)
  go_enter Try.func18, Try.ntmps18
  go_wp2_with fail
  refine HA.out.mono ?_
  rintro e w1 ⟨rfl, hb1⟩
  have HB1 := Lib.hid hb1
  clear hb1 HA
  go_wp2_with fail
  refine (HAX.out _).mono ?_
  rintro e w2 ⟨rfl, hb2⟩
  have HB2 := Lib.hid (bstep HB1.out hb2)
  clear hb2
  go_wp2_with fail
  refine (HSW.out _ HB2.out).mono ?_
  rintro e w3 ⟨o, rfl, HO, hb3⟩
  have HB3 := Lib.hid (bstep HB2.out hb3)
  have hz := HB2.out.size
  clear hb3
  go_wp2
  go_ret2
  exact ⟨_, rfl, OwnN.mono HO.out hz, HB3.out⟩

/-! ### the size of a laid bar in the reference; what is near -/
theorem field_size (b : BarD) (dv : Value) (W : World) : (Instr.field 100 (barv b dv) 1).run Try.prog W = .ok (.int .i64 b.size) W := by kernel_rfl
theorem rbarS_any (v vr : Value) (l : List BarD) (rs : List RunD) (n : Nat) (w : World) (hp : Bars w v l) (hr : Runs w vr rs) (hl : l.length ≤ 140737488355328) (h : laidOk l rs = true) (hn : n < cumN rs) :
    Calls Try.prog 53 #[v, vr, .int .i64 (n : Int)] w fun e w' => ∃ b dv, e = .returned (barv b dv) ∧ b.size = (szsOf l rs).getD n 0 ∧ Below w.heap.size w w' := by
  obtain ⟨q, b', hF⟩ := laid_fact h hn
  obtain ⟨k, j, r, hk, hj, hij⟩ := cum_place hn
  obtain ⟨b, line, ok, turn, hat, c1, c2, hst, hpts⟩ := laid_place h hk hj
  obtain ⟨t, ht, hb, hbm⟩ := lineOf_some line
  obtain ⟨s1, s2, s3, s4, s5⟩ := laid_sum h
  obtain ⟨ao, cap, rfl⟩ := hp.at_
  obtain ⟨bb, off, rfl, hbl, x0, x1, x2, x3, uo, uc, x4, hdx⟩ := bars_get hp hb
  refine (rbar_any bb off cap vr l rs n k j r b uo uc t w hp hr hl s2 s3 hn (by omega) hk hj hij ht hb x4).mono fun e w' ⟨h1, h2⟩ => ⟨b, _, h1, ?_, h2⟩
  have hm : (laidMarks rs)[n]? = some r.mark := by rw [hij]; exact laidMarks_at hk hj
  have hm2 : b'.mark = r.mark := Option.some.inj (hF.mark.symm.trans hm)
  obtain ⟨t', ht', hb'⟩ := hF.find
  rw [hm2, ht] at ht'
  have : t = t' := by omega
  subst this
  rw [hb] at hb'
  cases hb'
  exact hF.sat.symm
set_option maxHeartbeats 1000000 in
theorem bnear_any (v vr : Value) (l : List BarD) (rs : List RunD) (i k : Nat) (a b : Bx) (w : World) (hp : Bars w v l) (hr : Runs w vr rs) (hl : l.length ≤ 140737488355328) (h : laidOk l rs = true) (hi : i < (lgsOf l rs).length) (hk : k < (lgsOf l rs).length) (ha : bxOk a = true) (hb : bxOk b = true) :
    Calls Try.prog 15 #[v, vr, .int .i64 (i : Int), .int .i64 (k : Int), bxv a, bxv b] w fun e w' =>
      e = .returned (.bool (tooNear (((szsOf l rs).getD i 0 + (szsOf l rs).getD k 0) * ((szsOf l rs).getD i 0 + (szsOf l rs).getD k 0)) a b)) ∧ Below w.heap.size w w' := by
  have HSQ := Lib.hid (fun W => square_any a b W ha hb)
  have HBI := Lib.hid (fun W (hW : Below w.heap.size w W) => rbarS_any v vr l rs i W (hp.below hW) (hr.below hW) hl h (by rwa [lgsOf_len] at hi))
  have HBK := Lib.hid (fun W (hW : Below w.heap.size w W) => rbarS_any v vr l rs k W (hp.below hW) (hr.below hW) hl h (by rwa [lgsOf_len] at hk))
  obtain ⟨d0, d1⟩ := (lzOk_of h).size i hi
  obtain ⟨e0, e1⟩ := (lzOk_of h).size k hk
  obtain ⟨s0, s1⟩ := sq_bound ha hb
  obtain ⟨need, hneed⟩ : ∃ n, ((szsOf l rs).getD i 0 + (szsOf l rs).getD k 0) * ((szsOf l rs).getD i 0 + (szsOf l rs).getD k 0) = n := ⟨_, rfl⟩
  have HT : Hid (tooNear need a b = decide (4 * sqN a b 3 < need)) := rfl
  rw [hneed, HT.out]
  generalize (szsOf l rs).getD i 0 = di at *
  generalize (szsOf l rs).getD k 0 = dk at *
  have hn0 : 0 ≤ need ∧ need ≤ 400000000 := by
    have h1 := sq_mono (show (0 : Int) ≤ 0 by omega) (show (0 : Int) ≤ di + dk by omega)
    have h2 := sq_mono (show 0 ≤ di + dk by omega) (show di + dk ≤ 20000 by omega)
    omega
  obtain ⟨n0, n1⟩ := hn0
  generalize sqN a b 3 = sq at *
  have hb0 : Below w.heap.size w ((w.alloc (.cells (bxCellsA a) 39)).alloc (.cells (bxCellsA b) 39)) := by go_grown
  have HB0 := Lib.hid hb0
  have hfs := field_size
  clear hp hr h hi hk ha hb hb0 HT
  go_enter Try.func15, Try.ntmps15
  go_wp2_with fail
  refine (HSQ.out _).mono ?_
  rintro e w1 ⟨rfl, hb1⟩
  have HB1 := Lib.hid (bstep HB0.out hb1)
  clear hb1
  go_wp2_with fail
  refine (HBI.out _ HB1.out).mono ?_
  rintro e w2 ⟨bi, dvi, rfl, hsi, hb2⟩
  have HB2 := Lib.hid (bstep HB1.out hb2)
  clear hb2
  go_wp2_with fail
  refine (HBK.out _ HB2.out).mono ?_
  rintro e w3 ⟨bk, dvk, rfl, hsk, hb3⟩
  have HB3 := Lib.hid (bstep HB2.out hb3)
  clear hb3
  go_wp2
  go_ret
  exact ⟨rfl, HB3.out⟩
end Go.Proofs.Ytnlloecbjohfdaa
