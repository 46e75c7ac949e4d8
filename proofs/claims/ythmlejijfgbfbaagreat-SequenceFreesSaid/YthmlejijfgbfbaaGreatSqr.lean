/-
  Reference 39: Given, Order, Loop, Sequence, First.
-/
import Derived.Test.YthmlejijfgbfbaaGreatSqx
namespace Go.Proofs.YthmlejijfgbfbaaGreat
section
open Go.RowKit
set_option linter.unusedVariables false
set_option linter.unusedSimpArgs false
attribute [local go_sem ↓] Go.wp_at_zero Go.wp_at_succ

theorem redg39 {v vr xv : Value} {X : List Int} {l : List BarD} {rs : List RunD} {w : World} (hA : SqA w v vr l rs) (hx : Ints w xv X) (hc : sqC l rs X = 0) :
    Calls Tryz.prog 61 #[v, vr, xv] w fun e w' => ∃ ao cap, e = .returned (.slice ao (edgL (lgsOf l rs) (szsOf l rs) X (lgsOf l rs).length (lgsOf l rs).length).length cap) ∧ Dg w' (lgsOf l rs).length (.slice ao (edgL (lgsOf l rs) (szsOf l rs) X (lgsOf l rs).length (lgsOf l rs).length).length cap) (sqEs l rs X) ∧ Below w.heap.size w w' := by
  obtain ⟨hok, he⟩ := sqC_zero hc
  have h14 := hA.h14 hok
  obtain ⟨h1, h2, h3⟩ := edgE_zero he
  refine (redges_any v vr xv X l rs w hA.hp hA.hr hx hA.hl hok h2 h1 h3).mono ?_
  rintro e w' ⟨o, rfl, ho, hb⟩
  obtain ⟨ao, cap, rfl⟩ := ho.out.shape
  exact ⟨ao, cap, rfl, dg_edges ho.out h14, hb⟩
theorem rgvn39_any (v vr xv : Value) (X : List Int) (l : List BarD) (rs : List RunD) (w : World) (hA : SqA w v vr l rs) (hx : Ints w xv X) (hlx : X.length ≤ 1000000) :
    Calls Tryz.prog 58 #[v, vr, xv] w fun e w' => e = .returned (.int .i64 (sqC l rs X)) ∧ Below w.heap.size w w' := by
  have HL := Lib.hid (rallx_any v vr xv X l rs w hA.hp hA.hr hx hA.hl hA.hlr hlx hA.hf)
  by_cases hc : sqC l rs X = 0
  · have hc2 : allE (laidOk l rs) (lgsOf l rs).length X = 0 := hc
    rw [hc2] at HL
    rw [hc]
    have HE := Lib.hid (fun W (hW : Below w.heap.size w W) => redg39 (hA.below hW) (hx.below hW) hc)
    have h14 := hA.h14 (sqC_zero hc).1
    have hEl : (edgL (lgsOf l rs) (szsOf l rs) X (lgsOf l rs).length (lgsOf l rs).length).length ≤ 196 := Nat.le_trans (edgL_len _ _ _ _ _) (Nat.mul_le_mul h14 h14)
    generalize (edgL (lgsOf l rs) (szsOf l rs) X (lgsOf l rs).length (lgsOf l rs).length).length = m at *
    have k1 : decide ((1000 : Int) < (m : Int)) = false := dec_no (by omega)
    have k2 : decide (1000 < m) = false := dec_no (by omega)
    clear hA hx hc hc2 h14
    go_enter Tryz.func58, Tryz.ntmps58
    go_wp2_with fail
    refine HL.out.mono ?_
    rintro e w1 ⟨rfl, hb1⟩
    have HB1 := Lib.hid hb1
    clear hb1 HL
    go_wp2_with fail
    refine (HE.out _ HB1.out).mono ?_
    rintro e w2 ⟨ao, cap, rfl, _, hb2⟩
    have HB2 := Lib.hid (bstep HB1.out hb2)
    clear hb2 HE
    go_wp2
    go_ret
    exact ⟨rfl, HB2.out⟩
  · have hc2 : sqC l rs X = allE (laidOk l rs) (lgsOf l rs).length X := rfl
    rw [← hc2] at HL
    generalize sqC l rs X = c at *
    have hb : (c != 0) = true := bne_yes hc
    clear hA hx hc hc2
    go_enter Tryz.func58, Tryz.ntmps58
    go_wp2_with fail
    refine HL.out.mono ?_
    rintro e w1 ⟨rfl, hb1⟩
    have HB1 := Lib.hid hb1
    clear hb1 HL
    go_wp2
    go_ret
    exact ⟨rfl, HB1.out⟩
theorem rcnt39 {v vr : Value} {l : List BarD} {rs : List RunD} {w : World} (hA : SqA w v vr l rs) (hok : laidOk l rs = true) :
    Calls Tryz.prog 60 #[vr] w fun e w' => e = .returned (.int .i64 ((lgsOf l rs).length : Int)) ∧ w = w' := by
  obtain ⟨s1, s2, s3, s4, s5⟩ := laid_sum hok
  have := rcount_any vr rs w hA.hr (by omega) s4
  rw [← s1, ← lgsOf_len l rs] at this
  exact this
theorem rord39_any (v vr xv : Value) (X : List Int) (l : List BarD) (rs : List RunD) (w : World) (hA : SqA w v vr l rs) (hx : Ints w xv X) (hlx : X.length ≤ 1000000) :
    Calls Tryz.prog 21 #[v, vr, xv] w (LPost w (sqOrd (sqC l rs X) (lgsOf l rs).length (sqEs l rs X))) := by
  have HL := Lib.hid (rgvn39_any v vr xv X l rs w hA hx hlx)
  by_cases hc : sqC l rs X = 0
  · have HE := Lib.hid (fun W (hW : Below w.heap.size w W) => redg39 (hA.below hW) (hx.below hW) hc)
    have HC := Lib.hid (fun W (hW : Below w.heap.size w W) => rcnt39 (hA.below hW) (sqC_zero hc).1)
    rw [hc] at HL ⊢
    generalize (edgL (lgsOf l rs) (szsOf l rs) X (lgsOf l rs).length (lgsOf l rs).length).length = m at *
    generalize sqEs l rs X = es at *
    generalize (lgsOf l rs).length = n at *
    have HT := Lib.hid (fun o w1 (hd : Dg w1 n o es) => rorder_any n o es w1 hd)
    unfold ROrderPost at HT
    clear hA hx hc
    cases ho : orderOf n es with
    | none =>
      have HR : Hid (sqOrd 0 n es = (23, [])) := by unfold Hid sqOrd; rw [if_pos rfl, ho]
      rw [HR.out]
      rw [ho] at HT
      clear ho HR
      go_enter Tryz.func21, Tryz.ntmps21
      go_wp2_with fail
      refine HL.out.mono ?_
      rintro e w1 ⟨rfl, hb1⟩
      have HB1 := Lib.hid hb1
      clear hb1 HL
      go_wp2_with fail
      refine (HC.out _ HB1.out).mono ?_
      rintro e w2 ⟨rfl, rfl⟩
      clear HC
      go_wp2_with fail
      refine (HE.out _ HB1.out).mono ?_
      rintro e w2 ⟨ao, cap, rfl, hd, hb2⟩
      have HB2 := Lib.hid (bstep HB1.out hb2)
      have HO := Lib.hid (HT.out _ _ hd)
      clear hb2 HE hd HT
      go_wp2_with fail
      refine HO.out.mono ?_
      rintro e w3 ⟨rfl, h3⟩
      have HB3 := Lib.hid (bstep HB2.out h3)
      clear h3 HO
      go_wp2
      go_ret2
      exact ⟨_, rfl, Own.nil _ _ _ _, HB3.out⟩
    | some D =>
      have HR : Hid (sqOrd 0 n es = (0, D)) := by unfold Hid sqOrd; rw [if_pos rfl, ho]
      rw [HR.out]
      rw [ho] at HT
      clear ho HR
      go_enter Tryz.func21, Tryz.ntmps21
      go_wp2_with fail
      refine HL.out.mono ?_
      rintro e w1 ⟨rfl, hb1⟩
      have HB1 := Lib.hid hb1
      clear hb1 HL
      go_wp2_with fail
      refine (HC.out _ HB1.out).mono ?_
      rintro e w2 ⟨rfl, rfl⟩
      clear HC
      go_wp2_with fail
      refine (HE.out _ HB1.out).mono ?_
      rintro e w2 ⟨ao, cap, rfl, hd, hb2⟩
      have HB2 := Lib.hid (bstep HB1.out hb2)
      have HO := Lib.hid (HT.out _ _ hd)
      clear hb2 HE hd HT
      go_wp2_with fail
      refine HO.out.mono ?_
      rintro e w3 ⟨⟨u, rfl, hu⟩, h3⟩
      have HB3 := Lib.hid (bstep HB2.out h3)
      have HU := Lib.hid (hu.mono (HB2.out.size))
      clear h3 HO hu
      go_wp2
      go_ret2
      exact ⟨_, rfl, HU.out, HB3.out⟩
  · have HR : Hid (sqOrd (sqC l rs X) (lgsOf l rs).length (sqEs l rs X) = (sqC l rs X, [])) := if_neg hc
    generalize sqOrd (sqC l rs X) (lgsOf l rs).length (sqEs l rs X) = R at *
    generalize sqC l rs X = c at *
    have hb : (c != 0) = true := bne_yes hc
    clear hA hx hc
    go_enter Tryz.func21, Tryz.ntmps21
    go_wp2_with fail
    refine HL.out.mono ?_
    rintro e w1 ⟨rfl, hb1⟩
    have HB1 := Lib.hid hb1
    clear hb1 HL
    go_wp2
    go_ret2
    exact lpost_nil HR.out HB1.out
theorem loop_pos {n : Nat} {es : List (Nat × Nat)} {D : List Nat} (he : EndsD n es) (h : loopOf n es = some D) : 0 < D.length := (loop_some he (all_far n es) n (Nat.le_refl _) D h).pos
theorem rloop39_any (v vr xv : Value) (X : List Int) (l : List BarD) (rs : List RunD) (w : World) (hA : SqA w v vr l rs) (hx : Ints w xv X) (hlx : X.length ≤ 1000000) :
    Calls Tryz.prog 22 #[v, vr, xv] w (LPost w (sqLop (sqC l rs X) (lgsOf l rs).length (sqEs l rs X))) := by
  have HL := Lib.hid (rgvn39_any v vr xv X l rs w hA hx hlx)
  by_cases hc : sqC l rs X = 0
  · have HE := Lib.hid (fun W (hW : Below w.heap.size w W) => redg39 (hA.below hW) (hx.below hW) hc)
    have HC := Lib.hid (fun W (hW : Below w.heap.size w W) => rcnt39 (hA.below hW) (sqC_zero hc).1)
    rw [hc] at HL ⊢
    have HEN := Lib.hid (edN_ends (lgsOf l rs) (szsOf l rs) X (lgsOf l rs).length)
    generalize (edgL (lgsOf l rs) (szsOf l rs) X (lgsOf l rs).length (lgsOf l rs).length).length = m at *
    unfold sqEs at *
    generalize edN (lgsOf l rs) (szsOf l rs) X (lgsOf l rs).length = es at *
    generalize (lgsOf l rs).length = n at *
    have HT := Lib.hid (fun o w1 (hd : Dg w1 n o es) => rloop_any n o es w1 hd)
    unfold RLoopPost at HT
    clear hA hx hc
    obtain ⟨R, D, hR, hD, hz⟩ : ∃ (R : Int × List Nat) (D : List Nat), sqLop 0 n es = R ∧ (loopOf n es).getD [] = D ∧ ((D.length = 0 ∧ R = (12, [])) ∨ (0 < D.length ∧ R = (0, D))) := by
      unfold sqLop
      rw [if_pos rfl]
      cases ho : loopOf n es with
      | none => exact ⟨_, _, rfl, rfl, Or.inl ⟨rfl, rfl⟩⟩
      | some D => exact ⟨_, _, rfl, rfl, Or.inr ⟨loop_pos HEN.out ho, rfl⟩⟩
    rw [hR]
    rw [hD] at HT
    clear hR hD HEN
    rcases hz with ⟨hz, rfl⟩ | ⟨hz, rfl⟩
    · obtain rfl : D = [] := List.eq_nil_of_length_eq_zero hz
      clear hz
      go_enter Tryz.func22, Tryz.ntmps22
      go_wp2_with fail
      refine HL.out.mono ?_
      rintro e w1 ⟨rfl, hb1⟩
      have HB1 := Lib.hid hb1
      clear hb1 HL
      go_wp2_with fail
      refine (HC.out _ HB1.out).mono ?_
      rintro e w2 ⟨rfl, rfl⟩
      clear HC
      go_wp2_with fail
      refine (HE.out _ HB1.out).mono ?_
      rintro e w2 ⟨ao, cap, rfl, hd, hb2⟩
      have HB2 := Lib.hid (bstep HB1.out hb2)
      have HO := Lib.hid (HT.out _ _ hd)
      clear hb2 HE hd HT
      go_wp2_with fail
      refine HO.out.mono ?_
      rintro e w3 ⟨u, rfl, hu, h3⟩
      have HB3 := Lib.hid (bstep HB2.out h3)
      obtain ⟨uo, uc, rfl⟩ := hu.shape
      clear h3 HO hu
      go_wp2
      go_ret2
      exact ⟨_, rfl, Own.nil _ _ _ _, HB3.out⟩
    · have d0 : ((D.length : Int) == 0) = false := beq_no (by omega)
      have d1 : ¬ D.length = 0 := by omega
      go_enter Tryz.func22, Tryz.ntmps22
      go_wp2_with fail
      refine HL.out.mono ?_
      rintro e w1 ⟨rfl, hb1⟩
      have HB1 := Lib.hid hb1
      clear hb1 HL
      go_wp2_with fail
      refine (HC.out _ HB1.out).mono ?_
      rintro e w2 ⟨rfl, rfl⟩
      clear HC
      go_wp2_with fail
      refine (HE.out _ HB1.out).mono ?_
      rintro e w2 ⟨ao, cap, rfl, hd, hb2⟩
      have HB2 := Lib.hid (bstep HB1.out hb2)
      have HO := Lib.hid (HT.out _ _ hd)
      clear hb2 HE hd HT
      go_wp2_with fail
      refine HO.out.mono ?_
      rintro e w3 ⟨u, rfl, hu, h3⟩
      have HB3 := Lib.hid (bstep HB2.out h3)
      have HU := Lib.hid (hu.mono (HB2.out.size))
      obtain ⟨uo, uc, rfl⟩ := hu.shape
      clear h3 HO hu
      generalize hDl : D.length = dl at *
      clear hDl
      go_wp2
      go_ret2
      exact ⟨_, rfl, HU.out, HB3.out⟩
  · have HR : Hid (sqLop (sqC l rs X) (lgsOf l rs).length (sqEs l rs X) = (sqC l rs X, [])) := if_neg hc
    generalize sqLop (sqC l rs X) (lgsOf l rs).length (sqEs l rs X) = R at *
    generalize sqC l rs X = c at *
    have hb : (c != 0) = true := bne_yes hc
    clear hA hx hc
    go_enter Tryz.func22, Tryz.ntmps22
    go_wp2_with fail
    refine HL.out.mono ?_
    rintro e w1 ⟨rfl, hb1⟩
    have HB1 := Lib.hid hb1
    clear hb1 HL
    go_wp2
    go_ret2
    exact lpost_nil HR.out HB1.out
/-- The error number of a sequence. -/
def seqE (c : Int) (n : Nat) (q : List Int) : Int := if c = 0 then nodesRes n q else c
theorem rseq39_any (v vr xv qv : Value) (X q : List Int) (l : List BarD) (rs : List RunD) (w : World) (hA : SqA w v vr l rs) (hx : Ints w xv X) (hlx : X.length ≤ 1000000) (hq : Ints w qv q) (hlq : q.length ≤ 1000000) :
    Calls Tryz.prog 64 #[v, vr, xv, qv] w fun e w' => e = .returned (.int .i64 (seqE (sqC l rs X) (lgsOf l rs).length q)) ∧ Below w.heap.size w w' := by
  have HL := Lib.hid (rgvn39_any v vr xv X l rs w hA hx hlx)
  by_cases hc : sqC l rs X = 0
  · have HC := Lib.hid (fun W (hW : Below w.heap.size w W) => rcnt39 (hA.below hW) (sqC_zero hc).1)
    have h14 := hA.h14 (sqC_zero hc).1
    rw [hc] at HL ⊢
    have HR : Hid (seqE 0 (lgsOf l rs).length q = nodesRes (lgsOf l rs).length q) := if_pos rfl
    rw [HR.out]
    have HN := Lib.hid (fun W (hW : Below w.heap.size w W) => rnodes_any (lgsOf l rs).length qv q W (Sl.below hq hW) (by omega) (by omega))
    generalize nodesRes (lgsOf l rs).length q = nr at *
    generalize (lgsOf l rs).length = n at *
    clear hA hx hc hq HR
    go_enter Tryz.func64, Tryz.ntmps64
    go_wp2_with fail
    refine HL.out.mono ?_
    rintro e w1 ⟨rfl, hb1⟩
    have HB1 := Lib.hid hb1
    clear hb1 HL
    go_wp2_with fail
    refine (HC.out _ HB1.out).mono ?_
    rintro e w2 ⟨rfl, rfl⟩
    clear HC
    go_wp2_with fail
    refine (HN.out _ HB1.out).mono ?_
    rintro e w2 ⟨rfl, hb2⟩
    have HB2 := Lib.hid (bstep HB1.out hb2)
    clear hb2
    go_wp2
    go_ret
    exact ⟨rfl, HB2.out⟩
  · have HR : Hid (seqE (sqC l rs X) (lgsOf l rs).length q = sqC l rs X) := if_neg hc
    rw [HR.out]
    generalize sqC l rs X = c at *
    have hb : (c != 0) = true := bne_yes hc
    clear hA hx hc HR
    go_enter Tryz.func64, Tryz.ntmps64
    go_wp2_with fail
    refine HL.out.mono ?_
    rintro e w1 ⟨rfl, hb1⟩
    have HB1 := Lib.hid hb1
    clear hb1 HL
    go_wp2
    go_ret
    exact ⟨rfl, HB1.out⟩

/-! ### First -/
theorem fstR_eq {c : Int} {n : Nat} {es : List (Nat × Nat)} {q : List Int} (h : seqE c n q = 0) : sqFst c n es q = fstV es q n ∧ c = 0 ∧ nodesRes n q = 0 := by
  unfold seqE at h
  by_cases hc : c = 0
  · rw [if_pos hc] at h
    refine ⟨?_, hc, h⟩
    unfold sqFst fstR
    rw [if_pos hc, if_pos h]
  · rw [if_neg hc] at h; exact absurd h hc
theorem fstR_err {c : Int} {n : Nat} {es : List (Nat × Nat)} {q : List Int} (h : seqE c n q ≠ 0) : sqFst c n es q = (0, 0, seqE c n q) := by
  unfold seqE at h ⊢
  unfold sqFst fstR
  by_cases hc : c = 0
  · rw [if_pos hc] at h ⊢
    rw [if_pos hc, if_neg h]
  · rw [if_neg hc] at h ⊢
    rw [if_neg hc]
theorem blk_mem {L : List (List Bx)} {Z : List Int} {X : List Int} {n i k : Nat} (hi : i < n) (hk : k < n) (hne : i ≠ k) : blkAt L Z (X.getD i 0) i k = decide ((i, k) ∈ edN L Z X n) := by
  cases hb : blkAt L Z (X.getD i 0) i k with
  | true => exact (dec_yes (edN_mem.2 ⟨hi, hk, hne, hb⟩)).symm
  | false => exact (dec_no (fun h => by have := (edN_mem.1 h).2.2.2; rw [hb] at this; cases this)).symm
theorem nd_ne {q : List Int} {n i k : Nat} (h : nodesRes n q = 0) (hk : k < i) (hi : i < n) : (q.map Int.toNat).getD i 0 ≠ (q.map Int.toNat).getD k 0 := by
  obtain ⟨l1, l2, l3⟩ := nodes_zero h
  have hnd := (nodup_nat l2).2 l3
  intro e
  have h1 := idx_getD hnd (i := i) (by simp; omega)
  have h2 := idx_getD hnd (i := k) (by simp; omega)
  rw [e] at h1
  omega
theorem nd_lt {q : List Int} {n i : Nat} (h : nodesRes n q = 0) (hi : i < n) : (q.map Int.toNat).getD i 0 < n := by
  obtain ⟨l1, l2, l3⟩ := nodes_zero h
  rw [List.getD_eq_getElem?_getD, List.getElem?_map, List.getElem?_eq_getElem (by omega)]
  simp only [Option.map_some, Option.getD_some]
  have := bad_none l2 _ (List.getElem_mem (show i < q.length by omega))
  omega
set_option maxRecDepth 100000 in
set_option maxHeartbeats 8000000 in
theorem rfst39_any (v vr xv qv : Value) (X q : List Int) (l : List BarD) (rs : List RunD) (w : World) (hA : SqA w v vr l rs) (hx : Ints w xv X) (hlx : X.length ≤ 1000000) (hq : Ints w qv q) (hlq : q.length ≤ 1000000) :
    Calls Tryz.prog 27 #[v, vr, xv, qv] w fun e w' => e = .returned (trip (sqFst (sqC l rs X) (lgsOf l rs).length (sqEs l rs X) q)) ∧ Below w.heap.size w w' := by
  have HS := Lib.hid (rseq39_any v vr xv qv X q l rs w hA hx hlx hq hlq)
  by_cases hc : seqE (sqC l rs X) (lgsOf l rs).length q = 0
  · obtain ⟨hf, hc0, hn0⟩ := fstR_eq (es := sqEs l rs X) hc
    rw [hf]
    rw [hc] at HS
    obtain ⟨hok, he⟩ := sqC_zero hc0
    obtain ⟨hn60, hXl, hXa⟩ := edgE_zero he
    obtain ⟨l1, l2, l3⟩ := nodes_zero hn0
    have HNN := Lib.hid (fun x hx => (bad_none l2 x hx).1 : ∀ x ∈ q, 0 ≤ x)
    obtain ⟨f, hfq⟩ : ∃ f : Nat → Nat, ∀ k, (q.map Int.toNat).getD k 0 = f k := ⟨_, fun _ => rfl⟩
    have HNE : Hid (∀ i k, k < i → i < q.length → f i ≠ f k) := fun i k hk hi => by rw [← hfq, ← hfq]; exact nd_ne hn0 hk (by omega)
    have HLT : Hid (∀ i, i < q.length → f i < (lgsOf l rs).length) := fun i hi => by rw [← hfq]; exact nd_lt hn0 (i := i) (by omega)
    have HQF : Hid (∀ k, k < q.length → q[k]? = some ((f k : Nat) : Int)) := fun k hk => by rw [← hfq]; exact natL_get HNN.out hk
    have HFF := Lib.hid (fst_fn (es := sqEs l rs X) (n := (lgsOf l rs).length) hfq)
    have HBL := Lib.hid (fun (i k : Nat) W (hW : Below w.heap.size w W) (hi : i < (lgsOf l rs).length) (hk : k < (lgsOf l rs).length) => rblk_any v vr i k (X.getD i 0) l rs W (hA.hp.below hW) (hA.hr.below hW) hA.hl hok hi hk (hXa i hi))
    have HBM := Lib.hid (fun (i k : Nat) (hi : i < (lgsOf l rs).length) (hk : k < (lgsOf l rs).length) (hne : i ≠ k) => blk_mem (L := lgsOf l rs) (Z := szsOf l rs) (X := X) hi hk hne)
    have HX := Lib.hid hx
    have HQ := Lib.hid hq
    obtain ⟨xo, xc, rfl⟩ := Sl.at_ hx
    obtain ⟨qo, qc, rfl⟩ := Sl.at_ hq
    unfold sqEs at *
    generalize blkAt (lgsOf l rs) (szsOf l rs) = bk at *
    generalize edN (lgsOf l rs) (szsOf l rs) X (lgsOf l rs).length = es at *
    generalize (lgsOf l rs).length = n at *
    have HNQ := Lib.hid l1
    have HXL := Lib.hid hXl
    clear hA hx hc hq hf hc0 hn0 hok he hn60 hXa l1 l2 l3 hXl hfq
    go_enter Tryz.func27, Tryz.ntmps27
    go_wp2_with fail
    refine HS.out.mono ?_
    rintro e w1 ⟨rfl, hb1⟩
    have HB1 := Lib.hid hb1
    clear hb1 HS
    go_wp2_with fail
    go_loopw [12] (fun i wr => ∃ k : Nat, k ≤ q.length ∧ i = .int .i64 (k : Int) ∧ Below w1.heap.size w1 wr ∧ Hid (∀ a b, b < a → a < k → (f a, f b) ∉ es)) (fun i _ => q.length - (intOf i).toNat)
    case atStart => exact ⟨0, Nat.zero_le _, rfl, Below.refl _ _, fun a b _ h => by omega⟩
    case round =>
      obtain ⟨i, hi, rfl, hBr, HNO⟩ := hrel
      obtain ⟨wo, rfl⟩ : ∃ wo : World, wo = wr := ⟨_, rfl⟩
      have HBo := Lib.hid hBr
      clear hBr
      by_cases hi2 : i < q.length
      · go_wp2_with fail
        go_loopw [13] (fun i' wr => ∃ k : Nat, k ≤ i ∧ i' = .int .i64 (k : Int) ∧ Below w1.heap.size w1 wr ∧ Hid (∀ b, b < k → (f i, f b) ∉ es)) (fun i' _ => i - (intOf i').toNat)
        case atStart => exact ⟨0, Nat.zero_le _, rfl, HBo.out, fun b h => by omega⟩
        case round =>
          clear HBo
          obtain ⟨k, hk, rfl, hBr, HNI⟩ := hrel
          have HB := Lib.hid hBr
          clear hBr
          by_cases hk2 : k < i
          · have HQr := Lib.hid (Sl.below HQ.out (bstep HB1.out HB.out))
            obtain ⟨qb, qoff, rfl, hqb, g0⟩ := zints_get HQr.out (HQF.out i hi2)
            obtain ⟨qb', qoff', he', hqb', g1⟩ := zints_get HQr.out (HQF.out k (by omega))
            cases he'
            have hqi := HLT.out i hi2
            have hqk := HLT.out k (by omega)
            have hqne := HNE.out i k hk2 hi2
            have HFY := Lib.hid (fun h => HFF.out.2 i k HNO.out HNI.out hk2 (by have := HNQ.out; omega) h)
            have HNI2 := Lib.hid (fun (h : (f i, f k) ∉ es) => (fun b hb => by
              by_cases e : b = k
              · subst e; exact h
              · exact HNI.out b (by omega) : ∀ b, b < k + 1 → (f i, f b) ∉ es))
            generalize f i = qi at *
            generalize f k = qk at *
            have hqi2 : qi < n := by have := HNQ.out; omega
            have hqk2 : qk < n := by have := HNQ.out; omega
            obtain ⟨xb, xoff, rfl, hxb, g2⟩ := zints_get (Sl.below HX.out (bstep HB1.out HB.out)) (show X[qi]? = some (X.getD qi 0) by rw [List.getD_eq_getElem?_getD, List.getElem?_eq_getElem (by have := HXL.out; omega)]; rfl)
            have HBK := Lib.hid (fun W hW => HBL.out qi qk W hW hqi2 hqk2)
            rw [HBM.out qi qk hqi2 hqk2 hqne] at HBK
            have k0 : (0 : Int) ≤ (i : Int) := Int.natCast_nonneg _
            have k1 : (i : Int) < (q.length : Int) := by omega
            have k2 : (0 : Int) ≤ (k : Int) := Int.natCast_nonneg _
            have k3 : (k : Int) < (q.length : Int) := by omega
            have k4 : (0 : Int) ≤ (qi : Int) := Int.natCast_nonneg _
            have k5 : (qi : Int) < (X.length : Int) := by have := HXL.out; omega
            have G0 := Lib.hid g0
            have G1 := Lib.hid g1
            have g0 := fun d os => cell_regrown g0 d os
            have g1 := fun d os => cell_regrown g1 d os
            have g2 := fun d os => cell_regrown g2 d os
            clear hqne
            by_cases hm : (qi, qk) ∈ es
            · rw [dec_yes hm] at HBK
              have HV := Lib.hid (HFY.out hm)
              clear HFY HNI2 hm
              go_wp2_with fail
              refine wp_region_quiet_below (by kernel_rfl) (by kernel_rfl) ?_
              repeat (go_big_quiet_step ((first
                | (go_at_call 65; exact Calls.regrown_of (HBK.out _ (bstep HB1.out (bstep HB.out (below_regrown _ _ _))))))))
              refine wpQuiet_nil ?_
              intro _ hw'
              obtain ⟨⟨nq, osq⟩, hw''⟩ := hw'
              subst hw''
              have HB3 := Lib.hid (bstep HB1.out (bstep HB.out (below_regrown wr nq osq)))
              have g0 := cell_regrown G0.out nq osq
              have g1 := cell_regrown G1.out nq osq
              clear g2
              generalize Go.Sort.grow (redrawn wr nq) osq = w3 at *
              have g0 := fun d os => cell_regrown g0 d os
              have g1 := fun d os => cell_regrown g1 d os
              go_wp2_with fail
              refine wp_region_quiet_below (by kernel_rfl) (by kernel_rfl) ?_
              repeat (go_big_quiet_step ((first
                | fail)))
              refine wpQuiet_nil ?_
              intro _ hw'
              obtain ⟨⟨nq, osq⟩, hw''⟩ := hw'
              subst hw''
              have HB4 := Lib.hid (bstep HB3.out (below_regrown w3 nq osq))
              clear g0 g1
              generalize Go.Sort.grow (redrawn w3 nq) osq = w4 at *
              go_wp2
              (try rw [Exit.noGoto_ret])
              exact bodyPost_ret (v := .tuple #[.int .i64 (qi : Int), .int .i64 (qk : Int), .int .i64 0]) (by simp [results, Tryz.results27, go_sem]) rfl ⟨by rw [HV.out], HB4.out⟩
            · rw [dec_no hm] at HBK
              have HN := Lib.hid (HNI2.out hm)
              clear HFY HNI2 hm
              go_wp2_with fail
              refine wp_region_quiet_below (by kernel_rfl) (by kernel_rfl) ?_
              repeat (go_big_quiet_step ((first
                | (go_at_call 65; exact Calls.regrown_of (HBK.out _ (bstep HB1.out (bstep HB.out (below_regrown _ _ _))))))))
              refine wpQuiet_nil ?_
              intro _ hw'
              obtain ⟨⟨nq, osq⟩, hw''⟩ := hw'
              subst hw''
              have HB3 := Lib.hid (bstep HB.out (below_regrown wr nq osq))
              clear g0 g1 g2
              generalize Go.Sort.grow (redrawn wr nq) osq = w3 at *
              go_wp2
              go_roundw
              case rel => exact ⟨k + 1, by omega, by go_num, HB3.out, HN.out⟩
              case measure => simp [intOf]; omega
          · obtain rfl : k = i := by omega
            go_wp2
            go_roundw
            case rel => exact ⟨k + 1, by omega, by go_num, HB.out, fun a b hab ha => by
              by_cases e : a = k
              · subst e; exact HNI.out b hab
              · exact HNO.out a b hab (by omega)⟩
            case measure => simp [intOf]; omega
      · obtain rfl : i = q.length := by omega
        have HV := Lib.hid (HFF.out.1 (fun a b hab ha => HNO.out a b hab (by have := HNQ.out; omega)))
        go_wp2
        exact bodyPost_ret (v := .tuple #[.int .i64 0, .int .i64 0, .int .i64 12]) (by simp [results, Tryz.results27, go_sem]) rfl ⟨by rw [HV.out], bstep HB1.out HBo.out⟩
  · rw [fstR_err hc]
    generalize seqE (sqC l rs X) (lgsOf l rs).length q = c at *
    have hb : (c != 0) = true := bne_yes hc
    clear hA hx hc hq
    go_enter Tryz.func27, Tryz.ntmps27
    go_wp2_with fail
    refine HS.out.mono ?_
    rintro e w1 ⟨rfl, hb1⟩
    have HB1 := Lib.hid hb1
    clear hb1 HS
    go_wp2
    exact bodyPost_ret (v := .tuple #[.int .i64 0, .int .i64 0, .int .i64 c]) (by simp [results, Tryz.results27, go_sem]) rfl ⟨rfl, HB1.out⟩
end
end Go.Proofs.YthmlejijfgbfbaaGreat
