/-
  The walk of SequenceThreads (printed by wip/gen_Sqz.py).
-/
import Derived.Test.YthmlejijfgbfbaaGreatSqe
namespace Go.Proofs.YthmlejijfgbfbaaGreat
section
open Go.RowKit
set_option linter.unusedVariables false
set_option linter.unusedSimpArgs false
attribute [local go_sem ↓] Go.wp_at_zero Go.wp_at_succ

/-- What blocks the bar at a place: the first of those ahead, or none. -/
theorem blk_row {L : List (List Bx)} {Z X : List Int} {q : List Int} {n k : Nat} {f : Nat → Nat} (hf : ∀ k, (q.map Int.toNat).getD k 0 = f k) (hn : nodesRes n q = 0) (hk : k < n) :
    (blkL L Z (X.getD (f k) 0) (f k) (q.take k) = [] ∧ ∀ b, b < k → (f k, f b) ∉ edN L Z X n) ∨
    ∃ b R, b < k ∧ (∀ c, c < b → (f k, f c) ∉ edN L Z X n) ∧ (f k, f b) ∈ edN L Z X n ∧ blkL L Z (X.getD (f k) 0) (f k) (q.take k) = ((f b : Nat) : Int) :: R := by
  obtain ⟨l1, l2, l3⟩ := nodes_zero hn
  have hget : ∀ b, b < n → q[b]? = some ((f b : Nat) : Int) := fun b hb => by rw [← hf]; exact natL_get (fun x hx => (bad_none l2 x hx).1) (by omega)
  have hmem : ∀ b, b < k → (blkAt L Z (X.getD (f k) 0) (f k) (f b) = true ↔ (f k, f b) ∈ edN L Z X n) := fun b hb => by
    have h1 := nd_ne hn hb hk
    have h2 := nd_lt hn hk
    have h3 := nd_lt hn (show b < n by omega)
    rw [hf, hf] at h1
    rw [hf] at h2 h3
    rw [blk_mem h2 h3 h1, decide_eq_true_eq]
  have hno : ∀ m, m ≤ k → (∀ c, c < m → (f k, f c) ∉ edN L Z X n) → blkL L Z (X.getD (f k) 0) (f k) (q.take m) = [] := by
    intro m hm hc
    unfold blkL
    rw [List.filter_eq_nil_iff]
    intro y hy
    obtain ⟨j, hj, hj2⟩ := List.mem_take_iff_getElem.1 hy
    have h1 := hget j (by omega)
    rw [List.getElem?_eq_getElem (by omega), hj2] at h1
    have h2 : y = ((f j : Nat) : Int) := Option.some.inj h1
    rw [h2, Int.toNat_natCast]
    intro h3
    exact hc j (by omega) ((hmem j (by omega)).1 h3)
  by_cases hex : ∃ b, b < k ∧ (f k, f b) ∈ edN L Z X n
  · right
    obtain ⟨b, ⟨hb, hbm⟩, hmin⟩ := least_ex (P := fun b => b < k ∧ (f k, f b) ∈ edN L Z X n) hex
    have hc : ∀ c, c < b → (f k, f c) ∉ edN L Z X n := fun c hc hm => hmin c hc ⟨by omega, hm⟩
    have e1 : q.take k = q.take b ++ ((f b : Nat) : Int) :: (q.take k).drop (b + 1) := by
      have h1 := List.take_append_drop b (q.take k)
      rw [List.take_take, Nat.min_eq_left (by omega)] at h1
      have h2 : b < (q.take k).length := by rw [List.length_take]; omega
      rw [List.drop_eq_getElem_cons h2, List.getElem_take] at h1
      have h3 := hget b (by omega)
      rw [List.getElem?_eq_getElem (by omega)] at h3
      rw [Option.some.inj h3] at h1
      exact h1.symm
    refine ⟨b, blkL L Z (X.getD (f k) 0) (f k) ((q.take k).drop (b + 1)), hb, hc, hbm, ?_⟩
    have h4 := hno b (by omega) hc
    unfold blkL at h4 ⊢
    conv => lhs; rw [e1]
    rw [List.filter_append, h4, List.nil_append, List.filter_cons_of_pos]
    rw [Int.toNat_natCast]
    exact (hmem b hb).2 hbm
  · left
    have hc : ∀ b, b < k → (f k, f b) ∉ edN L Z X n := fun b hb hm => hex ⟨b, hb, hm⟩
    exact ⟨hno k (Nat.le_refl _) hc, hc⟩
theorem oth_row {q : List Int} {n k : Nat} {f : Nat → Nat} {x : Int} (hf : ∀ k, (q.map Int.toNat).getD k 0 = f k) (hn : nodesRes n q = 0) (hk : k < n) (hx : axB x = true) : othE n ((f k : Nat) : Int) x (q.take k) = 0 := by
  obtain ⟨l1, l2, l3⟩ := nodes_zero hn
  have hget : q[k]? = some ((f k : Nat) : Int) := by rw [← hf]; exact natL_get (fun x hx => (bad_none l2 x hx).1) (by omega)
  refine othE_ok ?_ hx ?_
  · rw [List.all_eq_true]
    intro y hy
    have hyq : y ∈ q := by
      rcases List.mem_cons.1 hy with rfl | h
      · exact List.mem_of_getElem? hget
      · exact List.mem_of_mem_take h
    have := bad_none l2 y hyq
    unfold inR
    exact dec_yes (by omega)
  · have h1 : (q.take (k + 1)).Nodup := l3.sublist (List.take_sublist _ _)
    rw [List.take_succ_eq_append_getElem (by omega)] at h1
    have h2 : q[k]'(by omega) = ((f k : Nat) : Int) := by
      rw [List.getElem?_eq_getElem (by omega)] at hget
      exact Option.some.inj hget
    rw [h2, List.nodup_append] at h1
    rw [List.nodup_cons]
    exact ⟨fun hm => h1.2.2 _ hm _ (List.mem_singleton.2 rfl) rfl, h1.1⟩
theorem fst_chk2 {n : Nat} {es : List (Nat × Nat)} {q : List Int} {f : Nat → Nat} (he : EndsD n es) (hs : ∀ x, (x, x) ∉ es) (hn : nodesRes n q = 0) (hf : ∀ k, (q.map Int.toNat).getD k 0 = f k) :
    ((∀ a b, b < a → a < n → (f a, f b) ∉ es) → (chkRes n es q).1 = true) ∧ ∀ i k, k < i → i < n → (f i, f k) ∈ es → (chkRes n es q).1 = false := by
  have h := fst_chk he hs hn
  rw [fstE_none] at h
  constructor
  · intro h1
    exact h.2 (fun i k hk hi => by rw [hf, hf]; exact h1 i k hk hi)
  · intro i k hk hi hm
    cases hc : (chkRes n es q).1 with
    | false => rfl
    | true =>
      have := h.1 hc i k hk hi
      rw [hf, hf] at this
      exact absurd hm this
/-- The bars ahead that block one, asked of package block. -/
theorem sblkd_any (v vr tv : Value) (X T : List Int) (k : Nat) (l : List BarD) (rs : List RunD) (w : World) (hA : SqA w v vr l rs) (hc : sqC l rs X = 0) (ht : Ints w tv T) (hlt : T.length ≤ 1000000) (ho : othE (lgsOf l rs).length (k : Int) (X.getD k 0) T = 0) :
    Calls Tryz.prog 31 #[v, vr, .int .i64 (k : Int), .int .i64 (X.getD k 0), tv] w fun e w' => ∃ o, e = .returned (.tuple #[o, .int .i64 0]) ∧ Hid (OwnI w' w.heap.size o (blkL (lgsOf l rs) (szsOf l rs) (X.getD k 0) k T)) ∧ Below w.heap.size w w' := by
  obtain ⟨hok, he⟩ := sqC_zero hc
  have := blockedI_good v vr (k : Int) (X.getD k 0) tv T l rs w hA.hp hA.hr ht hA.hl hA.hlr hlt hA.hf hok
  rw [ho] at this
  refine this.mono ?_
  rintro e w' ⟨o, rfl, h1, _, h3⟩
  exact ⟨o, rfl, h1 rfl, h3⟩
set_option maxRecDepth 100000 in
set_option maxHeartbeats 8000000 in
theorem sequenceThreads_walk (w : World) (v : Value) (l : List BarD) (hp : Bars w v l) (hf : FitB l) (hl : l.length * 64 ≤ 140737488351232) (vr : Value) (rs : List RunD) (hr : Runs w vr rs) (hm : ∀ r ∈ rs, r.mark.size ≤ maxLen) (hlr : rs.length * 88 ≤ 140737488351232)
    (xv : Value) (X : List Int) (hx : Ints w xv X) (hlx : X.length * 8 ≤ 140737488351232) (wx : ∀ x ∈ X, (Lit.int .i64 x).wf = true)
    (qv : Value) (q : List Int) (hq : Ints w qv q) (hlq : q.length * 8 ≤ 140737488351232) (wq : ∀ x ∈ q, (Lit.int .i64 x).wf = true) (hcp : Caps qv) :
    Calls Tryz.prog 7 #[v, vr, xv, qv] w fun en w' => en = .returned (.bool true) ∧ Below w.heap.size w w' := by
  have hl2 : l.length ≤ 140737488355328 := by omega
  have hlr2 : rs.length ≤ 140737488355328 := by omega
  have HP := Lib.hid hp
  have HR := Lib.hid hr
  have HFI := Lib.hid hf
  have HX := Lib.hid hx
  obtain ⟨xo, xc, rfl⟩ := Sl.at_ hx
  have HQ := Lib.hid hq
  have HCP := Lib.hid hcp
  obtain ⟨qo, qc, rfl⟩ := Sl.at_ hq
  have HRD := Lib.hid (fun W (hW : Below w.heap.size w W) => sready_any v vr (.slice xo X.length xc) X l rs W (hp.below hW) (hr.below hW) hl2 hlr2 hf (HX.out.below hW) (by omega))
  clear hp hr hf hl hlr hm wx hx hq wq hcp
  go_enter Tryz.func7, Tryz.ntmps7
  go_wp2_with fail
  refine (sawake_any _).mono ?_
  rintro en w1 ⟨rfl, hb1⟩
  have HW1 := Lib.hid hb1
  clear hb1
  go_wp2_with fail
  refine (HRD.out _ HW1.out).mono ?_
  rintro en w2 ⟨b, rfl, hb2, hq2⟩
  have HW2 := Lib.hid (bstep HW1.out hb2)
  have HQ2 := Lib.hid hq2
  clear hb2 hq2 HW1 HRD
  cases b
  · go_wp2
    go_ret
    exact ⟨rfl, HW2.out⟩
  · by_cases h71 : 70 < q.length
    · have d3 : decide ((70 : Int) < (q.length : Int)) = true := dec_yes (by omega)
      have d4 : decide (70 < q.length) = true := dec_yes h71
      go_wp2
      go_ret
      exact ⟨rfl, HW2.out⟩
    · have d3 : decide ((70 : Int) < (q.length : Int)) = false := dec_no (by omega)
      have d4 : decide (70 < q.length) = false := dec_no h71
      obtain ⟨hA1, hX70, hc0⟩ := HQ2.out (by simp)
      have HA : Hid (SqA w v vr l rs) := ⟨HP.out, HR.out, hl2, hlr2, HFI.out, hA1.h14⟩
      have hx5 : X.length ≤ 140737488355328 := by omega
      have hq5 : q.length ≤ 140737488355328 := by omega
      have G3 := Lib.hid (fun W (hW : Below w.heap.size w W) => scheck_any v vr (.slice xo X.length xc) (.slice qo q.length qc) X q l rs W (HA.out.below hW) (HX.out.below hW) hx5 (HQ.out.below hW) hq5)
      have G4 := Lib.hid (fun W (hW : Below w.heap.size w W) => sfirst_any v vr (.slice xo X.length xc) (.slice qo q.length qc) X q l rs W (HA.out.below hW) (HX.out.below hW) hx5 (HQ.out.below hW) hq5 HCP.out)
      have HBD := Lib.hid (fun tv T (k : Nat) W (hW : Below w.heap.size w W) (ht : Ints W tv T) hlt ho => sblkd_any v vr tv X T k l rs W (HA.out.below hW) hc0 ht hlt ho)
      obtain ⟨hok, he⟩ := sqC_zero hc0
      have h14 := hA1.h14 hok
      obtain ⟨_, hXl, hXa⟩ := edgE_zero he
      have HXL := Lib.hid hXl
      have HXA := Lib.hid hXa
      have HEN := Lib.hid (edN_ends (lgsOf l rs) (szsOf l rs) X (lgsOf l rs).length)
      have HSF : Hid (∀ x, (x, x) ∉ edN (lgsOf l rs) (szsOf l rs) X (lgsOf l rs).length) := fun x => edN_self
      have HBR := Lib.hid (fun (f : Nat → Nat) (k : Nat) (hf : ∀ k, (q.map Int.toNat).getD k 0 = f k) (hn : nodesRes (lgsOf l rs).length q = 0) (hk : k < (lgsOf l rs).length) => blk_row (L := lgsOf l rs) (Z := szsOf l rs) (X := X) (q := q) (k := k) hf hn hk)
      rw [hc0] at G3 G4
      unfold sqChk at G3
      unfold sqFst at G4
      simp only [if_pos] at G3 G4
      unfold sqEs at *
      generalize blkL (lgsOf l rs) (szsOf l rs) = bl at *
      generalize edN (lgsOf l rs) (szsOf l rs) X (lgsOf l rs).length = es at *
      generalize (lgsOf l rs).length = n at *
      clear HQ2 hA1 hc0 hok he hXl hXa
      unfold fstR at G4
      have HCN := Lib.hid (chk_nodes n es q)
      by_cases hn : nodesRes n q = 0
      · rw [if_pos hn] at G4
        obtain ⟨f, hf⟩ : ∃ f : Nat → Nat, ∀ k, (q.map Int.toNat).getD k 0 = f k := ⟨_, fun _ => rfl⟩
        have HFF := Lib.hid (fst_fn (es := es) (n := n) hf)
        have HFC := Lib.hid (fst_chk2 HEN.out HSF.out hn hf)
        have HBR2 := Lib.hid (fun k hk => HBR.out f k hf hn hk)
        have HOR := Lib.hid (fun k x (hk : k < n) (hx : axB x = true) => oth_row hf hn hk hx)
        obtain ⟨l1, l2, l3⟩ := nodes_zero hn
        have HQF : Hid (∀ k, k < q.length → q[k]? = some ((f k : Nat) : Int)) := fun k hk => by rw [← hf]; exact natL_get (fun x hx => (bad_none l2 x hx).1) hk
        have HLT : Hid (∀ k, k < q.length → f k < n) := fun k hk => by rw [← hf]; exact nd_lt hn (by omega)
        have HNQ := Lib.hid l1
        obtain ⟨sa, sc, hS⟩ : ∃ sa sc, chkRes n es q = (sa, sc) := ⟨_, _, rfl⟩
        obtain ⟨ra, rb, rc, hT⟩ : ∃ ra rb rc, fstV es q n = (ra, rb, rc) := ⟨_, _, _, rfl⟩
        have hsc : sc = 0 := by rw [← hn, ← HCN.out, hS]
        subst hsc
        rw [hS] at G3 HFC
        rw [hT] at G4 HFF
        simp only at HFC
        clear HCN hS hT hn hf l1 l2 l3 HBR HSF HEN
        go_wp2_with fail
        refine (G3.out _ HW2.out).mono ?_
        rintro en w3 ⟨rfl, hb⟩
        have HW3 := Lib.hid (bstep HW2.out hb)
        clear hb HW2 G3
        go_wp2_with fail
        refine (G4.out _ HW3.out).mono ?_
        rintro en w4 ⟨rfl, hb⟩
        have HW4 := Lib.hid (bstep HW3.out hb)
        clear hb HW3 G4
        go_wp2_with fail
        go_loopw [54] (fun i wr => ∃ k : Nat, k ≤ q.length ∧ i = .int .i64 (k : Int) ∧ Below w4.heap.size w4 wr ∧ Hid (∀ a b, b < a → a < k → (f a, f b) ∉ es)) (fun i _ => q.length - (intOf i).toNat)
        case atStart => exact ⟨0, Nat.zero_le _, rfl, Below.refl _ _, fun a b _ h => by omega⟩
        case round =>
          obtain ⟨k, hk, rfl, hBr, HNO⟩ := hrel
          have HB := Lib.hid hBr
          clear hBr
          by_cases hk2 : k < q.length
          · have hkn : k < n := by have := HNQ.out; omega
            have HQr := Lib.hid (HQ.out.below (bstep HW4.out HB.out))
            obtain ⟨qb, qoff, rfl, hqb, g0⟩ := zints_get HQr.out (HQF.out k hk2)
            obtain ⟨po, pc, hsl, hpt⟩ := part_of HQr.out (capsLe HCP.out) k (by omega)
            have HPT := Lib.hid hpt
            have hfn := HLT.out k hk2
            obtain ⟨xb, xoff, rfl, hxb, g2⟩ := zints_get (HX.out.below (bstep HW4.out HB.out)) (show X[f k]? = some (X.getD (f k) 0) by rw [List.getD_eq_getElem?_getD, List.getElem?_eq_getElem (by have := HXL.out; omega)]; rfl)
            have HRR := Lib.hid (HBR2.out k hkn)
            have HBD2 := Lib.hid (fun W (hW : Below w.heap.size w W) (ht : Ints W (.slice po k pc) (q.take k)) => HBD.out (.slice po k pc) (q.take k) (f k) W hW ht (by rw [List.length_take]; omega) (HOR.out k _ hkn (HXA.out (f k) (by omega))))
            have x1 : decide (((f k : Nat) : Int) < 0) = false := dec_no (by omega)
            have x2 : decide ((X.length : Int) ≤ ((f k : Nat) : Int)) = false := dec_no (by have := HXL.out; omega)
            have x3 : decide (X.length ≤ f k) = false := dec_no (by have := HXL.out; omega)
            have x4 : f k < X.length := by have := HXL.out; omega
            have x5 : ((f k : Nat) : Int) < (X.length : Int) := by omega
            have x6 : (0 : Int) ≤ ((f k : Nat) : Int) := by omega
            have HFI1 := Lib.hid (fun b (h : ∀ c, c < b → (f k, f c) ∉ es) (hb : b < k) (hm : (f k, f b) ∈ es) => And.intro (HFF.out.2 k b HNO.out h hb hkn hm) (HFC.out.2 k b hb hkn hm))
            generalize X.getD (f k) 0 = ax at *
            generalize bl ax (f k) (q.take k) = R at *
            generalize hfk : f k = fk at *
            have HFK := Lib.hid hfk
            have G2 : Hid (wr.drew.cell? ⟨xb, xoff + fk, none⟩ = some (.int .i64 ax)) := g2
            clear hfk g2
            have HBD := HBD2
            go_wp2_with fail
            refine wp_region_held_drew (S := fun W => W.cell? ⟨xb, xoff + fk, none⟩ = some (.int .i64 ax)) (by kernel_rfl) G2.out (fun hS => ?_)
            refine wpAnyH_takeV (i := 0) (some 68) v rfl rfl (by kernel_rfl) (fun _ _ _ h => h) (Or.inl ⟨by rfl, (fun W _ => by rfl)⟩) hS ?_
            simp only [Act.put, List.setIfInBounds_toArray, List.set_cons_zero, List.set_cons_succ]
            refine wpAnyH_takeV (i := 1) (some 69) vr rfl rfl (by kernel_rfl) (fun _ _ _ h => h) (Or.inl ⟨by rfl, (fun W _ => by rfl)⟩) hS ?_
            simp only [Act.put, List.setIfInBounds_toArray, List.set_cons_zero, List.set_cons_succ]
            refine wpAnyH_takeV (i := 2) (some 70) (.int .i64 (fk : Int)) rfl rfl (by kernel_rfl) (fun _ _ _ h => h) (Or.inl ⟨by rfl, (fun W _ => by rfl)⟩) hS ?_
            simp only [Act.put, List.setIfInBounds_toArray, List.set_cons_zero, List.set_cons_succ]
            refine wpAnyH_takeV (i := 3) (some 71) (.slice (some ⟨xb, xoff, none⟩) X.length xc) rfl rfl (by kernel_rfl) (fun _ _ _ h => h) (Or.inl ⟨by rfl, (fun W _ => by rfl)⟩) hS ?_
            simp only [Act.put, List.setIfInBounds_toArray, List.set_cons_zero, List.set_cons_succ]
            refine wpAnyH_takeV (i := 4) (some 72) (.int .i64 (fk : Int)) rfl rfl (by kernel_rfl) (fun _ _ _ h => h) (Or.inl ⟨by rfl, (fun W _ => by rfl)⟩) hS ?_
            simp only [Act.put, List.setIfInBounds_toArray, List.set_cons_zero, List.set_cons_succ]
            refine wpAnyH_takeV (i := 5) (some 73) (.pointer (some ⟨xb, xoff + fk, none⟩)) rfl rfl (by kernel_rfl) (fun _ _ _ h => h) (Or.inl ⟨by rfl, (by intro W hW; go_simp)⟩) hS ?_
            simp only [Act.put, List.setIfInBounds_toArray, List.set_cons_zero, List.set_cons_succ]
            refine wpAnyH_takeV (i := 6) (some 74) (.int .i64 ax) rfl rfl (by kernel_rfl) (fun _ _ _ h => h) (Or.inl ⟨by rfl, (by intro W hW; go_simp)⟩) hS ?_
            simp only [Act.put, List.setIfInBounds_toArray, List.set_cons_zero, List.set_cons_succ]
            refine wpAnyH_takeV (i := 7) (some 75) (.slice (some ⟨qb, qoff, none⟩) q.length qc) rfl rfl (by kernel_rfl) (fun _ _ _ h => h) (Or.inl ⟨by rfl, (fun W _ => by rfl)⟩) hS ?_
            simp only [Act.put, List.setIfInBounds_toArray, List.set_cons_zero, List.set_cons_succ]
            refine wpAnyH_takeV (i := 8) (some 76) (.int .i64 (k : Int)) rfl rfl (by kernel_rfl) (fun _ _ _ h => h) (Or.inl ⟨by rfl, (fun W _ => by rfl)⟩) hS ?_
            simp only [Act.put, List.setIfInBounds_toArray, List.set_cons_zero, List.set_cons_succ]
            refine wpAnyH_takeV (i := 9) (some 77) (.slice po k pc) rfl rfl (by kernel_rfl) (fun _ _ _ h => h) (Or.inl ⟨by rfl, (by intro W hW; have := hsl W; go_simp)⟩) hS ?_
            simp only [Act.put, List.setIfInBounds_toArray, List.set_cons_zero, List.set_cons_succ]
            clear hS
            refine wpAnyH_ready (rs := [10]) (by kernel_rfl) (by simp) ?_
            refine (AllReadyH.cons (o := _) rfl (fun K' HK => ?_) AllReadyH.nil)
            refine step_callA rfl (some 78) rfl 31 #[v, vr, .int .i64 (fk : Int), .int .i64 ax, .slice po k pc] (by go_simp) (fun u W => ∃ o, u = .tuple #[o, .int .i64 0] ∧ Hid (OwnI W wr.drew.heap.size o R) ∧ Below wr.drew.heap.size wr.drew W) ((HBD.out _ (bstep HW4.out (bstep HB.out (Below.refl _ _).drew)) (HPT.out.below (Below.refl _ _).drew)).mono fun e w' ⟨o, h1, h2, h3⟩ => ⟨_, h1, o, rfl, h2, h3⟩) ?_
            rintro u w5 ⟨o, rfl, hro, hb5⟩
            have HB5 := Lib.hid (bstep HB.out (bstep (Below.refl _ _).drew hb5) : Below w4.heap.size w4 w5)
            have HRO := Lib.hid hro.out
            obtain ⟨ro, rc', rfl⟩ := hro.out.shape
            have G25 := Lib.hid ((hb5.cell (p := ⟨xb, xoff + fk, none⟩) hxb).trans G2.out)
            clear hb5 hro
            refine HK.out _ _ G25.out (fun hS => ?_)
            clear HK K'
            simp only [Act.put, List.setIfInBounds_toArray, List.set_cons_zero, List.set_cons_succ]
            refine wpAnyH_takeV (i := 11) (some 67) (.tuple #[.slice ro R.length rc', .int .i64 0]) rfl rfl (by kernel_rfl) (fun _ _ _ h => h) (Or.inl ⟨by rfl, (fun W _ => by rfl)⟩) hS ?_
            simp only [Act.put, List.setIfInBounds_toArray, List.set_cons_zero, List.set_cons_succ]
            refine wpAnyH_takeV (i := 12) (some 79) (.slice ro R.length rc') rfl rfl (by kernel_rfl) (fun _ _ _ h => h) (Or.inl ⟨by rfl, (by intro W hW; go_simp)⟩) hS ?_
            simp only [Act.put, List.setIfInBounds_toArray, List.set_cons_zero, List.set_cons_succ]
            refine wpAnyH_takeV (i := 13) (some 80) (.int .i64 0) rfl rfl (by kernel_rfl) (fun _ _ _ h => h) (Or.inl ⟨by rfl, (by intro W hW; go_simp)⟩) hS ?_
            simp only [Act.put, List.setIfInBounds_toArray, List.set_cons_zero, List.set_cons_succ]
            refine wpAnyH_takeV (i := 14) (some 16) (.slice ro R.length rc') rfl rfl (by kernel_rfl) (fun _ _ _ h => h) (Or.inl ⟨by rfl, (fun W _ => by rfl)⟩) hS ?_
            simp only [Act.put, List.setIfInBounds_toArray, List.set_cons_zero, List.set_cons_succ]
            refine wpAnyH_takeV (i := 15) (some 17) (.int .i64 0) rfl rfl (by kernel_rfl) (fun _ _ _ h => h) (Or.inl ⟨by rfl, (fun W _ => by rfl)⟩) hS ?_
            simp only [Act.put, List.setIfInBounds_toArray, List.set_cons_zero, List.set_cons_succ]
            clear hS
            refine wpAnyH_done (by kernel_rfl) ?_ _
            rcases HRR.out with ⟨hR, hno⟩ | ⟨b, R', hb, hcb, hm, hR⟩
            · subst hR
              have HNO2 : Hid (∀ a b, b < a → a < k + 1 → (f a, f b) ∉ es) := fun a b hab ha => by
                by_cases e : a = k
                · subst e; rw [HFK.out]; exact hno b hab
                · exact HNO.out a b hab (by omega)
              go_wp2
              go_roundw
              case rel => exact ⟨k + 1, by omega, by go_num, HB5.out, HNO2.out⟩
              case measure => simp [intOf]; omega
            · obtain ⟨h1, h2⟩ := HFI1.out b hcb hb hm
              obtain ⟨rfl, rfl, rfl⟩ : ra = (fk : Int) ∧ rb = ((f b : Nat) : Int) ∧ rc = 0 := by cases h1; exact ⟨rfl, rfl, rfl⟩
              subst h2
              subst hR
              obtain ⟨rbk, roff, he9, hrb, g9⟩ := zints_get HRO.out.sl (show (((f b : Nat) : Int) :: R')[0]? = some ((f b : Nat) : Int) from rfl)
              cases he9
              rw [Nat.add_zero] at g9
              clear h1 HRR HFI1
              have z1 : decide ((0 : Int) < ((((f b : Nat) : Int) :: R').length : Int)) = true := dec_yes (by simp)
              have z2 : 0 < (((f b : Nat) : Int) :: R').length := by simp
              generalize (((f b : Nat) : Int) :: R').length = rl at *
              generalize f b = fb at *
              go_wp2
              (try rw [Exit.noGoto_ret])
              go_ret
              exact ⟨rfl, bstep HW4.out HB5.out⟩
          · obtain rfl : k = q.length := by omega
            have h1 := HFF.out.1 (fun a b hab ha => HNO.out a b hab (by have := HNQ.out; omega))
            have h2 := HFC.out.1 (fun a b hab ha => HNO.out a b hab (by have := HNQ.out; omega))
            obtain ⟨rfl, rfl, rfl⟩ : ra = 0 ∧ rb = 0 ∧ rc = 12 := by cases h1; exact ⟨rfl, rfl, rfl⟩
            subst h2
            have z1 : ((q.length : Int) == (X.length : Int)) = true := beq_yes (by have := HNQ.out; have := HXL.out; omega)
            have z2 : (q.length == X.length) = true := by have := HNQ.out; have := HXL.out; simp; omega
            have z3 : q.length = X.length := by have := HNQ.out; have := HXL.out; omega
            clear h1 z3
            go_wp2
            go_ret
            exact ⟨rfl, bstep HW4.out HB.out⟩
      · rw [if_neg hn] at G4
        obtain ⟨sa, sc, hS⟩ : ∃ sa sc, chkRes n es q = (sa, sc) := ⟨_, _, rfl⟩
        have hsc : nodesRes n q = sc := by rw [← HCN.out, hS]
        rw [hsc] at G4 hn
        rw [hS] at G3
        have hb0 : (sc != 0) = true := bne_yes hn
        clear HCN hS hsc hn HBR HSF HEN HBD
        go_wp2_with fail
        refine (G3.out _ HW2.out).mono ?_
        rintro en w3 ⟨rfl, hb⟩
        have HW3 := Lib.hid (bstep HW2.out hb)
        clear hb HW2 G3
        go_wp2_with fail
        refine (G4.out _ HW3.out).mono ?_
        rintro en w4 ⟨rfl, hb⟩
        have HW4 := Lib.hid (bstep HW3.out hb)
        clear hb HW3 G4
        go_wp2
        go_ret
        exact ⟨rfl, HW4.out⟩
end
end Go.Proofs.YthmlejijfgbfbaaGreat
