/-
  Couplers: the search (the closure of Needed).
-/
import Derived.Test.YtamogedpgkofjaaGreatCqn
import Derived.Test.YtamogedpgkofjaaGreatCqm
import Derived.Test.YtamogedpgkofjaaGreatCpg
namespace Go.Proofs.YtamogedpgkofjaaGreat
section
open Go.RowKit
set_option linter.unusedVariables false
set_option linter.unusedSimpArgs false
attribute [local go_sem ↓] Go.wp_at_zero Go.wp_at_succ

set_option maxRecDepth 100000 in
theorem clone_natA (v : Value) (B : Nat) (l : List Nat) (w : World) (h : Own w B 3 natf v l) (hl : l.length ≤ 1000) :
    Calls Tryz.prog 30 #[v] w fun e w' => ∃ v', e = .returned v' ∧ Own w' w.heap.size 3 natf v' l ∧ Below w.heap.size w w' := by
  rcases h.2 with ⟨h1, h2⟩ | ⟨g, cap, cur, rfl, _⟩
  · have : l = [] := List.length_eq_zero_iff.1 h2
    subst this
    rw [h1]
    refine (Tryz.slices_Clone_int_nil 0 0 w).mono ?_
    rintro e w' ⟨rfl, rfl⟩
    exact ⟨_, rfl, Own.nil _ _ _ _, Below.refl _ _⟩
  · refine (clone_nat g cap B l w h hl).mono ?_
    rintro e w' ⟨v', h1, h2, _, h3⟩
    exact ⟨v', h1, h2, h3⟩
/-- The three boxes of the search. -/
def chFn (G : Nat) : Value := .func (.func 40) #[] #[.pointer (some ⟨G, 0, none⟩), .pointer (some ⟨G + 1, 0, none⟩), .pointer (some ⟨G + 2, 0, none⟩)]
structure NdB (w1 : World) (G n : Nat) (es : List (Nat × Nat)) (ev fv : Value) (W : World) : Prop where
  g1 : w1.heap.size = G
  dg : Dg w1 n ev es
  low : Below G w1 W
  gb : BlkIs W G 75 #[.int .i64 (n : Int), ev]
  ob : BlkIs W (G + 1) 24 #[.slice none 0 0]
  cb : BlkIs W (G + 2) 78 #[fv]
  sz : G + 3 ≤ W.heap.size
theorem NdB.grown {w1 : World} {G n : Nat} {es : List (Nat × Nat)} {ev fv : Value} {W W' : World} {r : Option Nat} (h : NdB w1 G n es ev fv W) (hg : W.grownBy W' r) (hr : ∀ g, r = some g → G + 3 ≤ g) : NdB w1 G n es ev fv W' where
  g1 := h.g1
  dg := h.dg
  low := h.low.grown hg (by have := h.sz; omega) (fun g e => by have := hr g e; omega)
  gb := h.gb.else_ hg (fun e => by have := hr _ e.symm; omega)
  ob := h.ob.else_ hg (fun e => by have := hr _ e.symm; omega)
  cb := h.cb.else_ hg (fun e => by have := hr _ e.symm; omega)
  sz := Nat.le_trans h.sz hg.size
theorem NdB.edges {w1 : World} {G n : Nat} {es : List (Nat × Nat)} {ev fv : Value} {W : World} (h : NdB w1 G n es ev fv W) : NPairs W ev es := h.dg.pairs.below (by rw [h.g1]; exact h.low)
def CRes (G : Nat) (w1 : World) (v : Value) (l : List Nat) (R : Option (List Nat)) (W : World) (u : Value) (W' : World) : Prop :=
  (R = none ∧ u = .bool false ∧ W.grownBy W' v.ownBlock ∧ Own W' (G + 3) 3 natf v l) ∨
  (∃ r, R = some r ∧ u = .bool true ∧ ∃ ov, BlkIs W' (G + 1) 24 #[ov] ∧ Own W' (G + 3) 3 natf ov r ∧ Below G w1 W' ∧ W'.cell? ⟨G + 2, 0, none⟩ = some (chFn G))
def CPost (G : Nat) (w1 : World) (v : Value) (l : List Nat) (R : Option (List Nat)) (W : World) (e : Ending) (W' : World) : Prop := ∃ u, e = .returned u ∧ CRes G w1 v l R W u W'
theorem ordR_none {n : Nat} {es : List (Nat × Nat)} {l : List Int} (h : ordC n es l = none) : ordR n es l = (23, []) := by unfold ordR; rw [h]
theorem ordR_some {n : Nat} {es : List (Nat × Nat)} {l : List Int} {D : List Nat} (h : ordC n es l = some D) : ordR n es l = (0, D) := by unfold ordR; rw [h]
theorem choose0_none {n : Nat} {es : List (Nat × Nat)} {l : List Nat} {fr : Nat} (h : ordC n es (ntI l) = none) : chooseC n es 0 l fr = none := by unfold chooseC; rw [h]; rfl
theorem choose0_some {n : Nat} {es : List (Nat × Nat)} {l : List Nat} {fr : Nat} {D : List Nat} (h : ordC n es (ntI l) = some D) : chooseC n es 0 l fr = some l := by unfold chooseC; rw [h]; rfl
theorem own_ints {w : World} {B : Nat} {e : TypeId} {v : Value} {l : List Nat} (h : Own w B e natf v l) : Ints w v (ntI l) := Sl.ints' h.sl
set_option maxRecDepth 100000 in
set_option maxHeartbeats 8000000 in
theorem choose_any (w1 : World) (G n : Nat) (es : List (Nat × Nat)) (ev fv : Value) (hfv : fv = chFn G) (hn : n ≤ 60) : ∀ (m : Nat) (l : List Nat) (v : Value) (fr : Nat) (W : World), NdB w1 G n es ev fv W → Own W (G + 3) 3 natf v l → l.length + m ≤ 100 → fr ≤ 100 →
    Calls Tryz.prog 40 #[v, .int .i64 (fr : Int), .int .i64 (m : Int), .pointer (some ⟨G, 0, none⟩), .pointer (some ⟨G + 1, 0, none⟩), .pointer (some ⟨G + 2, 0, none⟩)] W (CPost G w1 v l (chooseC n es m l fr) W) := by
  intro m
  induction m with
  | zero =>
    intro l v fr W hN hO hl hfr
    have HN := Lib.hid hN
    have HO := Lib.hid hO
    have HC := Lib.hid (corder_any n ev v es (ntI l) W hN.edges hN.dg.m_le hn (own_ints hO) (by rw [ntI_len]; simpa using (by omega : l.length ≤ 1000)))
    have hlt := hO.lt
    have HLT := Lib.hid hlt
    have HFV := Lib.hid hfv
    obtain ⟨vo, vc, rfl⟩ := hO.shape
    have c0 := hN.gb.cell 0
    have c1 := hN.gb.cell 1
    have l0 := hN.gb.lt
    clear hN hO hfv hlt
    generalize hln : l.length = ln at *
    have HLL := Lib.hid hln
    clear hln
    go_enter Tryz.func40, Tryz.ntmps40
    go_wp2_with fail
    refine HC.out.mono ?_
    rintro e w2 ⟨o, rfl, ho, hb2⟩
    have HB2 := Lib.hid hb2
    have HO2 := Lib.hid (HO.out.below hb2)
    have HN2 := Lib.hid (HN.out.grown (only_below hb2 none : W.grownBy w2 none) (fun g e => by cases e))
    clear hb2 HC c0 c1
    cases hd : ordC n es (ntI l) with
    | none =>
      rw [ordR_none hd] at ho ⊢
      have HR := Lib.hid (choose0_none (fr := fr) hd)
      clear ho hd
      go_wp2
      go_ret
      exact ⟨_, rfl, .inl ⟨HR.out, rfl, only_below HB2.out _, HO2.out⟩⟩
    | some D =>
      rw [ordR_some hd] at ho ⊢
      have HR := Lib.hid (choose0_some (fr := fr) hd)
      have HCL := Lib.hid (clone_natA _ _ l w2 HO2.out (by have := HLL.out; omega))
      obtain ⟨oo, oc, rfl⟩ := ho.shape
      clear ho hd
      generalize D.length = dl at *
      go_wp2_with fail
      refine HCL.out.mono ?_
      rintro e w3 ⟨cv, rfl, hc, hb3⟩
      have HC3 := Lib.hid hc
      have HN3 := Lib.hid (HN2.out.grown (only_below hb3 none : w2.grownBy w3 none) (fun g e => by cases e))
      obtain ⟨co, cc, rfl⟩ := hc.shape
      have o0 := HN3.out.ob.cell 0
      have o1 := HN3.out.ob.free 0
      have o2 := HN3.out.ob.lt
      have HS2 := Lib.hid HN2.out.sz
      clear hc hb3 HCL
      go_wp2
      go_ret
      refine ⟨_, rfl, .inr ⟨l, HR.out, rfl, .slice co l.length cc, HN3.out.ob.set 0 _, ?_, ?_⟩⟩
      · have h1 := HC3.out.mono HS2.out
        exact h1.only (only_set w3 (G + 1) 0 _) (fun g e e2 => by cases e2; have := (h1.lt _ e).1; omega)
      · refine ⟨HN3.out.low.setCell (p := ⟨G + 1, 0, none⟩) (by show G ≤ G + 1; omega) _, ?_⟩
        rw [World.cell?_setCell_far _ _ _ _ (by simp)]
        exact (HN3.out.cb.cell 0).trans (by rw [HFV.out]; rfl)
  | succ m ih =>
    intro l v fr W hN hO hl hfr
    have HN := Lib.hid hN
    have HO := Lib.hid hO
    have HIH := Lib.hid ih
    have HFV := Lib.hid hfv
    have hlt := hO.lt
    have HLT := Lib.hid hlt
    clear hN hO hfv ih hlt
    have z1 : (((m : Int) + 1) == 0) = false := beq_no (by omega)
    have z2 : ((((m + 1 : Nat)) : Int) == 0) = false := beq_no (by omega)
    have z3 : decide (((m : Int) + 1) = 0) = false := dec_no (by omega)
    go_enter Tryz.func40, Tryz.ntmps40
    go_wp2
    go_loopw [12] (fun i wr => ∃ k : Nat, fr ≤ k ∧ k ≤ 100 ∧ i = .int .i64 (k : Int) ∧ Hid ((∀ j, fr ≤ j → j < k → chooseC n es m (l ++ [j]) (j + 1) = none) ∧ W.grownBy wr v.ownBlock ∧ Own wr (G + 3) 3 natf v l)) (fun i _ => n - (intOf i).toNat)
    case atStart => exact ⟨fr, Nat.le_refl _, hfr, rfl, fun j h1 h2 => absurd h1 (by omega), only_refl _ _, HO.out⟩
    case round =>
      obtain ⟨k, hk, hk1, rfl, HI⟩ := hrel
      have HNw := Lib.hid (HN.out.grown HI.out.2.1 (fun g e => (HLT.out g e).1))
      have c0 := HNw.out.gb.cell 0
      have l0 := HNw.out.gb.lt
      by_cases hkn : k < n
      · have d1 : decide ((k : Int) < (n : Int)) = true := dec_yes (by omega)
        have HCB := Lib.hid (HNw.out.cb.cell 0)
        have q1 : IntKind.i64.wrap ((k : Int) + 1) = (k : Int) + 1 := IntWalk.i64_in _ (by omega)
        have q2 : IntKind.i64.wrap (m : Int) = (m : Int) := IntWalk.i64_in _ (by omega)
        have q3 : IntKind.i64.wrap ((m : Int) + 1 - 1) = (m : Int) := by rw [show (m : Int) + 1 - 1 = m by omega]; exact q2
        have hsz := HNw.out.sz
        have hln1 : l.length + 1 ≤ 1099511627776 := by omega
        go_wp2
        refine wp_region_held_drew (S := fun W => W.cell? ⟨G + 2, 0, none⟩ = some fv) (by kernel_rfl) HCB.out (fun hS => ?_)
        refine wpAnyH_takeV (i := 0) (some 32) fv rfl rfl (by kernel_rfl) (fun _ _ _ h => h) (Or.inl ⟨by rfl, (by intro W hW; go_simp)⟩) hS ?_
        simp only [Act.put, List.setIfInBounds_toArray, List.set_cons_zero, List.set_cons_succ]
        refine wpAnyH_takeV (i := 1) (some 33) v rfl rfl (by kernel_rfl) (fun _ _ _ h => h) (Or.inl ⟨by rfl, (fun W _ => by rfl)⟩) hS ?_
        simp only [Act.put, List.setIfInBounds_toArray, List.set_cons_zero, List.set_cons_succ]
        refine wpAnyH_takeV (i := 2) (some 34) (.int .i64 (k : Int)) rfl rfl (by kernel_rfl) (fun _ _ _ h => h) (Or.inl ⟨by rfl, (fun W _ => by rfl)⟩) hS ?_
        simp only [Act.put, List.setIfInBounds_toArray, List.set_cons_zero, List.set_cons_succ]
        refine wpAnyH_takeV (i := 5) (some 37) (.int .i64 (k : Int)) rfl rfl (by kernel_rfl) (fun _ _ _ h => h) (Or.inl ⟨by rfl, (fun W _ => by rfl)⟩) hS ?_
        simp only [Act.put, List.setIfInBounds_toArray, List.set_cons_zero, List.set_cons_succ]
        refine wpAnyH_takeV (i := 6) (some 38) (.int .i64 ((k + 1 : Nat) : Int)) rfl rfl (by kernel_rfl) (fun _ _ _ h => h) (Or.inl ⟨by rfl, (by intro W hW; go_simp)⟩) hS ?_
        simp only [Act.put, List.setIfInBounds_toArray, List.set_cons_zero, List.set_cons_succ]
        refine wpAnyH_takeV (i := 7) (some 39) (.int .i64 ((m + 1 : Nat) : Int)) rfl rfl (by kernel_rfl) (fun _ _ _ h => h) (Or.inl ⟨by rfl, (fun W _ => by rfl)⟩) hS ?_
        simp only [Act.put, List.setIfInBounds_toArray, List.set_cons_zero, List.set_cons_succ]
        refine wpAnyH_takeV (i := 8) (some 40) (.int .i64 (m : Int)) rfl rfl (by kernel_rfl) (fun _ _ _ h => h) (Or.inl ⟨by rfl, (by intro W hW; go_simp)⟩) hS ?_
        simp only [Act.put, List.setIfInBounds_toArray, List.set_cons_zero, List.set_cons_succ]
        clear hS
        refine wpAnyH_ready (rs := [3]) (by kernel_rfl) (by simp) ?_
        refine (AllReadyH.cons (o := _) rfl (fun K' HK => ?_) AllReadyH.nil)
        refine step_build1 _ _ rfl _ (.tmp 34) rfl (some 35) rfl (.int .i64 (k : Int)) _ rfl (run_build_i _ _) ?_
        obtain ⟨W2, hW2⟩ : ∃ W2, wr.drew.alloc (.cells #[.int .i64 (k : Int)] 3) = W2 := ⟨_, rfl⟩
        obtain ⟨B, hB⟩ : ∃ B, wr.drew.heap.size = B := ⟨_, rfl⟩
        have HB2 : Hid (wr.grownBy W2 none ∧ BlkIs W2 B 3 #[.int .i64 (k : Int)]) := by
          rw [← hW2, ← hB]
          exact ⟨(only_alloc' (only_draw (only_refl wr none) 1) _ : wr.grownBy (wr.drew.alloc _) none), BlkIs.new _ _ _⟩
        rw [hW2, hB]
        clear hW2 hB
        have HN2 := Lib.hid (HNw.out.grown HB2.out.1 (fun g e => by cases e))
        have HO2 := Lib.hid (HI.out.2.2.only HB2.out.1 (fun g e e2 => by cases e2))
        refine HK.out _ _ (HN2.out.cb.cell 0) (fun hS => ?_)
        clear HK K' hS
        simp only [Act.put, List.setIfInBounds_toArray, List.set_cons_zero, List.set_cons_succ]
        refine wpAnyH_ready (rs := [4]) (by kernel_rfl) (by simp) ?_
        refine (AllReadyH.cons (o := _) rfl (fun K' HK => ?_) AllReadyH.nil)
        refine step_pushK W2 rfl (.tmp 33) (.tmp 35) 24 rfl 3 8 elemInt (G + 3) natf v l k B rfl HO2.out (HB2.out.2.cell 0) rfl rfl hln1 (by omega) HN2.out.sz (some 36) rfl ?_
        intro v' W3 hp
        have HP := Lib.hid hp
        have HN3 := Lib.hid (HN2.out.grown hp.grown (fun g e => (HLT.out g e).1))
        clear hp
        refine HK.out _ _ (HN3.out.cb.cell 0) (fun hS => ?_)
        clear HK K' hS
        simp only [Act.put, List.setIfInBounds_toArray, List.set_cons_zero, List.set_cons_succ]
        have HCL := Lib.hid (HIH.out (l ++ [k]) v' (k + 1) W3 HN3.out HP.out.own (by rw [List.length_append, List.length_singleton]; omega) (by omega))
        refine wpAnyH_ready (rs := [9]) (by kernel_rfl) (by simp) ?_
        refine (AllReadyH.cons (o := _) rfl (fun K' HK => ?_) AllReadyH.nil)
        obtain rfl := HFV.out
        refine step_callA rfl (some 41) rfl 40 #[v', .int .i64 ((k + 1 : Nat) : Int), .int .i64 (m : Int), .pointer (some ⟨G, 0, none⟩), .pointer (some ⟨G + 1, 0, none⟩), .pointer (some ⟨G + 2, 0, none⟩)] (by unfold chFn; go_simp) (CRes G w1 v' (l ++ [k]) (chooseC n es m (l ++ [k]) (k + 1)) W3) (HCL.out.mono fun e w' h => h) ?_
        rintro u W4 (⟨hr, rfl, hg4, ho4⟩ | ⟨r, hr, rfl, ov, ho4, hw4, hb4, hc4⟩)
        · have HBK := Lib.hid (HP.out.back hg4 ho4 (fun g e => by
            have h1 := (HLT.out g e).2
            have h2 := HI.out.2.1.size
            have h3 := HB2.out.1.size
            omega))
          have HG4 := Lib.hid (only_trans HI.out.2.1 (only_next (only_next (only_refl wr v.ownBlock) HB2.out.1 (.inr fun g e => by cases e)) HBK.out.1 (.inl rfl)))
          have HN4 := Lib.hid (HN.out.grown HG4.out (fun g e => (HLT.out g e).1))
          have HR := Lib.hid hr
          clear hr hg4 ho4
          refine HK.out _ _ (HN4.out.cb.cell 0) (fun hS => ?_)
          clear HK K' hS
          simp only [Act.put, List.setIfInBounds_toArray, List.set_cons_zero, List.set_cons_succ]
          refine wpAnyH_done (by kernel_rfl) ?_ _
          go_wp2
          go_roundw
          case rel =>
            refine ⟨k + 1, by omega, by omega, by go_num, fun j h1 h2 => ?_, HG4.out, HBK.out.2⟩
            rcases Nat.lt_or_eq_of_le (show j ≤ k by omega) with h3 | h3
            · exact HI.out.1 j h1 h3
            · rw [h3]; exact HR.out
          case measure => simp [intOf]; omega
        · have HR := Lib.hid (choose_hit HI.out.1 hk hkn hr)
          have HO4 := Lib.hid ho4
          have HW4 := Lib.hid hw4
          have HB4 := Lib.hid hb4
          have HC4 := Lib.hid hc4
          clear hr ho4 hw4 hb4 hc4
          refine HK.out _ _ HC4.out (fun hS => ?_)
          clear HK K' hS
          simp only [Act.put, List.setIfInBounds_toArray, List.set_cons_zero, List.set_cons_succ]
          refine wpAnyH_done (by kernel_rfl) ?_ _
          go_wp2
          go_ret
          exact ⟨_, rfl, .inr ⟨r, HR.out, rfl, ov, HO4.out, HW4.out, HB4.out, HC4.out⟩⟩
      · have d1 : decide ((k : Int) < (n : Int)) = false := dec_no (by omega)
        have HR := Lib.hid (choose_miss (es := es) (fun j h1 h2 => HI.out.1 j h1 (by omega)))
        go_wp2
        go_ret
        exact ⟨_, rfl, .inl ⟨HR.out, rfl, HI.out.2.1, HI.out.2.2⟩⟩
end
end Go.Proofs.YtamogedpgkofjaaGreat
