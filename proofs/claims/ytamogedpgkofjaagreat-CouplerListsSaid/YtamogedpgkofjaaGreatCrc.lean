/-
  Couplers, reference: Needed, Loops, List, Edges.
-/
import Derived.Test.YtamogedpgkofjaaGreatCrb
import Derived.Test.YtamogedpgkofjaaGreatCqe
import Derived.Test.YtamogedpgkofjaaGreatOpc
namespace Go.Proofs.YtamogedpgkofjaaGreat
section
open Go.RowKit
set_option linter.unusedVariables false
set_option linter.unusedSimpArgs false
attribute [local go_sem ↓] Go.wp_at_zero Go.wp_at_succ

set_option maxRecDepth 100000 in
set_option maxHeartbeats 4000000 in
theorem rneed40_any (n : Nat) (ev : Value) (es : List (Nat × Nat)) (w : World) (he : NPairs w ev es) (hes : es.length ≤ 1000) (hn : n ≤ 60) :
    Calls Tryz.prog 27 #[.int .i64 (n : Int), ev] w fun e w' => ∃ o, e = .returned o ∧ Hid (Own w' w.heap.size 3 natf o (needC n es)) ∧ Below w.heap.size w w' := by
  obtain ⟨eo, ec, rfl, hop⟩ := he.open_
  have HT := Lib.hid (fun (k : Nat) W (hW : Below w.heap.size w W) (hk : k ≤ 60) => rtry40_any n (.slice eo es.length ec) es hes hn k [] (.slice none 0 0) 0 W (he.below hW) (Sl.nil _ _ _ _) (by simp; omega) (by omega))
  have HOA := Lib.hid (fun W => roth40_any n (.slice none 0 0) [] W hn (Sl.nil _ _ _ _) (Nat.zero_le _))
  clear he hop
  generalize es.length = em at *
  go_enter Tryz.func27, Tryz.ntmps27
  go_wp2
  go_loopw [5] (fun i wr => ∃ k : Nat, k ≤ n ∧ i = .int .i64 (k : Int) ∧ Hid ((∀ j, j < k → chooseC n es j [] 0 = none) ∧ Below w.heap.size w wr)) (fun i _ => n - (intOf i).toNat)
  case atStart => exact ⟨0, Nat.zero_le _, rfl, fun j hj => absurd hj (by omega), Below.refl _ _⟩
  case round =>
    obtain ⟨k, hk, rfl, HI⟩ := hrel
    by_cases hkn : k < n
    · have HC := Lib.hid (HT.out k wr HI.out.2 (by omega))
      go_wp2_with fail
      refine HC.out.mono ?_
      rintro e w3 ⟨hb3, (⟨hr, o, rfl⟩ | ⟨r, o, hr, rfl, ho3⟩)⟩
      · have HB3 := Lib.hid (bstep HI.out.2 hb3)
        have HNO : Hid (∀ j, j < k + 1 → chooseC n es j [] 0 = none) := fun j h2 => by
          rcases Nat.lt_or_eq_of_le (show j ≤ k by omega) with h3 | h3
          · exact HI.out.1 j h3
          · rw [h3]; exact hr
        clear hb3 hr HC
        go_wp2
        go_roundw
        case rel => first | exact ⟨k + 1, by omega, by go_num, HNO.out, HB3.out⟩ | ((repeat apply Exists.intro); exact ⟨⟨k + 1, by omega, by go_num, HNO.out, HB3.out⟩, rfl⟩)
        case measure => simp [intOf]; omega
      · have HB3 := Lib.hid (bstep HI.out.2 hb3)
        have HR := Lib.hid (need_at hk HI.out.1 hr)
        have HO3 := Lib.hid (ho3.mono HI.out.2.size)
        obtain ⟨ro, rc, rfl⟩ := ho3.shape
        clear hb3 hr HC ho3
        generalize r.length = rl at *
        go_wp2
        go_ret
        exact ⟨_, rfl, by rw [HR.out]; exact HO3.out, HB3.out⟩
    · obtain rfl : n = k := by omega
      have HR := Lib.hid (need_full HI.out.1)
      have HC := Lib.hid (HOA.out wr)
      rw [oth_nil, ← HR.out] at HC
      go_wp2_with fail
      refine HC.out.mono ?_
      rintro e w3 ⟨o, rfl, ho, hb3⟩
      have HB3 := Lib.hid (bstep HI.out.2 hb3)
      have HO3 := Lib.hid (ho.out.mono HI.out.2.size)
      obtain ⟨ro, rc, rfl⟩ := ho.out.shape
      clear hb3 ho HC
      generalize (needC n es).length = rl at *
      go_wp2
      go_ret
      exact ⟨_, rfl, HO3.out, HB3.out⟩
/-- The list's error. -/
theorem twice_at {l : List Int} {k : Nat} {x : Int} (hx : l[k]? = some x) (hm : x ∈ l.take k) : ¬ l.Nodup := by
  intro hn
  have h1 := (hn.sublist (List.take_sublist (k + 1) l))
  have hk := (List.getElem?_eq_some_iff.1 hx).1
  rw [List.take_succ_eq_append_getElem hk, (List.getElem?_eq_some_iff.1 hx).2, List.nodup_append] at h1
  exact h1.2.2 _ hm _ (List.mem_singleton.2 rfl) rfl
theorem once_at {l : List Int} {k : Nat} {x : Int} (hx : l[k]? = some x) (hm : x ∉ l.take k) (hn : (l.take k).Nodup) : (l.take (k + 1)).Nodup := by
  have hk := (List.getElem?_eq_some_iff.1 hx).1
  rw [List.take_succ_eq_append_getElem hk, (List.getElem?_eq_some_iff.1 hx).2, List.nodup_append]
  refine ⟨hn, by simp, ?_⟩
  intro a ha b hb hab
  rw [List.mem_singleton.1 hb] at hab
  subst hab
  exact hm ha
theorem idx_ge {l : List Int} {x : Int} : decide (0 ≤ idxOf l x) = decide (x ∈ l) := idxOf_mem l x
set_option maxRecDepth 100000 in
set_option maxHeartbeats 4000000 in
theorem rlist40_any (vr qv : Value) (n : Nat) (q : List Int) (w : World) (hn : n ≤ 100000) (hC : Calls Tryz.prog 53 #[vr] w fun e w' => e = .returned (.int .i64 (n : Int)) ∧ w = w') (hq : Ints w qv q) (hcp : Caps qv) (hlq : q.length ≤ 1000) :
    Calls Tryz.prog 22 #[vr, qv] w fun e w' => e = .returned (.int .i64 (gvnC n q)) ∧ Below w.heap.size w w' := by
  obtain ⟨qo, qc, rfl⟩ := Sl.at_ hq
  have hcap : q.length ≤ qc := capsLe hcp
  have HQ := Lib.hid hq
  have HC := Lib.hid hC
  clear hq hC hcp
  go_enter Tryz.func22, Tryz.ntmps22
  go_wp2_with fail
  refine HC.out.mono ?_
  rintro e w1 ⟨rfl, rfl⟩
  clear HC
  go_wp2_with fail
  go_loopw [6] (fun i wr => wr = w ∧ ∃ k : Nat, k ≤ q.length ∧ i = .int .i64 (k : Int) ∧ Hid (∀ (j : Nat) y, j < k → q[j]? = some y → badN n y = false)) (fun i _ => q.length - (intOf i).toNat)
  case atStart => exact ⟨rfl, 0, Nat.zero_le _, rfl, fun j y hj => absurd hj (by omega)⟩
  case round =>
    obtain ⟨rfl, k, hk, rfl, HI⟩ := hrel
    by_cases hkn : k < q.length
    · obtain ⟨x, hx⟩ : ∃ x, q[k]? = some x := ⟨_, List.getElem?_eq_getElem hkn⟩
      obtain ⟨ao', cap', hv, hcl⟩ := HQ.out
      cases hv
      obtain ⟨qb, qoff, rfl, hqb, hcl⟩ := hcl (by omega)
      have g2 := hcl k x hx
      have HX := Lib.hid hx
      clear hcl hx
      by_cases hb : badN n x = true
      · have hany : q.any (badN n) = true := List.any_eq_true.2 ⟨x, List.mem_of_getElem? HX.out, hb⟩
        have HG := Lib.hid (gvn_bad hany)
        unfold badN at hb
        rw [decide_eq_true_eq] at hb
        clear hany
        by_cases h1 : x < 0
        · clear hb
          go_wp2
          go_ret
          exact ⟨by rw [HG.out]; rfl, Below.refl _ _⟩
        · have h2 : (n : Int) ≤ x := by omega
          clear hb
          go_wp2
          go_ret
          exact ⟨by rw [HG.out]; rfl, Below.refl _ _⟩
      · have hnb : badN n x = false := by simpa using hb
        have HNB := Lib.hid hnb
        unfold badN at hb
        rw [decide_eq_true_eq] at hb
        have h1 : ¬ x < 0 := by omega
        have h2 : ¬ (n : Int) ≤ x := by omega
        clear hb
        go_wp2
        go_roundw
        case rel =>
          refine ⟨trivial, k + 1, by omega, by go_num, fun j y hj hy => ?_⟩
          rcases Nat.lt_or_eq_of_le (show j ≤ k by omega) with h3 | h3
          · exact HI.out j y h3 hy
          · subst h3; rw [HX.out] at hy; cases hy; exact HNB.out
        case measure => simp [intOf]; omega
    · have hany : q.any (badN n) = false := by
        rw [List.any_eq_false]
        intro y hy
        obtain ⟨j, hj⟩ := List.getElem?_of_mem hy
        have hjl := (List.getElem?_eq_some_iff.1 hj).1
        rw [HI.out j y (by omega) hj]; simp
      have HG : Hid (gvnC n q = if q.Nodup then 0 else 10) := by unfold Hid gvnC; rw [if_neg (by rw [hany]; simp)]
      clear hany HI
      obtain ⟨wo, rfl⟩ : ∃ wo : World, wo = wr := ⟨_, rfl⟩
      go_wp2_with fail
      go_loopw [7] (fun i wr => ∃ k : Nat, k ≤ q.length ∧ i = .int .i64 (k : Int) ∧ Hid ((q.take k).Nodup ∧ Below wo.heap.size wo wr)) (fun i _ => q.length - (intOf i).toNat)
      case atStart => exact ⟨0, Nat.zero_le _, rfl, by rw [List.take_zero]; exact List.nodup_nil, Below.refl _ _⟩
      case round =>
        clear hk hkn
        obtain ⟨k, hk, rfl, HI⟩ := hrel
        by_cases hkn : k < q.length
        · obtain ⟨x, hx⟩ : ∃ x, q[k]? = some x := ⟨_, List.getElem?_eq_getElem hkn⟩
          obtain ⟨po, pc, hsl, hpt⟩ := part_of HQ.out hcap k hk
          have HSL := Lib.hid hsl
          have HAT := Lib.hid (rat40_any (.slice po k pc) (q.take k) x wr.drew (Sl.below hpt (HI.out.2.trans ((Below.refl _ _).drew)) : Ints wr.drew _ (q.take k)) (by rw [List.length_take]; omega))
          obtain ⟨ao', cap', hv, hcl⟩ := HQ.out
          cases hv
          obtain ⟨qb, qoff, rfl, hqb, hcl⟩ := hcl (by omega)
          have G2 : Hid (wr.drew.cell? ⟨qb, qoff + k, none⟩ = some (.int .i64 x)) := (HI.out.2.cell (p := ⟨qb, qoff + k, none⟩) hqb).trans (hcl k x hx)
          have HX := Lib.hid hx
          have HIX := Lib.hid (idx_ge (l := q.take k) (x := x))
          have k0 : (0 : Int) ≤ (k : Int) := Int.natCast_nonneg _
          have k1 : (k : Int) < (q.length : Int) := by omega
          clear hcl hx hsl hpt
          generalize idxOf (q.take k) x = ix at *
          obtain ⟨bb, hbb⟩ : ∃ bb, decide (0 ≤ ix) = bb := ⟨_, rfl⟩
          have HBB := Lib.hid hbb
          clear hbb
          go_wp2
          refine wp_region_held_drew (S := fun W => W.cell? ⟨qb, qoff + k, none⟩ = some (.int .i64 x)) (by kernel_rfl) G2.out (fun hS => ?_)
          refine wpAnyH_takeV (i := 0) (some 35) (.slice (some ⟨qb, qoff, none⟩) q.length qc) rfl rfl (by kernel_rfl) (fun _ _ _ h => h) (Or.inl ⟨by rfl, (fun W _ => by rfl)⟩) hS ?_
          simp only [Act.put, List.setIfInBounds_toArray, List.set_cons_zero, List.set_cons_succ]
          refine wpAnyH_takeV (i := 1) (some 36) (.int .i64 (k : Int)) rfl rfl (by kernel_rfl) (fun _ _ _ h => h) (Or.inl ⟨by rfl, (fun W _ => by rfl)⟩) hS ?_
          simp only [Act.put, List.setIfInBounds_toArray, List.set_cons_zero, List.set_cons_succ]
          refine wpAnyH_takeV (i := 2) (some 37) (.slice po k pc) rfl rfl (by kernel_rfl) (fun _ _ _ h => h) (Or.inl ⟨by rfl, (by intro W hW; have := HSL.out W; go_simp)⟩) hS ?_
          simp only [Act.put, List.setIfInBounds_toArray, List.set_cons_zero, List.set_cons_succ]
          refine wpAnyH_takeV (i := 3) (some 38) (.slice (some ⟨qb, qoff, none⟩) q.length qc) rfl rfl (by kernel_rfl) (fun _ _ _ h => h) (Or.inl ⟨by rfl, (fun W _ => by rfl)⟩) hS ?_
          simp only [Act.put, List.setIfInBounds_toArray, List.set_cons_zero, List.set_cons_succ]
          refine wpAnyH_takeV (i := 4) (some 39) (.int .i64 (k : Int)) rfl rfl (by kernel_rfl) (fun _ _ _ h => h) (Or.inl ⟨by rfl, (fun W _ => by rfl)⟩) hS ?_
          simp only [Act.put, List.setIfInBounds_toArray, List.set_cons_zero, List.set_cons_succ]
          refine wpAnyH_takeV (i := 5) (some 40) (.pointer (some ⟨qb, qoff + k, none⟩)) rfl rfl (by kernel_rfl) (fun _ _ _ h => h) (Or.inl ⟨by rfl, (by intro W hW; go_simp)⟩) hS ?_
          simp only [Act.put, List.setIfInBounds_toArray, List.set_cons_zero, List.set_cons_succ]
          refine wpAnyH_takeV (i := 6) (some 41) (.int .i64 x) rfl rfl (by kernel_rfl) (fun _ _ _ h => h) (Or.inl ⟨by rfl, (by intro W hW; go_simp)⟩) hS ?_
          simp only [Act.put, List.setIfInBounds_toArray, List.set_cons_zero, List.set_cons_succ]
          clear hS
          refine wpAnyH_ready (rs := [7]) (by kernel_rfl) (by simp) ?_
          refine (AllReadyH.cons (o := _) rfl (fun K' HK => ?_) AllReadyH.nil)
          refine step_callA rfl (some 42) rfl 54 #[.slice po k pc, .int .i64 x] (by go_simp) (fun u W => u = .int .i64 ix ∧ wr.drew = W) (HAT.out.mono fun e w' ⟨h1, h2⟩ => ⟨_, h1, rfl, h2⟩) ?_
          rintro u w5 ⟨rfl, rfl⟩
          refine HK.out _ _ G2.out (fun hS => ?_)
          clear HK K'
          simp only [Act.put, List.setIfInBounds_toArray, List.set_cons_zero, List.set_cons_succ]
          refine wpAnyH_takeV (i := 8) (some 43) (.bool bb) rfl rfl (by kernel_rfl) (fun _ _ _ h => h) (Or.inl ⟨by rfl, (by intro W hW; have := HBB.out; go_simp)⟩) hS ?_
          simp only [Act.put, List.setIfInBounds_toArray, List.set_cons_zero, List.set_cons_succ]
          clear hS
          refine wpAnyH_done (by kernel_rfl) ?_ _
          have HBD := Lib.hid (bstep HI.out.2 (Below.refl wr.heap.size wr).drew)
          by_cases hm : x ∈ q.take k
          · have hG : gvnC n q = 10 := by rw [HG.out, if_neg (twice_at HX.out hm)]
            obtain rfl : bb = true := HBB.out.symm.trans (HIX.out.trans (dec_yes hm))
            have HGG := Lib.hid hG
            clear hG hm
            go_wp2
            go_ret
            exact ⟨by rw [HGG.out]; rfl, HBD.out⟩
          · obtain rfl : bb = false := HBB.out.symm.trans (HIX.out.trans (dec_no hm))
            have HN1 := Lib.hid (once_at HX.out hm HI.out.1)
            clear hm
            go_wp2
            go_roundw
            case rel => exact ⟨k + 1, by omega, by go_num, HN1.out, HBD.out⟩
            case measure => simp [intOf]; omega
        · have hG : gvnC n q = 0 := by
            have h1 := HI.out.1
            rw [List.take_of_length_le (by omega)] at h1
            rw [HG.out, if_pos h1]
          have HGG := Lib.hid hG
          clear hG HG
          go_wp2
          go_ret
          exact ⟨by rw [HGG.out]; rfl, HI.out.2⟩
end
end Go.Proofs.YtamogedpgkofjaaGreat
