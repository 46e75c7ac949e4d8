/-
  Couplers, reference: Order, try, Needed.
-/
import Derived.Test.YtamogedpgkofjaaGreatCra
import Derived.Test.YtamogedpgkofjaaGreatCqc
namespace Go.Proofs.YtamogedpgkofjaaGreat
section
open Go.RowKit
set_option linter.unusedVariables false
set_option linter.unusedSimpArgs false
attribute [local go_sem ↓] Go.wp_at_zero Go.wp_at_succ

theorem own_lit0 {α : Type} (w : World) (e : TypeId) (f : α → Value) (base : Nat) (hb : base ≤ w.heap.size) : Own (w.alloc (.cells #[] e)) base e f (.slice (some ⟨w.heap.size, 0, none⟩) 0 0) ([] : List α) :=
  World.ownsRow_lit w #[] 0 (e := e) (size := 1) hb (by unfold maxLen; omega) rfl
set_option maxRecDepth 100000 in
set_option maxHeartbeats 2000000 in
theorem rord40_any (n : Nat) (ev lv : Value) (es : List (Nat × Nat)) (l : List Int) (w : World) (he : NPairs w ev es) (hes : es.length ≤ 1000) (hn : n ≤ 60) (hl : Ints w lv l) (hll : l.length ≤ 1000) :
    Calls Tryz.prog 23 #[.int .i64 (n : Int), ev, lv] w fun e w' => ∃ o, e = .returned (.tuple #[o, .bool (ordC n es l).isSome]) ∧ Hid (Own w' w.heap.size 3 natf o ((ordC n es l).getD [])) ∧ Below w.heap.size w w' := by
  have HOT := Lib.hid (roth40_any n lv l w hn hl hll)
  have hol := othN_len n l
  have HG := Lib.hid (fun nv W (hW : Below w.heap.size w W) (h : Nats W nv (othN n l)) => rgraph40_any ev nv es (othN n l) W (he.below hW) hes h (by omega))
  have HDG := Lib.hid (fun W B v (h : OwnPr W B v (cst (subE es (othN n l)))) => dg_sub h (by omega) hes)
  clear he hl
  go_enter Tryz.func23, Tryz.ntmps23
  go_wp2_with fail
  refine HOT.out.mono ?_
  rintro e w1 ⟨nv, rfl, ho, hb1⟩
  obtain ⟨no, nc, rfl⟩ := ho.out.shape
  have HB1 := Lib.hid hb1
  have HN1 := Lib.hid ho.out
  have HG1 := Lib.hid (HG.out _ w1 hb1 ho.out.sl)
  clear ho hb1 HOT HG
  have HSO := Lib.hid (fun w2 sv (h : Dg w2 (othN n l).length sv (subE es (othN n l))) => rorder_any (othN n l).length sv _ w2 h)
  have HNM := Lib.hid (fun w3 u P (h : Own w3 w.heap.size 3 natf (.slice no (othN n l).length nc) (othN n l)) (hu : Nats w3 u P) (hP : P.length ≤ 1000) (hi : ∀ i ∈ P, i < (othN n l).length) => rnamed40_any _ u (othN n l) P w3 h.sl hu hP hi)
  go_wp2_with fail
  refine HG1.out.mono ?_
  rintro e w2 ⟨sv, rfl, hsv, hb2⟩
  have HB2 := Lib.hid (bstep HB1.out hb2)
  have HN2 := Lib.hid (HN1.out.below hb2)
  have HO := Lib.hid (HSO.out w2 sv (HDG.out _ _ _ hsv.out))
  obtain ⟨so, sc, rfl⟩ := OwnN.shape hsv.out
  clear hsv hb2 HN1 HG1 HSO HDG
  generalize (cst (subE es (othN n l))).length = sl at *
  unfold ROrderPost at HO
  cases hq : orderOf (othN n l).length (subE es (othN n l)) with
  | none =>
    have HR : Hid (ordC n es l = none) := by
      show ordC n es l = none
      unfold ordC
      rw [hq]; rfl
    rw [hq] at HO
    clear hq
    go_wp2_with fail
    refine HO.out.mono ?_
    rintro e w3 ⟨rfl, hb3⟩
    have HB3 := Lib.hid (bstep HB2.out hb3)
    have HN3 := Lib.hid (HN2.out.below hb3)
    have HM := Lib.hid (HNM.out w3 (.slice none 0 0) [] HN3.out (Sl.nil _ _ _ _) (Nat.zero_le _) (fun i hi => by cases hi))
    clear hb3 HO HNM
    generalize (othN n l).length = ol at *
    go_wp2_with fail
    refine HM.out.mono ?_
    rintro e w4 ⟨o, rfl, hoo, hb4⟩
    have HOO := Lib.hid hoo.out
    have HB4 := Lib.hid (bstep HB3.out hb4)
    have hs := HB3.out.size
    clear hoo hb4
    go_wp2
    go_ret2
    rw [HR.out]
    exact ⟨o, rfl, HOO.out.mono hs, HB4.out⟩
  | some D =>
    have HR : Hid (ordC n es l = some (namN (othN n l) D)) := by
      show ordC n es l = _
      unfold ordC
      rw [hq]; rfl
    rw [hq] at HO
    obtain ⟨hDl, hDO⟩ := ordTo_ok _ D hq
    have HDO := Lib.hid hDO
    clear hq hDO
    go_wp2_with fail
    refine HO.out.mono ?_
    rintro e w3 ⟨⟨u, rfl, hu⟩, hb3⟩
    have HB3 := Lib.hid (bstep HB2.out hb3)
    have HN3 := Lib.hid (HN2.out.below hb3)
    have HM := Lib.hid (HNM.out w3 u D HN3.out hu.sl (by omega) HDO.out.lt)
    obtain ⟨uo, uc, rfl⟩ := hu.shape
    clear hb3 hu HO HNM hDl
    generalize (othN n l).length = ol at *
    generalize D.length = dl at *
    go_wp2_with fail
    refine HM.out.mono ?_
    rintro e w4 ⟨o, rfl, hoo, hb4⟩
    have HOO := Lib.hid hoo.out
    have HB4 := Lib.hid (bstep HB3.out hb4)
    have hs := HB3.out.size
    clear hoo hb4
    go_wp2
    go_ret2
    rw [HR.out]
    exact ⟨o, rfl, HOO.out.mono hs, HB4.out⟩
def TRes (W : World) (R : Option (List Nat)) (e : Ending) (W' : World) : Prop :=
  Below W.heap.size W W' ∧ ((R = none ∧ ∃ o, e = .returned (.tuple #[o, .bool false])) ∨ ∃ r o, R = some r ∧ e = .returned (.tuple #[o, .bool true]) ∧ Own W' W.heap.size 3 natf o r)
set_option maxRecDepth 100000 in
set_option maxHeartbeats 4000000 in
theorem rtry40_any (n : Nat) (ev : Value) (es : List (Nat × Nat)) (hes : es.length ≤ 1000) (hn : n ≤ 60) : ∀ (m : Nat) (l : List Nat) (v : Value) (fr : Nat) (W : World), NPairs W ev es → Nats W v l → l.length + m ≤ 100 → fr ≤ 100 →
    Calls Tryz.prog 60 #[.int .i64 (n : Int), ev, v, .int .i64 (fr : Int), .int .i64 (m : Int)] W (TRes W (chooseC n es m l fr)) := by
  intro m
  induction m with
  | zero =>
    intro l v fr W he hv hl hfr
    have HOR := Lib.hid (rord40_any n ev v es (ntI l) W he hes hn (Sl.map_ hv (fun k : Nat => (k : Int)) (fun _ => rfl)) (by rw [ntI_len]; omega))
    have HV := Lib.hid hv
    obtain ⟨vo, vc, rfl⟩ := Sl.at_ hv
    clear he hv
    generalize hln : l.length = ln at *
    have HLL := Lib.hid hln
    clear hln
    go_enter Tryz.func60, Tryz.ntmps60
    go_wp2_with fail
    refine HOR.out.mono ?_
    rintro e w2 ⟨o, rfl, ho, hb2⟩
    have HB2 := Lib.hid hb2
    obtain ⟨oo, oc, rfl⟩ := ho.out.shape
    have HV2 : Hid (Nats (w2.alloc (.cells #[] 3)) (.slice vo ln vc) l) := Sl.below (Sl.below HV.out hb2) (below_new _ _)
    have HO0 := Lib.hid (own_lit0 w2 3 natf W.heap.size hb2.size)
    have hbs : W.heap.size ≤ (w2.alloc (.cells #[] 3)).heap.size := by have := hb2.size; simp; omega
    clear ho hb2 HOR
    generalize ((ordC n es (ntI l)).getD []).length = ol at *
    go_wp2_with (at_builtin; refine wpList_appSl (w2.alloc (.cells #[] 3)) rfl _ _ 24 rfl 3 8 elemInt W.heap.size natf _ _ [] l (fun _ => rfl) HO0.out HV2.out rfl rfl (by have := HLL.out; simp; omega) (by omega) hbs ?_; intro v' w' hown' hg' hat'; have HW9 := Lib.hid hown'; have HG9 := Lib.hid hg'; clear hown' hg' hat')
    have HB9 : Hid (Below W.heap.size W w') := (bstep HB2.out (below_new w2 _)).grown HG9.out hbs (fun g e => by cases e; exact HB2.out.size)
    cases hd : ordC n es (ntI l) with
    | none =>
      have HR := Lib.hid (choose0_none (fr := fr) hd)
      clear hd
      go_ret2
      exact ⟨HB9.out, .inl ⟨HR.out, _, rfl⟩⟩
    | some D =>
      have HR := Lib.hid (choose0_some (fr := fr) hd)
      clear hd
      go_ret2
      exact ⟨HB9.out, .inr ⟨l, _, HR.out, rfl, HW9.out⟩⟩
  | succ m ih =>
    intro l v fr W he hv hl hfr
    have HE := Lib.hid he
    have HV := Lib.hid hv
    have HIH := Lib.hid ih
    obtain ⟨vo, vc, rfl⟩ := Sl.at_ hv
    obtain ⟨eo, ec, rfl, hop⟩ := he.open_
    clear he hv ih hop
    have z1 : (((m : Int) + 1) == 0) = false := beq_no (by omega)
    have z2 : ((((m + 1 : Nat)) : Int) == 0) = false := beq_no (by omega)
    have z3 : decide (((m : Int) + 1) = 0) = false := dec_no (by omega)
    generalize hln : l.length = ln at *
    have HLL := Lib.hid hln
    clear hln
    go_enter Tryz.func60, Tryz.ntmps60
    go_wp2
    go_loopw [14] (fun i wr => ∃ k : Nat, fr ≤ k ∧ k ≤ 100 ∧ i = .int .i64 (k : Int) ∧ Hid ((∀ j, fr ≤ j → j < k → chooseC n es m (l ++ [j]) (j + 1) = none) ∧ Below W.heap.size W wr)) (fun i _ => n - (intOf i).toNat)
    case atStart => exact ⟨fr, Nat.le_refl _, hfr, rfl, fun j h1 h2 => absurd h1 (by omega), Below.refl _ _⟩
    case round =>
      obtain ⟨k, hk, hk1, rfl, HI⟩ := hrel
      by_cases hkn : k + (m + 1) ≤ n
      · have d1 : decide ((k : Int) ≤ (n : Int) - ((m : Int) + 1)) = true := dec_yes (by omega)
        have d2 : decide ((k : Int) ≤ (n : Int) - ((m + 1 : Nat) : Int)) = true := dec_yes (by omega)
        have HV2 : Hid (Nats (wr.alloc (.cells #[] 3)) (.slice vo ln vc) l) := Sl.below (Sl.below HV.out HI.out.2) (below_new _ _)
        have HO0 := Lib.hid (own_lit0 wr 3 natf W.heap.size HI.out.2.size)
        have hbs : W.heap.size ≤ (wr.alloc (.cells #[] 3)).heap.size := by have := HI.out.2.size; simp; omega
        have q1 : IntKind.i64.wrap ((k : Int) + 1) = (k : Int) + 1 := IntWalk.i64_in _ (by omega)
        have q2 : IntKind.i64.wrap (m : Int) = (m : Int) := IntWalk.i64_in _ (by omega)
        have q3 : IntKind.i64.wrap ((m : Int) + 1 - 1) = (m : Int) := by rw [show (m : Int) + 1 - 1 = m by omega]; exact q2
        have q4 : IntKind.i64.wrap ((n : Int) - ((m : Int) + 1)) = (n : Int) - ((m : Int) + 1) := IntWalk.i64_in _ (by omega)
        go_wp2_with (first
          | (at_builtin; refine wpList_appSl (wr.alloc (.cells #[] 3)) rfl _ _ 24 rfl 3 8 elemInt W.heap.size natf _ _ [] l (fun _ => rfl) HO0.out HV2.out rfl rfl (by have := HLL.out; simp; omega) (by omega) hbs ?_; intro v' w' hown' hg' hat'; rw [List.nil_append] at hown'; have HW9 := Lib.hid hown'; have HG9 := Lib.hid (((HI.out.2.trans ((below_new wr (.cells #[] 3)).mono HI.out.2.size)).grown hg' hbs (fun g e => by cases e; exact HI.out.2.size) : Below W.heap.size W w')); have hb9 : W.heap.size ≤ w'.heap.size := HG9.out.size; obtain ⟨po, pc, hpo⟩ := hown'.shape; rw [HLL.out] at hpo; subst hpo; clear hown' hg' hat')
          | (at_builtin; refine wpList_push w' rfl _ _ 24 rfl 3 8 elemInt W.heap.size natf _ l k rfl HW9.out rfl rfl (by have := HLL.out; omega) (by omega) hb9 ?_; intro v2 w2 ho2 hg2 _; have HO2 := Lib.hid ho2; have HB2 := Lib.hid (HG9.out.grown hg2 hb9 (fun g e => (HW9.out.lt g e).1)); obtain ⟨so, sc, hso⟩ := ho2.shape; obtain ⟨q5, hq5⟩ : ∃ q, (l ++ [k]).length = q := ⟨_, rfl⟩; rw [hq5] at hso; subst hso; clear ho2 hg2 hq5))
        have HC := Lib.hid (HIH.out (l ++ [k]) (.slice so q5 sc) (k + 1) w2 (HE.out.below HB2.out) HO2.out.sl (by rw [List.length_append, List.length_singleton, HLL.out]; omega) (by omega))
        rw [show ((k + 1 : Nat) : Int) = (k : Int) + 1 by omega] at HC
        refine HC.out.mono ?_
        rintro e w3 ⟨hb3, (⟨hr, o, rfl⟩ | ⟨r, o, hr, rfl, ho3⟩)⟩
        · have HB3 := Lib.hid (HB2.out.trans (hb3.mono HB2.out.size))
          have HR := Lib.hid hr
          clear hb3 hr HC
          have HNO : Hid (∀ j, fr ≤ j → j < k + 1 → chooseC n es m (l ++ [j]) (j + 1) = none) := fun j h1 h2 => by
            rcases Nat.lt_or_eq_of_le (show j ≤ k by omega) with h3 | h3
            · exact HI.out.1 j h1 h3
            · rw [h3]; exact HR.out
          go_wp2
          go_roundw
          case rel => first | exact ⟨k + 1, by omega, by omega, by go_num, HNO.out, HB3.out⟩ | ((repeat apply Exists.intro); exact ⟨⟨k + 1, by omega, by omega, by go_num, HNO.out, HB3.out⟩, rfl⟩)
          case measure => simp [intOf]; omega
        · have HB3 := Lib.hid (HB2.out.trans (hb3.mono HB2.out.size))
          have HR := Lib.hid (choose_hit HI.out.1 hk (by omega) hr)
          have HO3 := Lib.hid (ho3.mono HB2.out.size)
          obtain ⟨ro, rc, rfl⟩ := ho3.shape
          clear hb3 hr HC ho3
          generalize r.length = rl at *
          go_wp2
          go_ret2
          exact ⟨HB3.out, .inr ⟨r, _, HR.out, rfl, HO3.out⟩⟩
      · have d1 : decide ((k : Int) ≤ (n : Int) - ((m : Int) + 1)) = false := dec_no (by omega)
        have d2 : decide ((k : Int) ≤ (n : Int) - ((m + 1 : Nat) : Int)) = false := dec_no (by omega)
        have HR := Lib.hid (choose_miss (es := es) (l := l) (m := m) (fr := fr) (n := n) (fun j h1 h2 => by
          by_cases h3 : j < k
          · exact HI.out.1 j h1 h3
          · exact choose_short (by omega)))
        go_wp2
        go_ret2
        exact ⟨HI.out.2, .inl ⟨HR.out, _, rfl⟩⟩
end
end Go.Proofs.YtamogedpgkofjaaGreat
