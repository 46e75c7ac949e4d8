/-
  Reference 08: Reach.
-/
import Derived.Test.YthhhcaleoiopgaaRcB
import Derived.Test.YthhhcaleoiopgaaRdA
namespace Go.Proofs.Ythhhcaleoiopgaa
open Go.RowKit
set_option linter.unusedVariables false
attribute [local go_sem ↓] Go.wp_at_zero Go.wp_at_succ

def Shut (es : List (Nat × Nat)) (S : List Bool) : Prop := ∀ x y, (x, y) ∈ es → S[x]? = some true → S[y]? = some true
structure SetR (es : List (Nat × Nat)) (a n k : Nat) (S : List Bool) : Prop where
  len : S.length = n
  at_ : S[a]? = some true
  from_ : ∀ x : Nat, S[x]? = some true → Rch es a x
  or_ : Shut es S ∨ falses S + k + 1 ≤ n
structure MidR (es : List (Nat × Nat)) (a n k : Nat) (S0 : List Bool) (j : Nat) (S : List Bool) : Prop where
  old : SetR es a n k S0
  len : S.length = n
  keep : ∀ x : Nat, S0[x]? = some true → S[x]? = some true
  from_ : ∀ x : Nat, S[x]? = some true → Rch es a x
  proc : ∀ (i : Nat) e, i < j → es[i]? = some e → S0[e.1]? = some true → S[e.2]? = some true
theorem falses_rep (n : Nat) : falses (List.replicate n false) = n := by
  unfold falses
  induction n with
  | zero => rfl
  | succ n ih => rw [List.replicate_succ, List.countP_cons, ih]; simp
theorem SetR.start {es : List (Nat × Nat)} {a n : Nat} (ha : a < n) : SetR es a n 0 ((List.replicate n false).set a true) := by
  have h0 : (List.replicate n false)[a]? = some false := by rw [List.getElem?_replicate, if_pos ha]
  refine ⟨by simp, by rw [List.getElem?_set_self (by simpa using ha)], fun x hx => ?_, .inr ?_⟩
  · by_cases e : a = x
    · subst e; exact .refl _
    · rw [List.getElem?_set_ne e, List.getElem?_replicate] at hx
      split at hx <;> simp at hx
  · have := falses_set _ a h0
    rw [falses_rep] at this
    omega
theorem MidR.start {es : List (Nat × Nat)} {a n k : Nat} {S : List Bool} (h : SetR es a n k S) : MidR es a n k S 0 S :=
  ⟨h, h.len, fun x h => h, h.from_, fun i e hi => by omega⟩
theorem MidR.put {es : List (Nat × Nat)} {a n k j : Nat} {S0 S : List Bool} {e : Nat × Nat} (h : MidR es a n k S0 j S) (he : es[j]? = some e) (h1 : S[e.1]? = some true) (h2 : e.2 < n) : MidR es a n k S0 (j + 1) (S.set e.2 true) := by
  have hk : ∀ x : Nat, S[x]? = some true → (S.set e.2 true)[x]? = some true := fun x hx => by
    by_cases q : e.2 = x
    · subst q; rw [List.getElem?_set_self (by rw [h.len]; exact h2)]
    · rw [List.getElem?_set_ne q]; exact hx
  refine ⟨h.old, by rw [List.length_set]; exact h.len, fun x hx => hk x (h.keep x hx), fun x hx => ?_, fun i e' hi he' h3 => ?_⟩
  · by_cases q : e.2 = x
    · subst q
      exact .step (h.from_ _ h1) (List.mem_of_getElem? he)
    · rw [List.getElem?_set_ne q] at hx; exact h.from_ x hx
  · by_cases q : i = j
    · subst q
      rw [he] at he'
      cases he'
      rw [List.getElem?_set_self (by rw [h.len]; exact h2)]
    · exact hk _ (h.proc i e' (by omega) he' h3)
theorem MidR.skip {es : List (Nat × Nat)} {a n k j : Nat} {S0 S : List Bool} {e : Nat × Nat} (h : MidR es a n k S0 j S) (he : es[j]? = some e) (h1 : S[e.1]? = some false) : MidR es a n k S0 (j + 1) S := by
  refine ⟨h.old, h.len, h.keep, h.from_, fun i e' hi he' h3 => ?_⟩
  by_cases q : i = j
  · subst q
    rw [he] at he'
    cases he'
    have := h.keep _ h3
    rw [h1] at this
    cases this
  · exact h.proc i e' (by omega) he' h3
theorem MidR.done {es : List (Nat × Nat)} {a n k : Nat} {S0 S : List Bool} (h : MidR es a n k S0 es.length S) : SetR es a n (k + 1) S := by
  refine ⟨h.len, h.keep _ h.old.at_, h.from_, ?_⟩
  have hproc : ∀ x y, (x, y) ∈ es → S0[x]? = some true → S[y]? = some true := fun x y hm hx => by
    obtain ⟨i, hi⟩ := List.mem_iff_getElem?.1 hm
    exact h.proc i _ (List.getElem?_eq_some_iff.1 hi).1 hi hx
  have hmono := falses_mono S0 S (by rw [h.len, h.old.len]) h.keep
  by_cases hs : ∀ x : Nat, S[x]? = some true → S0[x]? = some true
  · left
    exact fun x y hm hx => hproc x y hm (hs x hx)
  · obtain ⟨x, hx⟩ := Classical.not_forall.1 hs
    obtain ⟨hx1, hx2⟩ := Classical.not_imp.1 hx
    have hxn := (List.getElem?_eq_some_iff.1 hx1).1
    have hx0 : S0[x]? = some false := by
      obtain ⟨b, hb⟩ : ∃ b, S0[x]? = some b := ⟨_, List.getElem?_eq_getElem (by rw [h.old.len, ← h.len]; exact hxn)⟩
      cases b
      · exact hb
      · exact absurd hb hx2
    have h1 := falses_set S0 x hx0
    have h2 := falses_mono (S0.set x true) S (by rw [h.len, List.length_set, h.old.len]) (fun y hy => by
      by_cases q : x = y
      · subst q; exact hx1
      · rw [List.getElem?_set_ne q] at hy; exact h.keep y hy)
    rcases h.old.or_ with h3 | h3
    · left
      intro p q hm hp
      -- what is seen now was reached from what was seen, and that was shut
      have key : ∀ y, Rch es a y → S0[y]? = some true := fun y hy => by
        induction hy with
        | refl => exact h.old.at_
        | step _ he ih => exact h3 _ _ he ih
      exact absurd (key x (h.from_ x hx1)) hx2
    · right; omega
theorem SetR.all {es : List (Nat × Nat)} {a n : Nat} {S : List Bool} (h : SetR es a n n S) : S = fl n (reaB es a) := by
  have hs : Shut es S := by
    rcases h.or_ with h1 | h1
    · exact h1
    · omega
  refine List.ext_getElem? fun x => ?_
  by_cases hx : x < n
  · rw [fl_get _ hx]
    obtain ⟨b, hb⟩ : ∃ b, S[x]? = some b := ⟨_, List.getElem?_eq_getElem (by rw [h.len]; exact hx)⟩
    rw [hb]
    congr 1
    cases b
    · cases hr : reaB es a x
      · rfl
      · have hr := reaB_iff.1 hr
        have key : ∀ y, Rch es a y → S[y]? = some true := fun y hy => by
          induction hy with
          | refl => exact h.at_
          | step _ he ih => exact hs _ _ he ih
        rw [key x hr] at hb
        cases hb
    · exact (reaB_iff.2 (h.from_ x hb)).symm
  · rw [fl_out _ hx, List.getElem?_eq_none (by rw [h.len]; omega)]

structure RB (w : World) (n : Nat) (S : List Bool) (wr : World) : Prop where
  low : Below w.heap.size w wr
  own : Own wr w.heap.size 4 boolf (.slice (some ⟨w.heap.size, 0, none⟩) n n) S

set_option maxRecDepth 100000 in
set_option maxHeartbeats 2000000 in
theorem rreach_any (n a : Nat) (v : Value) (es : List (Nat × Nat)) (w : World) (hg : Dg w n v es) (ha : a < n) :
    Calls Try.prog 41 #[.int .i64 (n : Int), v, .int .i64 (a : Int)] w fun e w' => ∃ u, e = .returned u ∧ Own w' w.heap.size 3 natf u (rlist n es a) ∧ Below w.heap.size w w' := by
  have hn60 := hg.n_le
  have hm := hg.m_le
  have HG := Lib.hid hg
  obtain ⟨eao, ecap, rfl, _⟩ := hg.pairs.open_
  have hmk := fun W => run_make_one (P := Try.prog) 54 4 1 (.bool false) Try.underlying54 (by kernel_rfl) (by omega) n (by omega) W
  obtain ⟨W1, hW1⟩ : ∃ W1, w.alloc (.cells (madeCells #[Value.bool false] n) 4) = W1 := ⟨_, rfl⟩
  have ho1 : Own W1 w.heap.size 4 boolf (.slice (some ⟨w.heap.size, 0, none⟩) n n) (List.replicate n false) := by
    rw [← hW1]
    exact own_made w 4 boolf false (.bool false) rfl n (by omega) w.heap.size (Nat.le_refl _)
  have hb1 : Below w.heap.size w W1 := by rw [← hW1]; exact below_new _ _
  have c1 : W1.cell? ⟨w.heap.size, a, none⟩ = some (.bool false) := ho1.cell (x := false) (by rw [List.getElem?_replicate, if_pos ha])
  have c2 := ho1.free a
  have HR0 : Hid (RB w n ((List.replicate n false).set a true) (W1.setCell ⟨w.heap.size, a, none⟩ (.bool true))) := ⟨hb1.setCell (p := ⟨w.heap.size, a, none⟩) (Nat.le_refl _) _, ho1.set a true⟩
  have HS0 := Lib.hid (SetR.start (es := es) ha)
  have hgl1 := (ho1.lt w.heap.size rfl).2
  have a0 : (0 : Int) ≤ (a : Int) := Int.natCast_nonneg _
  have a1 : (a : Int) < (n : Int) := by omega
  clear hg ho1 hb1
  go_enter Try.func41, Try.ntmps41
  go_wp2_with fail
  clear c1 c2 hW1
  go_loopw [8, 9] (fun s8 _ wr => ∃ (k : Nat) (S : List Bool), k ≤ n ∧ s8 = .int .i64 (k : Int) ∧ Hid (RB w n S wr ∧ SetR es a n k S)) (fun s8 _ _ => n - (intOf s8).toNat)
  case atStart => exact ⟨0, _, Nat.zero_le _, rfl, HR0.out, HS0.out⟩
  case round =>
    clear HR0 HS0
    obtain ⟨k, S, hk, rfl, H⟩ := hrel
    by_cases hkn : k < n
    · have HM0 := Lib.hid (MidR.start H.out.2)
      have HB0 := Lib.hid H.out.1
      obtain ⟨wo, rfl⟩ : ∃ wo : World, wo = wr := ⟨_, rfl⟩
      go_wp2_with fail
      go_loopw [9] (fun s9 wr => ∃ (j : Nat) (T : List Bool), j ≤ es.length ∧ s9 = .int .i64 (j : Int) ∧ Hid (RB w n T wr ∧ MidR es a n k S j T)) (fun s9 _ => es.length - (intOf s9).toNat)
      case atStart => exact ⟨0, S, Nat.zero_le _, rfl, HB0.out, HM0.out⟩
      case round =>
        clear HM0 HB0
        obtain ⟨j, T, hj, rfl, HI⟩ := hrel
        by_cases hjm : j < es.length
        · obtain ⟨e, he⟩ : ∃ e, es[j]? = some e := ⟨_, List.getElem?_eq_getElem hjm⟩
          obtain ⟨x, y⟩ := e
          obtain ⟨hx, hy⟩ := HG.out.ends j _ he
          simp only at hx hy
          obtain ⟨b, off, rfl, hbl, hc1, hc2⟩ := HG.out.pairs.edge he
          have d1 := (HI.out.1.low.cell (p := ⟨b, off + j * 2, none⟩) hbl).trans hc1
          have d2 := (HI.out.1.low.cell (p := ⟨b, off + j * 2 + 1, none⟩) hbl).trans hc2
          have hTl := HI.out.2.len
          obtain ⟨bx, hbx⟩ : ∃ b, T[x]? = some b := ⟨_, List.getElem?_eq_getElem (by omega)⟩
          have c1 := HI.out.1.own.cell hbx
          unfold boolf at c1
          have f1 := HI.out.1.own.free y
          obtain ⟨z2, c2⟩ : ∃ z, wr.cell? ⟨w.heap.size, y, none⟩ = some z := ⟨_, HI.out.1.own.cell (List.getElem?_eq_getElem (by omega))⟩
          have hgl := (HI.out.1.own.lt w.heap.size rfl).2
          have x0 : (0 : Int) ≤ (x : Int) := Int.natCast_nonneg _
          have x1 : (x : Int) < (n : Int) := by omega
          have y0 : (0 : Int) ≤ (y : Int) := Int.natCast_nonneg _
          have y1 : (y : Int) < (n : Int) := by omega
          have j0 : (0 : Int) ≤ (j : Int) := Int.natCast_nonneg _
          have j1 : (j : Int) < (es.length : Int) := by omega
          cases bx
          · have HN := Lib.hid (And.intro HI.out.1 (HI.out.2.skip he hbx))
            clear he hc1 hc2 hbx hTl
            go_wp2
            go_roundw
            case rel => exact ⟨j + 1, T, by omega, by go_num, HN.out⟩
            case measure => simp [intOf]; omega
          · have HN : Hid (RB w n (T.set y true) (wr.setCell ⟨w.heap.size, y, none⟩ (.bool true)) ∧ MidR es a n k S (j + 1) (T.set y true)) := ⟨⟨HI.out.1.low.setCell (p := ⟨w.heap.size, y, none⟩) (Nat.le_refl _) _, HI.out.1.own.set y true⟩, HI.out.2.put he hbx hy⟩
            clear he hc1 hc2 hbx hTl
            go_wp2
            go_roundw
            case rel => exact ⟨j + 1, T.set y true, by omega, by go_num, HN.out⟩
            case measure => simp [intOf]; omega
        · obtain rfl : j = es.length := by omega
          have HN := Lib.hid (And.intro HI.out.1 HI.out.2.done)
          go_wp2
          go_roundw
          case rel => exact ⟨k + 1, T, by omega, by go_num, HN.out⟩
          case measure => simp [intOf]; omega
    · obtain rfl : k = n := by omega
      have HB : Hid (RB w k (fl k (reaB es a)) wr) := by
        rw [← H.out.2.all]; exact H.out.1
      clear H
      obtain ⟨wz, rfl⟩ : ∃ wz : World, wz = wr := ⟨_, rfl⟩
      have hgz := (HB.out.own.lt w.heap.size rfl).2
      go_wp2_with fail
      go_loopw [10, 11] (fun s10 s11 wr => ∃ t : Nat, t ≤ k ∧ s11 = .int .i64 (t : Int) ∧ Hid (Own wr wz.heap.size 3 natf s10 ((List.range t).filter (reaB es a)) ∧ Below wz.heap.size wz wr)) (fun _ s11 _ => k - (intOf s11).toNat)
      case atStart => exact ⟨0, Nat.zero_le _, rfl, Own.nil _ _ _ _, Below.refl _ _⟩
      case round =>
        obtain ⟨t, ht, rfl, H⟩ := hrel
        by_cases htn : t < k
        · have c1 := (H.out.2.cell (p := ⟨w.heap.size, t, none⟩) hgz).trans (HB.out.own.cell (fl_get (reaB es a) htn))
          unfold boolf at c1
          have t0 : (0 : Int) ≤ (t : Int) := Int.natCast_nonneg _
          have t1 : (t : Int) < (k : Int) := by omega
          have HS := Lib.hid (filt_succ (reaB es a) t)
          obtain ⟨b, hb⟩ : ∃ b, reaB es a t = b := ⟨_, rfl⟩
          rw [hb] at c1 HS
          clear hb
          cases b
          · go_wp2
            go_roundw
            case rel => exact ⟨t + 1, by omega, by go_num, by rw [HS.out]; show _ ∧ _; simpa using H.out⟩
            case measure => simp [intOf]; omega
          · have hlen1 : ((List.range t).filter (reaB es a)).length + 1 ≤ 1099511627776 := by
              have := List.length_filter_le (reaB es a) (List.range t)
              rw [List.length_range] at this
              omega
            have hbase := H.out.2.size
            go_wp2_with (at_builtin; refine wpList_push wr rfl _ _ 23 rfl 3 8 elemInt wz.heap.size natf _ ((List.range t).filter (reaB es a)) t rfl H.out.1 rfl rfl hlen1 (by omega) hbase ?_; intro v' w' hown' hg' hat'; have HP : Hid (Own w' wz.heap.size 3 natf v' ((List.range t).filter (reaB es a) ++ [t]) ∧ Below wz.heap.size wz w') := ⟨hown', below_grown H.out.2 hg' hbase (fun g e => (H.out.1.lt g e).1)⟩)
            go_roundw
            case rel => exact ⟨t + 1, by omega, by go_num, by rw [HS.out]; show _ ∧ _; simpa using HP.out⟩
            case measure => simp [intOf]; omega
        · obtain rfl : t = k := by omega
          have hBw := bstep HB.out.low H.out.2
          have hs3 := HB.out.low.size
          go_wp2
          go_ret
          exact ⟨_, rfl, H.out.1.mono hs3, hBw⟩
end Go.Proofs.Ythhhcaleoiopgaa
