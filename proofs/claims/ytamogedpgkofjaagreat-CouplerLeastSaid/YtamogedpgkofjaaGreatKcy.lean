/-
  Base texts, shaken by wip/shake.py: RcP RcA RcB RcC RdC RdD CyM LoM RdF RdG Qun.
-/
import Derived.Deep.RegionHeld
import Derived.Laws.EntriesVeiled
import Derived.Test.YtamogedpgkofjaaGreatKrd
import Derived.Test.YtamogedpgkofjaaGreatKdo
import Derived.Test.YtamogedpgkofjaaGreatKda
import Derived.Test.YtamogedpgkofjaaGreatKmm
import Derived.Test.YtamogedpgkofjaaGreatKfa
namespace Go.Proofs.YtamogedpgkofjaaGreat
section
set_option linter.unusedVariables false

inductive Rch (es : List (Nat × Nat)) : Nat → Nat → Prop
  | refl (x : Nat) : Rch es x x
  | step {x y z : Nat} : Rch es x y → (y, z) ∈ es → Rch es x z
theorem Rch.trans {es : List (Nat × Nat)} {x y z : Nat} (h : Rch es x y) (k : Rch es y z) : Rch es x z := by
  induction k with
  | refl => exact h
  | step _ he ih => exact .step ih he
theorem Rch.one {es : List (Nat × Nat)} {x y : Nat} (h : (x, y) ∈ es) : Rch es x y := .step (.refl x) h
theorem Rch.lt {n : Nat} {es : List (Nat × Nat)} (he : EndsD n es) {x y : Nat} (h : Rch es x y) (hx : x < n) : y < n := by
  cases h with
  | refl => exact hx
  | step _ hm => exact (he.mem hm).2

open Classical in
noncomputable def reaB (es : List (Nat × Nat)) (a x : Nat) : Bool := decide (Rch es a x)
theorem reaB_iff {es : List (Nat × Nat)} {a x : Nat} : reaB es a x = true ↔ Rch es a x := by
  unfold reaB
  exact @decide_eq_true_iff _ (Classical.propDecidable _)

structure VisRel (es : List (Nat × Nat)) (i : Nat) (R R' : List Bool) : Prop where
  len : R'.length = R.length
  keep : ∀ x : Nat, R[x]? = some true → R'[x]? = some true
  at_ : R'[i]? = some true
  from_ : ∀ x : Nat, R'[x]? = some true → R[x]? ≠ some true → Rch es i x
  shut : ∀ x : Nat, R'[x]? = some true → R[x]? ≠ some true → ∀ y, (x, y) ∈ es → R'[y]? = some true
theorem VisRel.old {es : List (Nat × Nat)} {i : Nat} {R : List Bool} (h : R[i]? = some true) : VisRel es i R R :=
  ⟨rfl, fun _ h => h, h, fun x h1 h2 => absurd h1 h2, fun x h1 h2 => absurd h1 h2⟩
structure MidRel (es : List (Nat × Nat)) (l : List Nat) (i : Nat) (R : List Bool) (t : Nat) (S : List Bool) : Prop where
  len : S.length = R.length
  keep : ∀ x : Nat, R[x]? = some true → S[x]? = some true
  at_ : S[i]? = some true
  from_ : ∀ x : Nat, S[x]? = some true → R[x]? ≠ some true → Rch es i x
  shut : ∀ x : Nat, S[x]? = some true → R[x]? ≠ some true → x ≠ i → ∀ y, (x, y) ∈ es → S[y]? = some true
  first : ∀ (j k : Nat), j < t → l[j]? = some k → S[k]? = some true
theorem MidRel.start {es : List (Nat × Nat)} {l : List Nat} {i : Nat} {R : List Bool} (h : R[i]? = some false) : MidRel es l i R 0 (R.set i true) := by
  have hi := (List.getElem?_eq_some_iff.1 h).1
  refine ⟨by simp, fun x hx => ?_, by rw [List.getElem?_set_self hi], fun x hx hno => ?_, fun x hx hno hne => ?_, fun j k hj => by omega⟩
  · rw [List.getElem?_set_ne (fun e => by subst e; rw [h] at hx; cases hx)]; exact hx
  · by_cases e : i = x
    · subst e; exact .refl _
    · rw [List.getElem?_set_ne e] at hx; exact absurd hx hno
  · rw [List.getElem?_set_ne (fun e => hne e.symm)] at hx; exact absurd hx hno
theorem MidRel.next {es : List (Nat × Nat)} {l : List Nat} {i k t : Nat} {R S S' : List Bool} (h : MidRel es l i R t S) (hk : l[t]? = some k) (he : (i, k) ∈ es) (v : VisRel es k S S') : MidRel es l i R (t + 1) S' := by
  refine ⟨v.len.trans h.len, fun x hx => v.keep x (h.keep x hx), v.keep i h.at_, fun x hx hno => ?_, fun x hx hno hne y hy => ?_, fun j q hj hq => ?_⟩
  · by_cases hs : S[x]? = some true
    · exact h.from_ x hs hno
    · exact (Rch.one he).trans (v.from_ x hx hs)
  · by_cases hs : S[x]? = some true
    · exact v.keep y (h.shut x hs hno hne y hy)
    · exact v.shut x hx hs y hy
  · by_cases e : j = t
    · subst e
      rw [hk] at hq
      cases hq
      exact v.at_
    · exact v.keep q (h.first j q (by omega) hq)
theorem MidRel.done {es : List (Nat × Nat)} {l : List Nat} {i t : Nat} {R S : List Bool} (h : MidRel es l i R t S) (ht : l.length ≤ t) (hl : ∀ y, (i, y) ∈ es → y ∈ l) : VisRel es i R S := by
  refine ⟨h.len, h.keep, h.at_, h.from_, fun x hx hno y hy => ?_⟩
  by_cases e : x = i
  · subst e
    obtain ⟨j, hj⟩ := List.mem_iff_getElem?.1 (hl y hy)
    exact h.first j y (by have := (List.getElem?_eq_some_iff.1 hj).1; omega) hj
  · exact h.shut x hx hno e y hy
theorem VisRel.all {es : List (Nat × Nat)} {n i : Nat} {R : List Bool} (h : VisRel es i (List.replicate n false) R) : R = fl n (reaB es i) := by
  have hno : ∀ x : Nat, (List.replicate n false)[x]? ≠ some true := fun x hx => by
    rw [List.getElem?_replicate] at hx
    split at hx <;> simp at hx
  have hl : R.length = n := by rw [h.len]; simp
  refine List.ext_getElem? fun x => ?_
  by_cases hx : x < n
  · rw [fl_get _ hx]
    obtain ⟨b, hb⟩ : ∃ b, R[x]? = some b := ⟨_, List.getElem?_eq_getElem (by omega)⟩
    rw [hb]
    congr 1
    cases b
    · cases hr : reaB es i x
      · rfl
      · have hr := reaB_iff.1 hr
        have key : ∀ y, Rch es i y → R[y]? = some true := fun y hy => by
          induction hy with
          | refl => exact h.at_
          | step _ he ih => exact h.shut _ ih (hno _) _ he
        rw [key x hr] at hb
        cases hb
    · exact (reaB_iff.2 (h.from_ x hb (hno x))).symm
  · rw [fl_out _ hx, List.getElem?_eq_none (by omega)]
end
section
open Go.RowKit
set_option linter.unusedVariables false
attribute [local go_sem ↓] Go.wp_at_zero Go.wp_at_succ

/-- The world of the recursion: but for the flags' block all lies as it lay. -/
structure VS (w Wb : World) (n : Nat) (R : List Bool) (W : World) : Prop where
  base : Wb.grownBy W (some (w.heap.size + 1))
  own : Own W (w.heap.size + 1) 4 boolf (.slice (some ⟨w.heap.size + 1, 0, none⟩) n n) R
theorem VS.set {w Wb W : World} {n : Nat} {R : List Bool} (h : VS w Wb n R W) (i : Nat) (x : Bool) : VS w Wb n (R.set i x) (W.setCell ⟨w.heap.size + 1, i, none⟩ (.bool x)) :=
  ⟨only_trans h.base (only_set W (w.heap.size + 1) i _), h.own.set i x⟩
end
section
open Go.RowKit
set_option linter.unusedVariables false
attribute [local go_sem ↓] Go.wp_at_zero Go.wp_at_succ

theorem filt_succ (p : Nat → Bool) (t : Nat) : (List.range (t + 1)).filter p = (List.range t).filter p ++ (if p t then [t] else []) := by
  rw [List.range_succ, List.filter_append]
  cases h : p t <;> simp [h]
end
section
open Go.RowKit
set_option linter.unusedVariables false
attribute [local go_sem ↓] Go.wp_at_zero Go.wp_at_succ

noncomputable def mutl (es : List (Nat × Nat)) (i k : Nat) : Bool := reaB es i k && reaB es k i
theorem mutl_iff {es : List (Nat × Nat)} {i k : Nat} : mutl es i k = true ↔ Rch es i k ∧ Rch es k i := by
  unfold mutl
  rw [Bool.and_eq_true, reaB_iff, reaB_iff]
structure BM (base : Nat) (n : Nat) (es : List (Nat × Nat)) (v : Value) (vals : List Value) (wr : World) : Prop where
  own : Own wr base 42 rowf v vals
  rows : ∀ (j : Nat) u, vals[j]? = some u → Own wr base 4 boolf u (fl n (reaB es j))
theorem BM.below {base n : Nat} {es : List (Nat × Nat)} {v : Value} {vals : List Value} {wr w1 : World} (h : BM base n es v vals wr) (hb : Below wr.heap.size wr w1) : BM base n es v vals w1 :=
  ⟨h.own.below hb, fun j u hu => (h.rows j u hu).below hb⟩
theorem BM.push {base n : Nat} {es : List (Nat × Nat)} {v v1 u : Value} {vals : List Value} {wr w1 : World} (h : BM base n es v vals wr) (hu : Own wr base 4 boolf u (fl n (reaB es vals.length))) (hg : wr.grownBy w1 v.ownBlock) (ho : Own w1 base 42 rowf v1 (vals ++ [u])) : BM base n es v1 (vals ++ [u]) w1 := by
  refine ⟨ho, fun j x hx => ?_⟩
  have key : ∀ {x : Value} {l : List Bool}, Own wr base 4 boolf x l → Own w1 base 4 boolf x l := fun hx => hx.only hg (fun g e e2 => (hx.apart h.own (by decide)) g e e2)
  by_cases hj : j < vals.length
  · rw [List.getElem?_append_left hj] at hx
    exact key (h.rows j x hx)
  · rw [List.getElem?_append_right (by omega)] at hx
    have hk : j - vals.length = 0 := by
      have := (List.getElem?_eq_some_iff.1 hx).1
      simp at this; omega
    rw [hk] at hx
    cases hx
    have : j = vals.length := by omega
    subst this
    exact key hu
end
section
open Go.RowKit
set_option linter.unusedVariables false
attribute [local go_sem ↓] Go.wp_at_zero Go.wp_at_succ

def toB (es : List (Nat × Nat)) (x k : Nat) : Bool := decide ((x, k) ∈ es)
theorem toB_step {es : List (Nat × Nat)} {j : Nat} {e : Nat × Nat} (he : es[j]? = some e) (x k : Nat) : toB (es.take (j + 1)) x k = if k = e.2 ∧ e.1 = x then true else toB (es.take j) x k := by
  have hlt := (List.getElem?_eq_some_iff.1 he).1
  unfold toB
  rw [List.take_succ_eq_append_getElem hlt, (List.getElem?_eq_some_iff.1 he).2]
  by_cases h : k = e.2 ∧ e.1 = x
  · rw [if_pos h]
    refine dec_yes ?_
    obtain ⟨rfl, rfl⟩ := h
    simp
  · rw [if_neg h]
    refine decide_eq_decide.2 ⟨fun hm => ?_, fun hm => by simp [hm]⟩
    rcases List.mem_append.1 hm with h1 | h1
    · exact h1
    · have := List.mem_singleton.1 h1
      exact absurd ⟨by rw [← this], by rw [← this]⟩ h

set_option maxRecDepth 100000 in
set_option maxHeartbeats 1000000 in
theorem rnext_any (n x : Nat) (v : Value) (es : List (Nat × Nat)) (w : World) (hg : Dg w n v es) (hx : x ≤ 100000) :
    Calls Tryz.prog 88 #[.int .i64 (n : Int), v, .int .i64 (x : Int)] w fun e w' => e = .returned (.slice (some ⟨w.heap.size, 0, none⟩) n n) ∧ Own w' w.heap.size 4 boolf (.slice (some ⟨w.heap.size, 0, none⟩) n n) (fl n (toB es x)) ∧ Below w.heap.size w w' := by
  have hn60 := hg.n_le
  have hm := hg.m_le
  have HG := Lib.hid hg
  obtain ⟨eao, ecap, rfl, _⟩ := hg.pairs.open_
  have hmk := fun W => run_make_one (P := Tryz.prog) 42 4 1 (.bool false) Tryz.underlying42 (by kernel_rfl) (by omega) n (by omega) W
  have HR0 : Hid (Below w.heap.size w (w.alloc (.cells (madeCells (Value.bool false).cells n) 4)) ∧ Own (w.alloc (.cells (madeCells (Value.bool false).cells n) 4)) w.heap.size 4 boolf (.slice (some ⟨w.heap.size, 0, none⟩) n n) (fl n (toB (es.take 0) x))) := by
    refine ⟨below_new _ _, ?_⟩
    have := own_made w 4 boolf false (.bool false) rfl n (by omega) w.heap.size (Nat.le_refl _)
    rw [fl_const, fl_ext (g := toB (es.take 0) x) (fun k hk => by simp [toB])] at this
    exact this
  clear hg
  go_enter Tryz.func88, Tryz.ntmps88
  go_wp2_with fail
  go_loopw [8] (fun s8 wr => ∃ j : Nat, j ≤ es.length ∧ s8 = .int .i64 (j : Int) ∧ Hid (Below w.heap.size w wr ∧ Own wr w.heap.size 4 boolf (.slice (some ⟨w.heap.size, 0, none⟩) n n) (fl n (toB (es.take j) x)))) (fun s8 _ => es.length - (intOf s8).toNat)
  case atStart => exact ⟨0, Nat.zero_le _, rfl, HR0.out⟩
  case round =>
    clear HR0
    obtain ⟨j, hj, rfl, HI⟩ := hrel
    by_cases hjm : j < es.length
    · obtain ⟨e, he⟩ : ∃ e, es[j]? = some e := ⟨_, List.getElem?_eq_getElem hjm⟩
      obtain ⟨a, b⟩ := e
      obtain ⟨ha, hb⟩ := HG.out.ends j _ he
      simp only at ha hb
      obtain ⟨eb, off, rfl, hbl, hc1, hc2⟩ := HG.out.pairs.edge he
      have d1 := (HI.out.1.cell (p := ⟨eb, off + j * 2, none⟩) hbl).trans hc1
      have d2 := (HI.out.1.cell (p := ⟨eb, off + j * 2 + 1, none⟩) hbl).trans hc2
      have f1 := HI.out.2.free b
      obtain ⟨z2, c2⟩ : ∃ z, wr.cell? ⟨w.heap.size, b, none⟩ = some z := ⟨_, HI.out.2.cell (fl_get _ hb)⟩
      have b0 : (0 : Int) ≤ (b : Int) := Int.natCast_nonneg _
      have b1 : (b : Int) < (n : Int) := by omega
      have j0 : (0 : Int) ≤ (j : Int) := Int.natCast_nonneg _
      have j1 : (j : Int) < (es.length : Int) := by omega
      have HST := Lib.hid (fun k => toB_step he x k)
      clear he hc1 hc2
      by_cases hax : a = x
      · have hq : ((a : Int) == (x : Int)) = true := beq_yes (by omega)
        have HN : Hid (Below w.heap.size w (wr.setCell ⟨w.heap.size, b, none⟩ (.bool true)) ∧ Own (wr.setCell ⟨w.heap.size, b, none⟩ (.bool true)) w.heap.size 4 boolf (.slice (some ⟨w.heap.size, 0, none⟩) n n) (fl n (toB (es.take (j + 1)) x))) := by
          refine ⟨HI.out.1.setCell (p := ⟨w.heap.size, b, none⟩) (Nat.le_refl _) _, ?_⟩
          have := HI.out.2.set b true
          rw [fl_set, fl_ext (g := toB (es.take (j + 1)) x) (fun k hk => by
            rw [HST.out]
            by_cases e : k = b
            · rw [if_pos e, if_pos ⟨e, hax⟩]
            · rw [if_neg e, if_neg (fun h => e h.1)])] at this
          exact this
        have hgl := (HI.out.2.lt w.heap.size rfl).2
        clear hax
        go_wp2
        go_roundw
        case rel => exact ⟨j + 1, by omega, by go_num, HN.out⟩
        case measure => simp [intOf]; omega
      · have hq : ((a : Int) == (x : Int)) = false := beq_no (by omega)
        have HN : Hid (Below w.heap.size w wr ∧ Own wr w.heap.size 4 boolf (.slice (some ⟨w.heap.size, 0, none⟩) n n) (fl n (toB (es.take (j + 1)) x))) := by
          refine ⟨HI.out.1, ?_⟩
          have := HI.out.2
          rw [fl_ext (g := toB (es.take (j + 1)) x) (fun k hk => by rw [HST.out, if_neg (fun h => hax h.2)])] at this
          exact this
        clear hax
        go_wp2
        go_roundw
        case rel => exact ⟨j + 1, by omega, by go_num, HN.out⟩
        case measure => simp [intOf]; omega
    · obtain rfl : j = es.length := by omega
      have HN : Hid (Below w.heap.size w wr ∧ Own wr w.heap.size 4 boolf (.slice (some ⟨w.heap.size, 0, none⟩) n n) (fl n (toB es x))) := by
        have := HI.out
        rw [List.take_length] at this
        exact this
      go_wp2
      go_ret
      exact ⟨rfl, HN.out.2, HN.out.1⟩

def downF (p : Nat → Bool) (n t x : Nat) : Nat := (((List.range n).drop t).find? p).getD x
theorem downF_top (p : Nat → Bool) (n x : Nat) : downF p n n x = x := by
  unfold downF
  rw [List.drop_of_length_le (by simp)]; rfl
theorem downF_step (p : Nat → Bool) {n t : Nat} (x : Nat) (h : t < n) : downF p n t x = if p t then t else downF p n (t + 1) x := by
  unfold downF
  rw [List.drop_eq_getElem_cons (by simpa using h), List.getElem_range, List.find?_cons]
  cases p t <;> simp
theorem downF_zero (p : Nat → Bool) (n x : Nat) : downF p n 0 x = ((List.range n).find? p).getD x := rfl
theorem downF_nexts {n : Nat} {es : List (Nat × Nat)} {y : Nat} {q : Nat → Bool} {k : Nat} (x : Nat) (h : (nextsS n es y).find? q = some k) : downF (fun i => toB es y i && q i) n 0 x = k := by
  rw [downF_zero]
  unfold nextsS at h
  rw [List.find?_filter] at h
  show ((List.range n).find? fun i => decide ((y, i) ∈ es) && q i).getD x = k
  have e : (fun i => decide (decide ((y, i) ∈ es) = true ∧ q i = true)) = (fun i => decide ((y, i) ∈ es) && q i) := by
    funext i
    cases hq : q i <;> simp
  first
    | (rw [e] at h; rw [h]; rfl)
    | (rw [h]; rfl)
end
section
open Go.RowKit
set_option linter.unusedVariables false
attribute [local go_sem ↓] Go.wp_at_zero Go.wp_at_succ

structure RP (W3 : World) (v : Value) (out : List Nat) (wr : World) : Prop where
  low : Below W3.heap.size W3 wr
  out_ : Own wr W3.heap.size 3 natf v out
end
section
set_option linter.unusedVariables false

theorem sub_len : ∀ (l D : List Nat), l.Nodup → (∀ x ∈ l, x ∈ D) → l.length ≤ D.length
  | [], D, _, _ => by simp
  | a :: l, D, hn, h => by
    obtain ⟨h1, h2⟩ := List.nodup_cons.1 hn
    have ih := sub_len l (D.erase a) h2 (fun x hx => (List.mem_erase_of_ne (fun e => by subst e; exact h1 hx)).2 (h x (by simp [hx])))
    rw [List.length_erase_of_mem (h a (by simp))] at ih
    have : 0 < D.length := List.length_pos_of_mem (h a (by simp))
    simp; omega
theorem countP_lt {α : Type} {P Q : α → Bool} : ∀ l : List α, (∀ a ∈ l, P a = true → Q a = true) → (∃ z ∈ l, Q z = true ∧ P z = false) → l.countP P < l.countP Q
  | [], _, h => by obtain ⟨z, hz, _⟩ := h; simp at hz
  | a :: l, h, hz => by
    rw [List.countP_cons, List.countP_cons]
    have hmono : l.countP P ≤ l.countP Q := List.countP_mono_left (fun x hx => h x (by simp [hx]))
    obtain ⟨z, hz1, hz2, hz3⟩ := hz
    rcases List.mem_cons.1 hz1 with rfl | hz1
    · rw [hz2, hz3]; simp; omega
    · have ih := countP_lt l (fun x hx => h x (by simp [hx])) ⟨z, hz1, hz2, hz3⟩
      have ha := h a (by simp)
      cases h1 : P a
      · cases Q a <;> simp <;> omega
      · rw [ha h1]; simp; omega

def hasCyc (es : List (Nat × Nat)) : Prop := ∃ x y, (x, y) ∈ es ∧ Rch es y x
noncomputable def cntR (n : Nat) (es : List (Nat × Nat)) (x : Nat) : Nat := (List.range n).countP fun y => reaB es y x
theorem cyc_of_pred {n : Nat} {es : List (Nat × Nat)} {S : Nat → Prop} (hS : ∀ x, S x → x < n) (hp : ∀ x, S x → ∃ p, S p ∧ (p, x) ∈ es) : ∀ (m x : Nat), S x → cntR n es x ≤ m → hasCyc es := by
  intro m
  induction m with
  | zero =>
    intro x hx hc
    have : 0 < cntR n es x := List.countP_pos_iff.2 ⟨x, List.mem_range.2 (hS x hx), reaB_iff.2 (.refl x)⟩
    omega
  | succ m ih =>
    intro x hx hc
    obtain ⟨p, hp1, hp2⟩ := hp x hx
    by_cases h : Rch es x p
    · exact ⟨p, x, hp2, h⟩
    · refine ih p hp1 ?_
      have : cntR n es p < cntR n es x := countP_lt _ (fun y _ hy => reaB_iff.2 ((reaB_iff.1 hy).trans (Rch.one hp2))) ⟨x, List.mem_range.2 (hS x hx), reaB_iff.2 (.refl x), by
        cases hr : reaB es x p
        · rfl
        · exact absurd (reaB_iff.1 hr) h⟩
      omega
theorem ordTo_fail {n : Nat} {es : List (Nat × Nat)} : ∀ k, ordTo n es k = none → ∃ j D, j < k ∧ ordTo n es j = some D ∧ nextFree n es D = none := by
  intro k
  induction k with
  | zero => intro h; cases h
  | succ k ih =>
    intro h
    cases hk : ordTo n es k with
    | none =>
      obtain ⟨j, D, hj, h1, h2⟩ := ih hk
      exact ⟨j, D, by omega, h1, h2⟩
    | some D =>
      refine ⟨k, D, by omega, hk, ?_⟩
      rw [ordTo, hk] at h
      simp only at h
      cases hf : nextFree n es D with
      | none => rfl
      | some i => rw [hf] at h; cases h
theorem order_none {n : Nat} {es : List (Nat × Nat)} (he : EndsD n es) (h : orderOf n es = none) : hasCyc es := by
  obtain ⟨j, D, hj, h1, h2⟩ := ordTo_fail n h
  obtain ⟨hl, ho⟩ := ordTo_ok j D h1
  have hno := nextFree_none h2
  have hex : ∃ i, i < n ∧ i ∉ D := by
    refine Classical.byContradiction fun hc => ?_
    have := sub_len (List.range n) D List.nodup_range (fun x hx => Classical.byContradiction fun hx2 => hc ⟨x, List.mem_range.1 hx, hx2⟩)
    rw [List.length_range] at this
    omega
  obtain ⟨i, hi, hiD⟩ := hex
  refine cyc_of_pred (n := n) (S := fun x => x < n ∧ x ∉ D) (fun x h => h.1) (fun x hx => ?_) _ i ⟨hi, hiD⟩ (Nat.le_refl _)
  have hav := hno x hx.1
  refine Classical.byContradiction fun hc => ?_
  have : avail es D x = true := avail_iff.2 ⟨hx.2, fun e hm e2 => Classical.byContradiction fun h3 => hc ⟨e.1, ⟨(he.mem hm).1, h3⟩, by rw [← e2]; exact hm⟩⟩
  rw [hav] at this
  cases this
theorem ord_rch {n : Nat} {es : List (Nat × Nat)} {D : List Nat} (he : EndsD n es) (h : orderOf n es = some D) {x y : Nat} (hr : Rch es x y) : D.idxOf x ≤ D.idxOf y := by
  induction hr with
  | refl => exact Nat.le_refl _
  | @step y z _ hm ih =>
    have hz : z < n := (he.mem hm).2
    have := (ord_edge h (nextsS_mem.2 ⟨hz, hm⟩)).2.2
    omega
theorem order_some {n : Nat} {es : List (Nat × Nat)} {D : List Nat} (he : EndsD n es) (h : orderOf n es = some D) : ¬ hasCyc es := by
  rintro ⟨x, y, hm, hr⟩
  have hy : y < n := (he.mem hm).2
  have h1 := (ord_edge h (nextsS_mem.2 ⟨hy, hm⟩)).2.2
  have h2 := ord_rch he h hr
  omega

def turn (es : List (Nat × Nat)) : List (Nat × Nat) := es.map fun e => (e.2, e.1)
end
section
set_option linter.unusedVariables false

theorem far_rch {es : List (Nat × Nat)} {b : Nat} {d : Nat → Int} (h : IsFar es b d) : ∀ (m : Nat) v, d v = m → Rch es v b := by
  intro m
  induction m with
  | zero =>
    intro v hv
    rcases h.from_ v with h1 | ⟨rfl, _⟩ | ⟨h1, _⟩
    · omega
    · exact .refl _
    · omega
  | succ m ih =>
    intro v hv
    rcases h.from_ v with h1 | ⟨rfl, _⟩ | ⟨_, k, h1, h2⟩
    · omega
    · exact .refl _
    · exact (Rch.one h1).trans (ih k (by omega))
theorem rch_far {es : List (Nat × Nat)} {b : Nat} {d : Nat → Int} (h : IsFar es b d) {v : Nat} (hr : Rch es v b) : 0 ≤ d v := by
  have key : ∀ x y, Rch es x y → 0 ≤ d y → 0 ≤ d x := by
    intro x y hr
    induction hr with
    | refl => exact fun h => h
    | step _ hm ih => exact fun hz => ih (h.to_ _ hz _ hm).1
  exact key v b hr (by rw [h.zero]; exact Int.le_refl _)
theorem far_zero {es : List (Nat × Nat)} {b v : Nat} {d : Nat → Int} (h : IsFar es b d) (hv : d v = 0) : v = b := by
  rcases h.from_ v with h1 | ⟨rfl, _⟩ | ⟨h1, _⟩
  · omega
  · rfl
  · omega
theorem leastM_le {d : Nat → Int} {l : List Nat} {k : Nat} : k ∈ l → 0 ≤ d k → 0 ≤ leastM d l := by
  refine snoc_ind (p := fun l => k ∈ l → 0 ≤ d k → 0 ≤ leastM d l) (fun h => by simp at h) (fun l j ih h h0 => ?_) l
  rw [leastM_snoc]
  unfold leastStep
  rcases List.mem_append.1 h with h | h
  · have := ih h h0
    split
    · next hh => exact hh.1
    · exact this
  · rw [List.mem_singleton] at h
    subst h
    split
    · exact h0
    · next hh =>
      rcases Int.lt_or_le (leastM d l) 0 with h1 | h1
      · exact absurd ⟨h0, .inl h1⟩ hh
      · exact h1
structure IsLoop (n : Nat) (es : List (Nat × Nat)) (L : List Nat) : Prop where
  pos : 0 < L.length
  lt : ∀ x ∈ L, x < n
  nodup : L.Nodup
  edge : ∀ (j x y : Nat), L[j]? = some x → L[j + 1]? = some y → (x, y) ∈ es
  back : ∀ x y, L[0]? = some x → L[L.length - 1]? = some y → (y, x) ∈ es
  near : ∀ x ∈ L, ∀ y, L[0]? = some y → mutl es y x = true
/-- The walk along the distances. -/
theorem walk_loop {n : Nat} {es : List (Nat × Nat)} {b : Nat} {d : Nat → Int} (h : IsFar es b d) (he : EndsD n es) : ∀ (f x : Nat), (f = 0 ∨ ∃ k ∈ nextsS n es x, d k = (f : Int)) →
    (loopWalk n es d f x).length = f ∧ (∀ (j y : Nat), (loopWalk n es d f x)[j]? = some y → d y = (f : Int) - j ∧ y < n ∧ Rch es x y) ∧ (∀ y, (loopWalk n es d f x)[0]? = some y → (x, y) ∈ es) ∧ ∀ (j y z : Nat), (loopWalk n es d f x)[j]? = some y → (loopWalk n es d f x)[j + 1]? = some z → (y, z) ∈ es := by
  intro f
  induction f with
  | zero =>
    intro x _
    have e0 : loopWalk n es d 0 x = [] := rfl
    rw [e0]
    exact ⟨rfl, fun j y hy => by simp at hy, fun y hy => by simp at hy, fun j y z hy => by simp at hy⟩
  | succ f ih =>
    intro x hx
    obtain ⟨k0, hk0, hd0⟩ : ∃ k ∈ nextsS n es x, d k = ((f + 1 : Nat) : Int) := by
      rcases hx with h1 | h1
      · omega
      · exact h1
    have hdd : ∃ k ∈ nextsS n es x, (fun k => d k == ((f + 1 : Nat) : Int)) k = true := ⟨k0, hk0, by simpa using hd0⟩
    obtain ⟨j0, k, hj, hpk, _, hfind⟩ := find_at hdd
    have hk := nextsS_mem.1 (List.mem_of_getElem? hj)
    have hdk : d k = ((f + 1 : Nat) : Int) := by simpa using hpk
    have hnx : f = 0 ∨ ∃ k' ∈ nextsS n es k, d k' = (f : Int) := by
      by_cases h0 : f = 0
      · exact .inl h0
      · right
        rcases h.from_ k with h1 | ⟨_, h1⟩ | ⟨_, k', h1, h2⟩
        · omega
        · omega
        · exact ⟨k', nextsS_mem.2 ⟨(he.mem h1).2, h1⟩, by omega⟩
    obtain ⟨i1, i2, i3, i4⟩ := ih k hnx
    rw [loopWalk_step hfind]
    refine ⟨by simp [i1], fun j y hy => ?_, fun y hy => ?_, fun j y z hy hz => ?_⟩
    · cases j with
      | zero => simp at hy; subst hy; exact ⟨by rw [hdk]; omega, hk.1, Rch.one hk.2⟩
      | succ j =>
        rw [List.getElem?_cons_succ] at hy
        obtain ⟨a1, a2, a3⟩ := i2 j y hy
        exact ⟨by rw [a1]; omega, a2, (Rch.one hk.2).trans a3⟩
    · simp at hy; subst hy; exact hk.2
    · rw [List.getElem?_cons_succ] at hz
      cases j with
      | zero =>
        simp at hy
        subst hy
        exact i3 z hz
      | succ j =>
        rw [List.getElem?_cons_succ] at hy
        exact i4 j y z hy hz
theorem loopAt_is {n : Nat} {es : List (Nat × Nat)} {s : Nat} {d : Nat → Int} {L : List Nat} (h : IsFar es s d) (he : EndsD n es) (hs : s < n) (hL : loopAt n es d s = some L) : IsLoop n es L := by
  unfold loopAt at hL
  split at hL
  · cases hL
  · next hm =>
    cases hL
    rcases leastM_is d (nextsS n es s) with h1 | ⟨h1, k, hk, hd⟩
    · omega
    · obtain ⟨M, hM⟩ := Int.eq_ofNat_of_zero_le h1
      rw [hM] at hd ⊢
      rw [show (M : Int).toNat = M from rfl]
      obtain ⟨i1, i2, i3, i4⟩ := walk_loop h he M s (.inr ⟨k, hk, hd⟩)
      have hall : ∀ (j y : Nat), (s :: loopWalk n es d M s)[j]? = some y → y < n ∧ Rch es s y ∧ 0 ≤ d y ∧ (j = 0 → y = s) ∧ (0 < j → d y = (M : Int) - ((j : Int) - 1) ∧ j ≤ M) := by
        intro j y hy
        cases j with
        | zero => simp at hy; subst hy; exact ⟨hs, .refl _, by rw [h.zero]; exact Int.le_refl _, fun _ => rfl, fun h => by omega⟩
        | succ j =>
          rw [List.getElem?_cons_succ] at hy
          obtain ⟨a1, a2, a3⟩ := i2 j y hy
          have hlt := (List.getElem?_eq_some_iff.1 hy).1
          exact ⟨a2, a3, by rw [a1]; omega, fun h => by omega, fun _ => ⟨by rw [a1]; omega, by omega⟩⟩
      have hlen : (s :: loopWalk n es d M s).length = M + 1 := by simp [i1]
      refine ⟨by rw [hlen]; omega, fun x hx => ?_, ?_, fun j x y hx hy => ?_, fun x y hx hy => ?_, fun x hx y hy => ?_⟩
      · obtain ⟨j, hj⟩ := List.mem_iff_getElem?.1 hx
        exact (hall j x hj).1
      · rw [List.nodup_iff_pairwise_ne, List.pairwise_iff_getElem]
        intro i j hi hj hij heq
        have h1 := hall i _ (List.getElem?_eq_getElem hi)
        have h2 := hall j _ (List.getElem?_eq_getElem hj)
        rw [heq] at h1
        obtain ⟨b1, b2⟩ := h2.2.2.2.2 (by omega)
        by_cases h0 : i = 0
        · have := h1.2.2.2.1 h0
          rw [this, h.zero] at b1
          omega
        · obtain ⟨c1, c2⟩ := h1.2.2.2.2 (by omega)
          omega
      · rw [List.getElem?_cons_succ] at hy
        cases j with
        | zero => simp at hx; subst hx; exact i3 y hy
        | succ j =>
          rw [List.getElem?_cons_succ] at hx
          exact i4 j x y hx hy
      · simp at hx
        subst hx
        rw [hlen, Nat.add_sub_cancel] at hy
        by_cases h0 : M = 0
        · subst h0
          simp at hy
          subst hy
          have := far_zero h hd
          subst this
          exact (nextsS_mem.1 hk).2
        · obtain ⟨b1, _⟩ := (hall M y hy).2.2.2.2 (by omega)
          rcases h.from_ y with c1 | ⟨_, c1⟩ | ⟨_, q, c1, c2⟩
          · omega
          · omega
          · have := far_zero h (show d q = 0 by omega)
            subst this
            exact c1
      · simp at hy
        subst hy
        obtain ⟨j, hj⟩ := List.mem_iff_getElem?.1 hx
        obtain ⟨_, a2, a3, _⟩ := hall j x hj
        obtain ⟨m, hm⟩ := Int.eq_ofNat_of_zero_le a3
        exact mutl_iff.2 ⟨a2, far_rch h m x hm⟩
theorem loopAt_none {n : Nat} {es : List (Nat × Nat)} {s : Nat} {d : Nat → Int} (h : IsFar es s d) (hL : loopAt n es d s = none) : ∀ k ∈ nextsS n es s, ¬ Rch es k s := by
  intro k hk hr
  unfold loopAt at hL
  split at hL
  · next hm =>
    have := leastM_le hk (rch_far h hr)
    omega
  · cases hL
/-- The distances exist. -/
def AllFar (n : Nat) (es : List (Nat × Nat)) : Prop := ∀ s, s < n → IsFar es s (farD es s)
theorem loop_some {n : Nat} {es : List (Nat × Nat)} (he : EndsD n es) (ha : AllFar n es) : ∀ k, k ≤ n → ∀ L, loopFrom n es k = some L → IsLoop n es L := by
  intro k
  induction k with
  | zero => intro _ L h; cases h
  | succ k ih =>
    intro hk L h
    rw [loopFrom] at h
    cases h1 : loopFrom n es k with
    | some L' =>
      rw [h1] at h
      cases h
      exact ih (by omega) L h1
    | none =>
      rw [h1] at h
      exact loopAt_is (ha k (by omega)) he (by omega) h
theorem loop_none {n : Nat} {es : List (Nat × Nat)} (he : EndsD n es) (ha : AllFar n es) (h : loopOf n es = none) : ¬ hasCyc es := by
  have key : ∀ k, k ≤ n → loopFrom n es k = none → ∀ s, s < k → ∀ q ∈ nextsS n es s, ¬ Rch es q s := by
    intro k
    induction k with
    | zero => intro _ _ s hs; omega
    | succ k ih =>
      intro hk h s hs
      rw [loopFrom] at h
      cases h1 : loopFrom n es k with
      | some L' => rw [h1] at h; cases h
      | none =>
        rw [h1] at h
        by_cases e : s = k
        · subst e; exact loopAt_none (ha s (by omega)) h
        · exact ih (by omega) h1 s (by omega)
  rintro ⟨x, y, hm, hr⟩
  exact key n (Nat.le_refl _) h x (he.mem hm).1 y (nextsS_mem.2 ⟨(he.mem hm).2, hm⟩) hr
theorem loop_cyc {n : Nat} {es : List (Nat × Nat)} {L : List Nat} (h : IsLoop n es L) : hasCyc es := by
  have hp := h.pos
  obtain ⟨x, hx⟩ : ∃ x, L[0]? = some x := ⟨_, List.getElem?_eq_getElem hp⟩
  obtain ⟨y, hy⟩ : ∃ y, L[L.length - 1]? = some y := ⟨_, List.getElem?_eq_getElem (by omega)⟩
  exact ⟨y, x, h.back x y hx hy, (mutl_iff.1 (h.near y (List.mem_of_getElem? hy) x hx)).1⟩
def stepsTo (es : List (Nat × Nat)) (b : Nat) : Nat → Nat → Prop
  | 0, v => v = b
  | k + 1, v => ∃ q, (v, q) ∈ es ∧ stepsTo es b k q
theorem least_ex {P : Nat → Prop} : (∃ k, P k) → ∃ k, P k ∧ ∀ j, j < k → ¬ P j := by
  rintro ⟨k, hk⟩
  induction k using Nat.strongRecOn with
  | _ k ih =>
    by_cases h : ∃ j, j < k ∧ P j
    · obtain ⟨j, hj, hp⟩ := h
      exact ih j hj hp
    · exact ⟨k, hk, fun j hj hp => h ⟨j, hj, hp⟩⟩
open Classical in
noncomputable def distN (es : List (Nat × Nat)) (b v : Nat) : Int := if h : ∃ k, stepsTo es b k v then ((least_ex h).choose : Int) else -1
theorem distN_some {es : List (Nat × Nat)} {b v k : Nat} (h : stepsTo es b k v) : ∃ m : Nat, distN es b v = (m : Int) ∧ stepsTo es b m v ∧ m ≤ k := by
  have hex : ∃ k, stepsTo es b k v := ⟨k, h⟩
  refine ⟨(least_ex hex).choose, by unfold distN; rw [dif_pos hex], (least_ex hex).choose_spec.1, ?_⟩
  refine Nat.not_lt.1 fun hlt => (least_ex hex).choose_spec.2 k hlt h
theorem distN_cases (es : List (Nat × Nat)) (b v : Nat) : distN es b v = -1 ∨ ∃ m : Nat, distN es b v = (m : Int) ∧ stepsTo es b m v := by
  by_cases h : ∃ k, stepsTo es b k v
  · obtain ⟨k, hk⟩ := h
    obtain ⟨m, h1, h2, _⟩ := distN_some hk
    exact .inr ⟨m, h1, h2⟩
  · left
    unfold distN
    rw [dif_neg h]
theorem distN_far (es : List (Nat × Nat)) (b : Nat) : IsFar es b (distN es b) := by
  have h0 : distN es b b = 0 := by
    obtain ⟨m, h1, _, h3⟩ := distN_some (es := es) (b := b) (v := b) (k := 0) rfl
    rw [h1]; omega
  refine ⟨h0, fun v => ?_, fun v hv i hi => ?_⟩
  · rcases distN_cases es b v with h | ⟨m, h1, h2⟩
    · exact .inl h
    · cases m with
      | zero => exact .inr (.inl ⟨h2, by rw [h1]; rfl⟩)
      | succ m =>
        obtain ⟨q, hq, hs⟩ := h2
        obtain ⟨m2, k1, k2, k3⟩ := distN_some hs
        obtain ⟨m3, j1, _, j3⟩ := distN_some (show stepsTo es b (m2 + 1) v from ⟨q, hq, k2⟩)
        rw [h1] at j1
        exact .inr (.inr ⟨by rw [h1]; omega, q, hq, by rw [h1, k1]; omega⟩)
  · rcases distN_cases es b v with h | ⟨m, h1, h2⟩
    · omega
    · obtain ⟨m2, k1, _, k3⟩ := distN_some (show stepsTo es b (m + 1) i from ⟨v, hi, h2⟩)
      rw [k1, h1]; omega
theorem all_far (n : Nat) (es : List (Nat × Nat)) : AllFar n es := fun s _ => by
  have := distN_far es s
  rw [farD_eq this]; exact this
end
section
open Go.RowKit
set_option linter.unusedVariables false
attribute [local go_sem ↓] Go.wp_at_zero Go.wp_at_succ

theorem far_list {n b : Nat} {es : List (Nat × Nat)} {d : Nat → Int} (h : IsFar es b d) (he : EndsD n es) : ∀ (m v : Nat), d v = m → v < n → ∃ L : List Nat, L.length = m + 1 ∧ L.Nodup ∧ ∀ x ∈ L, x < n ∧ d x ≤ m := by
  intro m
  induction m with
  | zero => exact fun v hv hn => ⟨[v], rfl, by simp, fun x hx => by rw [List.mem_singleton.1 hx]; exact ⟨hn, by omega⟩⟩
  | succ m ih =>
    intro v hv hn
    rcases h.from_ v with h1 | ⟨_, h1⟩ | ⟨_, k, h1, h2⟩
    · omega
    · omega
    · obtain ⟨L, l1, l2, l3⟩ := ih k (by omega) (he.mem h1).2
      refine ⟨v :: L, by simp [l1], List.nodup_cons.2 ⟨fun hm => by have := (l3 v hm).2; omega, l2⟩, fun x hx => ?_⟩
      rcases List.mem_cons.1 hx with rfl | hx
      · exact ⟨hn, by omega⟩
      · have := l3 x hx; exact ⟨this.1, by omega⟩
theorem far_lt {n b : Nat} {es : List (Nat × Nat)} {d : Nat → Int} (h : IsFar es b d) (he : EndsD n es) {v : Nat} (hv : v < n) : d v < n := by
  rcases Int.lt_or_le (d v) 0 with h1 | h1
  · omega
  · obtain ⟨m, hm⟩ := Int.eq_ofNat_of_zero_le h1
    obtain ⟨L, l1, l2, l3⟩ := far_list h he m v hm hv
    have := nodup_len_le n L l2 (fun x hx => (l3 x hx).1)
    omega

def farW (n : Nat) (d : Nat → Int) (i : Nat) : Int := if 0 ≤ d i then d i else (n : Int) + 1
structure FarI (n : Nat) (d : Nat → Int) (k : Nat) (A : List Int) : Prop where
  len : A.length = n
  lo : ∀ i, i < n → farW n d i ≤ A.getD i 0
  hi : ∀ i, i < n → A.getD i 0 ≤ (n : Int) + 1
  ex : ∀ i, i < n → 0 ≤ d i → d i ≤ k → A.getD i 0 = d i
def FarP (es : List (Nat × Nat)) (d : Nat → Int) (k j : Nat) (A : List Int) : Prop := ∀ (i : Nat) e, i < j → es[i]? = some e → d e.2 = k → A.getD e.1 0 ≤ (k : Int) + 1
theorem FarI.step {n b k j : Nat} {es : List (Nat × Nat)} {d : Nat → Int} {A : List Int} {e : Nat × Nat} (hd : IsFar es b d) (he : EndsD n es) (h : FarI n d k A) (hp : FarP es d k j A) (hj : es[j]? = some e) :
    (A.getD e.2 0 + 1 < A.getD e.1 0 → FarI n d k (A.set e.1 (A.getD e.2 0 + 1)) ∧ FarP es d k (j + 1) (A.set e.1 (A.getD e.2 0 + 1))) ∧ (¬ A.getD e.2 0 + 1 < A.getD e.1 0 → FarP es d k (j + 1) A) := by
  have hee := he j e hj
  have hm := List.mem_of_getElem? hj
  have h2 := h.lo e.2 hee.2
  have h2h := h.hi e.2 hee.2
  have h1h := h.hi e.1 hee.1
  have hto := hd.to_ e.2
  refine ⟨fun hlt => ?_, fun hge => fun i e' hi he' hk => ?_⟩
  · have hd2 : 0 ≤ d e.2 := by
      rcases Int.lt_or_le (d e.2) 0 with h0 | h0
      · unfold farW at h2
        rw [if_neg (by omega)] at h2
        omega
      · exact h0
    have hd1 := hto hd2 e.1 hm
    have hlow : farW n d e.1 ≤ A.getD e.2 0 + 1 := by
      unfold farW at h2 ⊢
      rw [if_pos hd2] at h2
      rw [if_pos hd1.1]
      omega
    have hl := h.len
    refine ⟨⟨by rw [List.length_set]; exact hl, fun i hi => ?_, fun i hi => ?_, fun i hi h0 hk => ?_⟩, fun i e' hi he' hk => ?_⟩
    · rw [getD_set (by omega)]
      by_cases q : i = e.1
      · rw [if_pos q, q]; exact hlow
      · rw [if_neg q]; exact h.lo i hi
    · rw [getD_set (by omega)]
      by_cases q : i = e.1
      · rw [if_pos q]; omega
      · rw [if_neg q]; exact h.hi i hi
    · rw [getD_set (by omega)]
      by_cases q : i = e.1
      · have hx := h.ex i hi h0 hk
        subst q
        unfold farW at hlow
        rw [if_pos h0] at hlow
        omega
      · rw [if_neg q]; exact h.ex i hi h0 hk
    · rw [getD_set (by omega)]
      by_cases q : e'.1 = e.1
      · rw [if_pos q]
        by_cases qi : i = j
        · subst qi
          rw [hj] at he'
          cases he'
          have := h.ex e.2 hee.2 (by omega) (by omega)
          omega
        · have := hp i e' (by omega) he' hk
          rw [q] at this
          omega
      · rw [if_neg q]
        by_cases qi : i = j
        · subst qi
          rw [hj] at he'
          cases he'
          exact absurd rfl q
        · exact hp i e' (by omega) he' hk
  · by_cases qi : i = j
    · subst qi
      rw [hj] at he'
      cases he'
      have := h.ex e.2 hee.2 (by omega) (by omega)
      omega
    · exact hp i e' (by omega) he' hk
theorem FarI.done {n b k : Nat} {es : List (Nat × Nat)} {d : Nat → Int} {A : List Int} (hd : IsFar es b d) (h : FarI n d k A) (hp : FarP es d k es.length A) : FarI n d (k + 1) A := by
  refine ⟨h.len, h.lo, h.hi, fun i hi h0 hk => ?_⟩
  by_cases q : d i ≤ k
  · exact h.ex i hi h0 q
  · rcases hd.from_ i with h1 | ⟨_, h1⟩ | ⟨_, x, hx, hx2⟩
    · omega
    · omega
    · obtain ⟨t, ht⟩ := List.mem_iff_getElem?.1 hx
      have h3 := hp t (i, x) (List.getElem?_eq_some_iff.1 ht).1 ht (show d x = k by omega)
      have h4 := h.lo i hi
      unfold farW at h4
      rw [if_pos h0] at h4
      simp only at h3
      omega
theorem FarI.start {n b : Nat} {es : List (Nat × Nat)} {d : Nat → Int} (hd : IsFar es b d) (he : EndsD n es) (hb : b < n) : FarI n d 0 ((fl n (fun _ => (n : Int) + 1)).set b 0) := by
  have hg : ∀ i, i < n → ((fl n (fun _ => (n : Int) + 1)).set b 0).getD i 0 = if i = b then 0 else (n : Int) + 1 := fun i hi => by
    rw [fl_set, List.getD_eq_getElem?_getD, fl_get _ hi]; rfl
  refine ⟨by rw [List.length_set, fl_len], fun i hi => ?_, fun i hi => ?_, fun i hi h0 hk => ?_⟩
  · rw [hg i hi]
    unfold farW
    have := far_lt hd he hi
    by_cases q : i = b
    · subst q
      rw [if_pos rfl, hd.zero]; simp
    · rw [if_neg q]
      split <;> omega
  · rw [hg i hi]; split <;> omega
  · have := far_zero hd (show d i = 0 by omega)
    rw [hg i hi, if_pos this]; omega
theorem FarI.all {n b : Nat} {es : List (Nat × Nat)} {d : Nat → Int} {A : List Int} (hd : IsFar es b d) (he : EndsD n es) (h : FarI n d n A) : A = fl n (farW n d) := by
  refine List.ext_getElem? fun i => ?_
  by_cases hi : i < n
  · obtain ⟨z, hz⟩ : ∃ z, A[i]? = some z := ⟨_, List.getElem?_eq_getElem (by rw [h.len]; exact hi)⟩
    have e : A.getD i 0 = z := by rw [List.getD_eq_getElem?_getD, hz]; rfl
    rw [fl_get _ hi, hz]
    congr 1
    have h1 := h.lo i hi
    have h2 := h.hi i hi
    unfold farW at h1 ⊢
    by_cases h0 : 0 ≤ d i
    · have := h.ex i hi h0 (by have := far_lt hd he hi; omega)
      rw [if_pos h0]; omega
    · rw [if_neg h0] at h1 ⊢; omega
  · rw [fl_out _ hi, List.getElem?_eq_none (by rw [h.len]; omega)]

set_option maxRecDepth 100000 in
set_option maxHeartbeats 2000000 in
theorem rfar_any (n b : Nat) (v : Value) (es : List (Nat × Nat)) (w : World) (hg : Dg w n v es) (hb : b < n) :
    Calls Tryz.prog 87 #[.int .i64 (n : Int), v, .int .i64 (b : Int)] w fun e w' => e = .returned (.slice (some ⟨w.heap.size, 0, none⟩) n n) ∧ Own w' w.heap.size 3 intf (.slice (some ⟨w.heap.size, 0, none⟩) n n) (fl n (farW n (farD es b))) ∧ Below w.heap.size w w' := by
  have hn60 := hg.n_le
  have hm := hg.m_le
  have HG := Lib.hid hg
  have HD := Lib.hid (all_far n es b hb)
  obtain ⟨d, hd⟩ : ∃ d, farD es b = d := ⟨_, rfl⟩
  rw [hd] at HD ⊢
  obtain ⟨eao, ecap, rfl, _⟩ := hg.pairs.open_
  have hmk := fun W => run_make_one (P := Tryz.prog) 24 3 8 (.int .i64 0) Tryz.underlying24 (by kernel_rfl) (by omega) n (by omega) W
  have HR0 : Hid (RC w n (fl n (fun i => if i < 0 then (n : Int) + 1 else 0)) (w.alloc (.cells (madeCells (Value.int .i64 0).cells n) 3))) := by
    refine ⟨below_new _ _, ?_⟩
    have := own_made w 3 intf 0 (.int .i64 0) rfl n (by omega) w.heap.size (Nat.le_refl _)
    rw [fl_const, fl_ext (g := fun i => if i < 0 then (n : Int) + 1 else 0) (fun k hk => (if_neg (by omega)).symm)] at this
    exact this
  have hn1 : wrap64 ((n : Int) + 1) = (n : Int) + 1 := IntWalk.wrap64_in _ (by omega)
  clear hg hd
  go_enter Tryz.func87, Tryz.ntmps87
  go_wp2_with fail
  go_loopw [8] (fun s8 wr => ∃ i : Nat, i ≤ n ∧ s8 = .int .i64 (i : Int) ∧ Hid (RC w n (fl n (fun q => if q < i then (n : Int) + 1 else 0)) wr)) (fun s8 _ => n - (intOf s8).toNat)
  case atStart => exact ⟨0, Nat.zero_le _, rfl, HR0.out⟩
  case round =>
    clear HR0
    obtain ⟨i, hin, rfl, HI⟩ := hrel
    by_cases hlt : i < n
    · have f1 := HI.out.own.free i
      obtain ⟨z2, c2⟩ : ∃ z, wr.cell? ⟨w.heap.size, i, none⟩ = some z := ⟨_, HI.out.own.cell (fl_get _ hlt)⟩
      have hgl := (HI.out.own.lt w.heap.size rfl).2
      have i0 : (0 : Int) ≤ (i : Int) := Int.natCast_nonneg _
      have i1 : (i : Int) < (n : Int) := by omega
      have HST : Hid (RC w n (fl n (fun q => if q < i + 1 then (n : Int) + 1 else 0)) (wr.setCell ⟨w.heap.size, i, none⟩ (.int .i64 ((n : Int) + 1)))) := by
        refine ⟨HI.out.low.setCell (p := ⟨w.heap.size, i, none⟩) (Nat.le_refl _) _, ?_⟩
        have := HI.out.own.set i ((n : Int) + 1)
        rw [fl_set, fl_ext (g := fun q => if q < i + 1 then (n : Int) + 1 else 0) (fun k hk => by
          by_cases e : k = i
          · rw [if_pos e, if_pos (by omega)]
          · rw [if_neg e]
            by_cases h : k < i
            · rw [if_pos h, if_pos (by omega)]
            · rw [if_neg h, if_neg (by omega)])] at this
        exact this
      go_wp2
      go_roundw
      case rel => exact ⟨i + 1, by omega, by go_num, HST.out⟩
      case measure => simp [intOf]; omega
    · obtain rfl : i = n := by omega
      have hA : RC w i (fl i (fun _ => (i : Int) + 1)) wr := by
        have := HI.out
        rw [fl_ext (g := fun _ => (i : Int) + 1) (fun k hk => if_pos hk)] at this
        exact this
      have f1 := hA.own.free b
      obtain ⟨z2, c2⟩ : ∃ z, wr.cell? ⟨w.heap.size, b, none⟩ = some z := ⟨_, hA.own.cell (fl_get _ hb)⟩
      have hgl := (hA.own.lt w.heap.size rfl).2
      have b0 : (0 : Int) ≤ (b : Int) := Int.natCast_nonneg _
      have b1 : (b : Int) < (i : Int) := by omega
      have HS0 : Hid (RC w i ((fl i (fun _ => (i : Int) + 1)).set b 0) (wr.setCell ⟨w.heap.size, b, none⟩ (.int .i64 0)) ∧ FarI i d 0 ((fl i (fun _ => (i : Int) + 1)).set b 0)) := ⟨⟨hA.low.setCell (p := ⟨w.heap.size, b, none⟩) (Nat.le_refl _) _, hA.own.set b 0⟩, FarI.start HD.out HG.out.ends hb⟩
      clear HI hA
      go_wp2_with fail
      clear f1 c2
      go_loopw [9, 10, 11] (fun s9 _ _ wr => ∃ (k : Nat) (A : List Int), k ≤ i ∧ s9 = .int .i64 (k : Int) ∧ Hid (RC w i A wr ∧ FarI i d k A)) (fun s9 _ _ _ => i - (intOf s9).toNat)
      case atStart => exact ⟨0, _, Nat.zero_le _, rfl, HS0.out⟩
      case round =>
        clear HS0
        obtain ⟨k, A, hk, rfl, H⟩ := hrel
        by_cases hkn : k < i
        · have HS1 := Lib.hid H.out
          obtain ⟨wo, rfl⟩ : ∃ wo : World, wo = wr := ⟨_, rfl⟩
          go_wp2_with fail
          go_loopw [10, 11] (fun s10 _ wr => ∃ (j : Nat) (B : List Int), j ≤ es.length ∧ s10 = .int .i64 (j : Int) ∧ Hid (RC w i B wr ∧ FarI i d k B ∧ FarP es d k j B)) (fun s10 _ _ => es.length - (intOf s10).toNat)
          case atStart => exact ⟨0, A, Nat.zero_le _, rfl, HS1.out.1, HS1.out.2, fun i e hi => by omega⟩
          case round =>
            clear HS1
            obtain ⟨j, B, hj, rfl, HI⟩ := hrel
            by_cases hjm : j < es.length
            · obtain ⟨e, he⟩ : ∃ e, es[j]? = some e := ⟨_, List.getElem?_eq_getElem hjm⟩
              obtain ⟨x, y⟩ := e
              obtain ⟨hx, hy⟩ := HG.out.ends j _ he
              simp only at hx hy
              obtain ⟨eb, off, rfl, hbl, hc1, hc2⟩ := HG.out.pairs.edge he
              have d1 := (HI.out.1.low.cell (p := ⟨eb, off + j * 2, none⟩) hbl).trans hc1
              have d2 := (HI.out.1.low.cell (p := ⟨eb, off + j * 2 + 1, none⟩) hbl).trans hc2
              have hBl := HI.out.2.1.len
              obtain ⟨zx, hzx⟩ : ∃ z, B[x]? = some z := ⟨_, List.getElem?_eq_getElem (by omega)⟩
              obtain ⟨zy, hzy⟩ : ∃ z, B[y]? = some z := ⟨_, List.getElem?_eq_getElem (by omega)⟩
              have c1 := HI.out.1.own.cell hzx
              have c2 := HI.out.1.own.cell hzy
              unfold intf at c1 c2
              have f1 := HI.out.1.own.free x
              have hgl := (HI.out.1.own.lt w.heap.size rfl).2
              have ex : B.getD x 0 = zx := by rw [List.getD_eq_getElem?_getD, hzx]; rfl
              have ey : B.getD y 0 = zy := by rw [List.getD_eq_getElem?_getD, hzy]; rfl
              have hbd : 0 ≤ zy ∧ zy ≤ 100 := by
                have h1 := HI.out.2.1.lo y hy
                have h2 := HI.out.2.1.hi y hy
                rw [ey] at h1 h2
                unfold farW at h1
                split at h1 <;> omega
              have hst := FarI.step HD.out HG.out.ends HI.out.2.1 HI.out.2.2 he
              simp only [ex, ey] at hst
              have HSTP := Lib.hid hst
              have x0 : (0 : Int) ≤ (x : Int) := Int.natCast_nonneg _
              have x1 : (x : Int) < (i : Int) := by omega
              have y0 : (0 : Int) ≤ (y : Int) := Int.natCast_nonneg _
              have y1 : (y : Int) < (i : Int) := by omega
              have j0 : (0 : Int) ≤ (j : Int) := Int.natCast_nonneg _
              have j1 : (j : Int) < (es.length : Int) := by omega
              obtain ⟨y0', y1'⟩ := hbd
              clear he hc1 hc2 hzx hzy ex ey hst hBl hn1
              by_cases hlt2 : zy + 1 < zx
              · have HN : Hid (RC w i (B.set x (zy + 1)) (wr.setCell ⟨w.heap.size, x, none⟩ (.int .i64 (zy + 1))) ∧ FarI i d k (B.set x (zy + 1)) ∧ FarP es d k (j + 1) (B.set x (zy + 1))) := ⟨⟨HI.out.1.low.setCell (p := ⟨w.heap.size, x, none⟩) (Nat.le_refl _) _, HI.out.1.own.set x (zy + 1)⟩, HSTP.out.1 hlt2⟩
                go_wp2
                go_roundw
                case rel => exact ⟨j + 1, B.set x (zy + 1), by omega, by go_num, HN.out⟩
                case measure => simp [intOf]; omega
              · have HN : Hid (RC w i B wr ∧ FarI i d k B ∧ FarP es d k (j + 1) B) := ⟨HI.out.1, HI.out.2.1, HSTP.out.2 hlt2⟩
                go_wp2
                go_roundw
                case rel => exact ⟨j + 1, B, by omega, by go_num, HN.out⟩
                case measure => simp [intOf]; omega
            · obtain rfl : j = es.length := by omega
              have HN := Lib.hid (And.intro HI.out.1 (FarI.done HD.out HI.out.2.1 HI.out.2.2))
              go_wp2
              go_roundw
              case rel => exact ⟨k + 1, B, by omega, by go_num, HN.out⟩
              case measure => simp [intOf]; omega
        · obtain rfl : k = i := by omega
          have HA : Hid (RC w k (fl k (farW k d)) wr) := by
            rw [← FarI.all HD.out HG.out.ends H.out.2]; exact H.out.1
          go_wp2
          go_ret
          exact ⟨rfl, HA.out.own, HA.out.low⟩
end
section
open Go.RowKit
set_option linter.unusedVariables false
attribute [local go_sem ↓] Go.wp_at_zero Go.wp_at_succ

def conv (n : Nat) (m : Int) : Int := if m < 0 then (n : Int) + 1 else m
def toL (es : List (Nat × Nat)) (s i : Nat) : List Nat := (List.range i).filter (toB es s)
theorem toL_all (n : Nat) (es : List (Nat × Nat)) (s : Nat) : toL es s n = nextsS n es s := rfl
theorem toL_bd {n b : Nat} {es : List (Nat × Nat)} {d : Nat → Int} (hd : IsFar es b d) (he : EndsD n es) {s i : Nat} (hi : i ≤ n) : leastM d (toL es s i) < n := by
  rcases leastM_is d (toL es s i) with h | ⟨_, k, hk, h⟩
  · omega
  · have hkn : k < n := by
      unfold toL at hk
      have := List.mem_range.1 (List.mem_filter.1 hk).1
      omega
    have := far_lt hd he hkn
    omega
theorem conv_step {n b : Nat} {es : List (Nat × Nat)} {d : Nat → Int} (hd : IsFar es b d) (he : EndsD n es) {s i : Nat} (hi : i < n) :
    conv n (leastM d (toL es s (i + 1))) = if toB es s i = true ∧ farW n d i < conv n (leastM d (toL es s i)) then farW n d i else conv n (leastM d (toL es s i)) := by
  have hb := toL_bd hd he (s := s) (i := i) (by omega)
  have hdi := far_lt hd he hi
  obtain ⟨m, hm⟩ : ∃ m, leastM d (toL es s i) = m := ⟨_, rfl⟩
  have e : toL es s (i + 1) = toL es s i ++ (if toB es s i then [i] else []) := by unfold toL; rw [filt_succ]
  rw [e]
  rw [hm] at hb ⊢
  cases hq : toB es s i
  · simp [hm]
  · simp only [if_true, leastM_snoc, hm, true_and]
    by_cases h1 : 0 ≤ d i
    · have f1 : farW n d i = d i := if_pos h1
      have f4 : conv n (d i) = d i := if_neg (by omega)
      by_cases h2 : m < 0
      · have f2 : leastStep d m i = d i := if_pos ⟨h1, .inl h2⟩
        have f3 : conv n m = (n : Int) + 1 := if_pos h2
        rw [f2, f1, f3, f4, if_pos (by omega)]
      · have f3 : conv n m = m := if_neg h2
        by_cases h3 : d i < m
        · have f2 : leastStep d m i = d i := if_pos ⟨h1, .inr h3⟩
          rw [f2, f1, f3, f4, if_pos h3]
        · have f2 : leastStep d m i = m := if_neg (fun h => by rcases h.2 with h | h <;> omega)
          rw [f2, f1, f3, if_neg h3]
    · have f1 : farW n d i = (n : Int) + 1 := if_neg h1
      have f2 : leastStep d m i = m := if_neg (fun h => h1 h.1)
      have f3 : conv n m ≤ (n : Int) + 1 := by unfold conv; split <;> omega
      rw [f2, f1, if_neg (by omega)]
theorem farW_eq {n : Nat} {d : Nat → Int} {q : Nat} {F : Int} (h0 : 0 ≤ F) (h1 : F ≤ n) : (farW n d q == F) = (d q == F) := by
  unfold farW
  by_cases h : 0 ≤ d q
  · rw [if_pos h]
  · rw [if_neg h, beq_no (by omega), beq_no (by omega)]

def RLoopPost (w : World) (n : Nat) (es : List (Nat × Nat)) (e : Ending) (w' : World) : Prop :=
  ∃ u, e = .returned u ∧ Own w' w.heap.size 3 natf u ((loopOf n es).getD []) ∧ Below w.heap.size w w'

set_option maxRecDepth 100000 in
set_option maxHeartbeats 4000000 in
theorem rloop_any (n : Nat) (v : Value) (es : List (Nat × Nat)) (w : World) (hg : Dg w n v es) :
    Calls Tryz.prog 59 #[.int .i64 (n : Int), v] w (RLoopPost w n es) := by
  have hn60 := hg.n_le
  have hm := hg.m_le
  have HG := Lib.hid hg
  obtain ⟨eao, ecap, rfl, _⟩ := hg.pairs.open_
  have hn1 : wrap64 ((n : Int) + 1) = (n : Int) + 1 := IntWalk.wrap64_in _ (by omega)
  clear hg
  go_enter Tryz.func59, Tryz.ntmps59
  go_wp2_with fail
  go_loopw [5, 6, 7, 8, 9] (fun s5 _ _ _ _ wr => ∃ s : Nat, s ≤ n ∧ s5 = .int .i64 (s : Int) ∧ Hid (loopFrom n es s = none ∧ Below w.heap.size w wr)) (fun s5 _ _ _ _ _ => n - (intOf s5).toNat)
  case atStart => exact ⟨0, Nat.zero_le _, rfl, rfl, Below.refl _ _⟩
  case round =>
    obtain ⟨s, hs, rfl, H⟩ := hrel
    by_cases hlt : s < n
    · have HFA := Lib.hid (rfar_any n s _ es wr (HG.out.below H.out.2) hlt)
      have HD := Lib.hid (all_far n es s hlt)
      obtain ⟨d, hd⟩ : ∃ d, farD es s = d := ⟨_, rfl⟩
      have HDD := Lib.hid hd
      rw [hd] at HFA HD
      have s0 : (0 : Int) ≤ (s : Int) := Int.natCast_nonneg _
      have s1 : (s : Int) < (n : Int) := by omega
      obtain ⟨wo, rfl⟩ : ∃ wo : World, wo = wr := ⟨_, rfl⟩
      clear hd
      go_wp2_with fail
      refine HFA.out.mono ?_
      rintro e w2 ⟨rfl, ho2, hb2⟩
      have HO2 := Lib.hid ho2
      have HB2 := Lib.hid (bstep H.out.2 hb2)
      have HNX := Lib.hid (rnext_any n s _ es w2 (HG.out.below HB2.out) (by omega))
      have hgl2 := (ho2.lt wo.heap.size rfl).2
      clear ho2 hb2 HFA
      go_wp2_with fail
      refine HNX.out.mono ?_
      rintro e w3 ⟨rfl, ho3, hb3⟩
      have HO3 := Lib.hid ho3
      have HF3 := Lib.hid (HO2.out.below hb3)
      have HB3 := Lib.hid (bstep HB2.out hb3)
      have hgl3 : wo.heap.size < w3.heap.size := by have := hb3.size; omega
      clear ho3 hb3 HNX
      go_wp2_with fail
      go_loop [7, 9] (fun s7 s9 => ∃ i : Nat, i ≤ n ∧ s9 = .int .i64 (i : Int) ∧ s7 = .int .i64 (conv n (leastM d (toL es s i)))) (fun _ s9 => n - (intOf s9).toNat)
      case atStart => exact ⟨0, Nat.zero_le _, rfl, rfl⟩
      case round =>
        obtain ⟨i, hi, rfl, rfl⟩ := hrel
        by_cases hin : i < n
        · have c1 := HO3.out.cell (fl_get (toB es s) hin)
          have c2 := HF3.out.cell (fl_get (farW n d) hin)
          unfold boolf at c1
          unfold intf at c2
          have HST := Lib.hid (conv_step HD.out HG.out.ends (s := s) hin)
          obtain ⟨m, hmm⟩ : ∃ m, conv n (leastM d (toL es s i)) = m := ⟨_, rfl⟩
          obtain ⟨z, hz⟩ : ∃ z, farW n d i = z := ⟨_, rfl⟩
          obtain ⟨bq, hbq⟩ : ∃ bq, toB es s i = bq := ⟨_, rfl⟩
          rw [hmm, hz, hbq] at HST
          rw [hbq] at c1
          rw [hz] at c2
          rw [hmm]
          have i0 : (0 : Int) ≤ (i : Int) := Int.natCast_nonneg _
          have i1 : (i : Int) < (n : Int) := by omega
          clear hmm hz hbq
          cases bq
          · have HN := Lib.hid (show conv n (leastM d (toL es s (i + 1))) = m by rw [HST.out]; simp)
            go_wp2
            go_round
            case rel => exact ⟨i + 1, by omega, by go_num, by rw [HN.out]⟩
            case measure => simp [intOf]; omega
          · by_cases hzm : z < m
            · have HN := Lib.hid (show conv n (leastM d (toL es s (i + 1))) = z by rw [HST.out, if_pos ⟨rfl, hzm⟩])
              go_wp2
              go_round
              case rel => exact ⟨i + 1, by omega, by go_num, by rw [HN.out]⟩
              case measure => simp [intOf]; omega
            · have HN := Lib.hid (show conv n (leastM d (toL es s (i + 1))) = m by rw [HST.out, if_neg (fun h => hzm h.2)])
              go_wp2
              go_round
              case rel => exact ⟨i + 1, by omega, by go_num, by rw [HN.out]⟩
              case measure => simp [intOf]; omega
        · obtain rfl : i = n := by omega
          rw [toL_all]
          have hlb := toL_bd HD.out HG.out.ends (s := s) (Nat.le_refl i)
          rw [toL_all] at hlb
          have hli := leastM_is d (nextsS i es s)
          obtain ⟨m, hmm⟩ : ∃ m, leastM d (nextsS i es s) = m := ⟨_, rfl⟩
          rw [hmm] at hlb hli ⊢
          have HLI := Lib.hid hli
          have HLA := Lib.hid (show loopAt i es (farD es s) s = if m < 0 then none else some (s :: loopWalk i es d m.toNat s) by unfold loopAt; rw [HDD.out, hmm])
          clear hli hmm
          by_cases hm0 : m < 0
          · have HN := Lib.hid (show loopFrom i es (s + 1) = none by rw [loopFrom, H.out.1]; show loopAt i es (farD es s) s = none; rw [HLA.out, if_pos hm0])
            have hcv : conv i m = (i : Int) + 1 := if_pos hm0
            rw [hcv]
            clear hcv
            go_wp2
            go_roundw
            case rel => exact ⟨s + 1, by omega, by go_num, HN.out, HB3.out⟩
            case measure => simp [intOf]; omega
          · rw [if_neg hm0] at HLA
            have HS1 := Lib.hid (show loopOf i es = some (s :: loopWalk i es d m.toNat s) from loopFrom_some (k := s + 1) (by rw [loopFrom, H.out.1]; exact HLA.out) i (by omega))
            have hcv : conv i m = m := if_neg hm0
            rw [hcv]
            obtain ⟨M, rfl⟩ := Int.eq_ofNat_of_zero_le (show 0 ≤ m by omega)
            have HEX : Hid (∃ k ∈ nextsS i es s, d k = (M : Int)) := by
              rcases HLI.out with h | ⟨_, k, hk, h⟩
              · omega
              · exact ⟨k, hk, h⟩
            rw [show (M : Int).toNat = M from rfl] at HS1
            have HRP0 : Hid (RP w3 (.slice (some ⟨w3.heap.size, 0, none⟩) 1 1) [s] (w3.alloc (.cells #[.int .i64 (s : Int)] 3))) := ⟨below_new _ _, own_litA w3 3 natf s w3.heap.size (Nat.le_refl _)⟩
            have hMn : M < i := by omega
            clear hcv hm0
            go_wp2_with fail
            go_loopg [8, 10, 11, 12, 13] M (fun f _ s10 s11 s12 _ wr => ∃ (x : Nat) (o : List Nat), s11 = .int .i64 (x : Int) ∧ s12 = .int .i64 (f : Int) ∧ x < i ∧ 0 < o.length ∧ o.length + f ≤ M + 1 ∧ Hid (RP w3 s10 o wr ∧ o ++ loopWalk i es d f x = s :: loopWalk i es d M s ∧ ∃ k ∈ nextsS i es x, d k = (f : Int)))
            case atStart => exact ⟨s, [s], rfl, rfl, hlt, by simp, by simp; omega, HRP0.out, rfl, HEX.out⟩
            case round =>
              clear HRP0
              obtain ⟨x, o, rfl, rfl, hxn, hop, hol, HI⟩ := hrel
              have hlow := HI.out.1.low
              have hlows := hlow.size
              by_cases hgk : gk = 0
              · subst hgk
                have HE := Lib.hid (show o = s :: loopWalk i es d M s by have := HI.out.2.1; rw [loopWalk, List.append_nil] at this; exact this)
                have HBW := Lib.hid (bstep HB3.out hlow)
                have hws := HB3.out.size
                go_wp2
                go_ret
                refine ⟨_, rfl, ?_, HBW.out⟩
                rw [HS1.out]
                show Own _ _ _ _ _ (s :: loopWalk i es d M s)
                rw [← HE.out]
                exact HI.out.1.out_.mono hws
              · obtain ⟨f, rfl⟩ : ∃ f, gk = f + 1 := ⟨gk - 1, by omega⟩
                have hfM : f + 1 ≤ M := by omega
                have hdd : ∃ k ∈ nextsS i es x, (fun k => d k == ((f + 1 : Nat) : Int)) k = true := by
                  obtain ⟨k, hk, h⟩ := HI.out.2.2
                  exact ⟨k, hk, by simpa using h⟩
                obtain ⟨j, k, hj, hpk, hno, hfind⟩ := find_at hdd
                have hpk' : d k = ((f + 1 : Nat) : Int) := by simpa using hpk
                have hmem := nextsS_mem.1 (List.mem_of_getElem? hj)
                have hkn := hmem.1
                have HST := Lib.hid (show (o ++ [k]) ++ loopWalk i es d f k = s :: loopWalk i es d M s by
                  have := HI.out.2.1
                  rw [loopWalk_step hfind] at this
                  rw [List.append_assoc]; exact this)
                have HNE : Hid (∃ k' ∈ nextsS i es k, d k' = (f : Int)) := by
                  rcases HD.out.from_ k with h | ⟨_, h⟩ | ⟨_, k', h1, h2⟩
                  · omega
                  · omega
                  · exact ⟨k', nextsS_mem.2 ⟨(HG.out.ends.mem h1).2, h1⟩, by omega⟩
                have HDN2 := Lib.hid (downF_nexts x hfind)
                have HNC := Lib.hid (rnext_any i x _ es wr (HG.out.below (bstep HB3.out hlow)) (by omega))
                have hF0 : (0 : Int) ≤ ((f + 1 : Nat) : Int) := by omega
                have hF1 : (0 : Int) < ((f + 1 : Nat) : Int) := by omega
                have hF2 : ((f + 1 : Nat) : Int) ≤ (i : Int) := by omega
                obtain ⟨F, hFe⟩ : ∃ F : Int, ((f + 1 : Nat) : Int) = F := ⟨_, rfl⟩
                rw [hFe] at hF0 hF1 hF2 HDN2 ⊢
                have HFE := Lib.hid (show F - 1 = (f : Int) by omega)
                clear hdd hj hpk hpk' hno hfind hmem hFe
                obtain ⟨wq, rfl⟩ : ∃ wq : World, wq = wr := ⟨_, rfl⟩
                go_wp2_with fail
                refine HNC.out.mono ?_
                rintro e w4 ⟨rfl, ho4, hb4⟩
                have HO4 := Lib.hid ho4
                clear HNC ho4
                go_wp2_with fail
                go_loop [11, 13] (fun s11 s13 => ∃ t : Nat, t ≤ i ∧ s13 = .int .i64 ((t : Int) - 1) ∧ s11 = .int .i64 ((downF (fun q => toB es x q && (d q == F)) i t x : Nat) : Int)) (fun _ s13 => (intOf s13 + 1).toNat)
                case atStart => exact ⟨i, Nat.le_refl _, rfl, by rw [downF_top]⟩
                case round =>
                  obtain ⟨t, hti, rfl, rfl⟩ := hrel
                  by_cases ht0 : t = 0
                  · subst ht0
                    rw [HDN2.out]
                    have e01 : (((0 : Nat) : Int) - 1) = -1 := rfl
                    rw [e01]
                    have hlen1 : o.length + 1 ≤ 1099511627776 := by omega
                    have hbase : w3.heap.size ≤ w4.heap.size := by have := hb4.size; omega
                    have HP4 : Hid (RP w3 u10 o w4) := ⟨bstep hlow hb4, HI.out.1.out_.below hb4⟩
                    have k0 : (0 : Int) ≤ (k : Int) := Int.natCast_nonneg _
                    have k1 : (k : Int) < (i : Int) := by omega
                    clear e01
                    go_wp2_with (at_builtin; refine wpList_push w4 rfl _ _ 24 rfl 3 8 elemInt w3.heap.size natf _ o k rfl HP4.out.out_ rfl rfl hlen1 (by omega) hbase ?_; intro v' w' hown' hg' hat'; have HP5 : Hid (RP w3 v' (o ++ [k]) w') := ⟨below_grown HP4.out.low hg' HP4.out.low.size (fun g e => (HP4.out.out_.lt g e).1), hown'⟩)
                    go_roundg f
                    case measure => omega
                    case rel => exact ⟨k, o ++ [k], rfl, by rw [HFE.out], hkn, by simp, by simp; omega, HP5.out, HST.out, HNE.out⟩
                  · obtain ⟨t, rfl⟩ : ∃ t', t = t' + 1 := ⟨t - 1, by omega⟩
                    have e1 : ((t + 1 : Nat) : Int) - 1 = (t : Int) := by omega
                    rw [e1]
                    have HSD := Lib.hid (downF_step (fun q => toB es x q && (d q == F)) x (show t < i by omega))
                    have c1 := HO4.out.cell (fl_get (toB es x) (show t < i by omega))
                    unfold boolf at c1
                    have c2 := ((bstep hlow hb4).cell (p := ⟨wo.heap.size, t, none⟩) (show wo.heap.size < w3.heap.size from hgl3)).trans (HF3.out.cell (fl_get (farW i d) (show t < i by omega)))
                    unfold intf at c2
                    have HZE := Lib.hid (farW_eq (d := d) (q := t) hF0 hF2)
                    obtain ⟨z, hz⟩ : ∃ z, farW i d t = z := ⟨_, rfl⟩
                    rw [hz] at HZE c2
                    have t0 : (0 : Int) ≤ (t : Int) := Int.natCast_nonneg _
                    have t1 : (t : Int) < (i : Int) := by omega
                    obtain ⟨dn, hdn⟩ : ∃ dn, downF (fun q => toB es x q && (d q == F)) i (t + 1) x = dn := ⟨_, rfl⟩
                    rw [hdn] at HSD ⊢
                    obtain ⟨bq, hbq⟩ : ∃ bq, toB es x t = bq := ⟨_, rfl⟩
                    rw [hbq] at c1
                    have HBQ := Lib.hid hbq
                    clear hz hdn hbq
                    cases bq
                    · have HN := Lib.hid (show downF (fun q => toB es x q && (d q == F)) i t x = dn by rw [HSD.out, if_neg (by simp only [HBQ.out, Bool.false_and]; decide)])
                      go_wp2
                      go_round
                      case rel => exact ⟨t, by omega, rfl, by rw [HN.out]⟩
                      case measure => simp [intOf]
                    · by_cases hzr : z = F
                      · have hq := beq_yes hzr
                        have HN := Lib.hid (show downF (fun q => toB es x q && (d q == F)) i t x = t by rw [HSD.out, if_pos (by simp only [HBQ.out, ← HZE.out, Bool.true_and]; exact hq)])
                        clear hzr
                        go_wp2
                        go_round
                        case rel => exact ⟨t, by omega, rfl, by rw [HN.out]⟩
                        case measure => simp [intOf]
                      · have hq := beq_no hzr
                        have HN := Lib.hid (show downF (fun q => toB es x q && (d q == F)) i t x = dn by rw [HSD.out, if_neg (by simp only [← HZE.out, hq, Bool.and_false]; decide)])
                        clear hzr
                        go_wp2
                        go_round
                        case rel => exact ⟨t, by omega, rfl, by rw [HN.out]⟩
                        case measure => simp [intOf]
    · obtain rfl : s = n := by omega
      have HR0 := Lib.hid (show loopOf s es = none from H.out.1)
      go_wp2
      go_ret
      refine ⟨_, rfl, ?_, H.out.2⟩
      rw [HR0.out]
      exact Own.nil _ _ _ _
end
section
open Go.RowKit
set_option linter.unusedVariables false
attribute [local go_sem ↓] Go.wp_at_zero Go.wp_at_succ

def cellsQ (l : List (Int × Int)) : List Value := l.flatMap fun e => [.int .i64 (e.1 : Int), .int .i64 (e.2 : Int)]
theorem cellsQ_get (l : List (Int × Int)) : ∀ (k : Nat) e, l[k]? = some e → (cellsQ l)[k * 2]? = some (.int .i64 (e.1 : Int)) ∧ (cellsQ l)[k * 2 + 1]? = some (.int .i64 (e.2 : Int)) := by
  induction l with
  | nil => intro k e h; cases h
  | cons a l ih =>
    intro k e h
    have hc : cellsQ (a :: l) = .int .i64 (a.1 : Int) :: .int .i64 (a.2 : Int) :: cellsQ l := rfl
    rw [hc]
    cases k with
    | zero => cases h; exact ⟨rfl, rfl⟩
    | succ k =>
      have := ih k e (by simpa using h)
      rw [show (k + 1) * 2 = k * 2 + 2 by omega, show k * 2 + 2 + 1 = k * 2 + 1 + 2 by omega]
      simpa using this

def OwnQ (w : World) (base : Nat) (v : Value) (l : List (Int × Int)) : Prop := w.ownsRow base 33 2 v l.length (cellsQ l)
section
variable {w w1 : World} {base : Nat} {v : Value} {l : List (Int × Int)}
theorem OwnQ.nil (w : World) (base : Nat) : OwnQ w base (.slice none 0 0) [] := World.ownsRow_nil _ _ _ _
theorem OwnQ.shape (h : OwnQ w base v l) : ∃ ao cap, v = .slice ao l.length cap := by
  rcases h.2 with ⟨rfl, h0⟩ | ⟨g, cap, cur, rfl, hb, hg, _⟩
  · exact ⟨none, 0, by rw [h0]⟩
  · exact ⟨_, cap, rfl⟩
theorem OwnQ.lt (h : OwnQ w base v l) : ∀ g, v.ownBlock = some g → base ≤ g ∧ g < w.heap.size := World.ownsRow.lt h
theorem OwnQ.pairs (h : OwnQ w base v l) : Pairs w v l := by
  have h0 := h
  rcases h.2 with ⟨rfl, hl⟩ | ⟨g, cap, cur, rfl, hb, hg, _⟩
  · have : l = [] := List.eq_nil_of_length_eq_zero hl
    subst this
    exact ⟨none, 0, rfl, fun h => absurd h (by simp)⟩
  · refine ⟨_, cap, rfl, fun _ => ⟨g, 0, rfl, (Array.getElem?_eq_some_iff.1 hg).1, fun k x hx => ?_⟩⟩
    obtain ⟨h1, h2⟩ := cellsQ_get l k x hx
    have c1 := World.ownsRow.cells h0 (g := g) rfl (k * 2) _ h1
    have c2 := World.ownsRow.cells h0 (g := g) rfl (k * 2 + 1) _ h2
    simp only [Addr.add_lit] at c1 c2
    exact ⟨c1, by rw [Nat.add_assoc]; exact c2⟩
theorem OwnQ.kept (h : OwnQ w base v l) (hk : ∀ g, v.ownBlock = some g → w1.heap[g]? = w.heap[g]?) : OwnQ w1 base v l := by
  refine ⟨h.1, ?_⟩
  rcases h.2 with hn | ⟨g, cap, cur, rfl, hb, hgg, rest⟩
  · exact .inl hn
  · exact .inr ⟨g, cap, cur, rfl, hb, (hk g rfl).trans hgg, rest⟩
theorem OwnQ.below (h : OwnQ w base v l) (hb : Below w.heap.size w w1) : OwnQ w1 base v l := h.kept fun g hv => hb.block g (h.lt g hv).2
end

set_option maxRecDepth 100000 in
set_option maxHeartbeats 1000000 in
theorem eqFunc_yes (v v' : Value) (l : List (List Nat)) (w : World) (h : Rows w v l) (h' : Rows w v' l) (hl : l.length ≤ 1000000) (hr : ∀ r ∈ l, r.length ≤ 1000000) :
    Calls Tryz.prog 26 #[v, v', .func (.func 24) #[] #[]] w fun e w' => e = .returned (.bool true) ∧ Below w.heap.size w w' := by
  have HR := Lib.hid hr
  have H := Lib.hid h
  have H' := Lib.hid h'
  obtain ⟨ao, cap, rfl, _⟩ := h
  obtain ⟨ao', cap', rfl, _⟩ := h'
  have hF : ∀ (xs : Array Value) (W : World), (callFunc 24 xs).run Tryz.prog W = .ok (.enter 24 xs) W := fun xs W => by go_simp
  have hne : ((l.length : Int) != (l.length : Int)) = false := by simp
  clear hr
  go_enter Tryz.func26, Tryz.ntmps26
  go_wp2
  clear hne
  go_loopw [7, 8, 9, 17] (fun _ _ _ s17 wr => ∃ k : Nat, k ≤ l.length ∧ s17 = .int .i64 (k : Int) ∧ Below w.heap.size w wr) (fun _ _ _ s17 _ => l.length - (intOf s17).toNat)
  case atStart => exact ⟨0, Nat.zero_le _, rfl, Below.refl _ _⟩
  case round =>
    obtain ⟨k, hk, rfl, hB⟩ := hrel
    by_cases hlt : k < l.length
    · obtain ⟨r, hkr⟩ : ∃ r, l[k]? = some r := ⟨_, List.getElem?_eq_getElem hlt⟩
      have hrl := HR.out r (List.mem_of_getElem? hkr)
      obtain ⟨b, off, rfl, hbl, uo, uc, c1, N⟩ := rows_get H.out hkr
      obtain ⟨b', off', rfl, hbl', uo', uc', c1', N'⟩ := rows_get H'.out hkr
      have d1 := (hB.cell (p := ⟨b, off + k, none⟩) hbl).trans c1
      have d2 := (hB.cell (p := ⟨b', off' + k, none⟩) hbl').trans c1'
      have HE := Lib.hid (equalN_yes _ _ r r wr (N.below hB) (N'.below hB) (by omega) rfl)
      have k0 : (0 : Int) ≤ (k : Int) := Int.natCast_nonneg _
      have k1 : (k : Int) < (l.length : Int) := by omega
      clear hkr c1 c1' N N'
      go_wp2_with fail
      refine HE.out.mono ?_
      rintro e w9 ⟨rfl, hb9⟩
      have hB9 := bstep hB hb9
      go_wp2
      go_roundw
      case rel => exact ⟨k + 1, by omega, by go_num, hB9⟩
      case measure => simp [intOf]; omega
    · go_wp2
      go_ret
      exact ⟨rfl, hB⟩
end
end Go.Proofs.YtamogedpgkofjaaGreat
