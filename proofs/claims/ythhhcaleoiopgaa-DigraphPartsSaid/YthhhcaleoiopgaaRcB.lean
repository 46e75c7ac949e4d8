/-
  Directed graphs: Reach.
-/
import Derived.Test.YthhhcaleoiopgaaRcA
import Derived.Test.YthhhcaleoiopgaaDgA
namespace Go.Proofs.Ythhhcaleoiopgaa
open Go.RowKit
set_option linter.unusedVariables false
attribute [local go_sem ↓] Go.wp_at_zero Go.wp_at_succ

noncomputable def rlist (n : Nat) (es : List (Nat × Nat)) (a : Nat) : List Nat := (List.range n).filter (reaB es a)
theorem rlist_len (n : Nat) (es : List (Nat × Nat)) (a : Nat) : (rlist n es a).length ≤ n := by
  have := List.length_filter_le (reaB es a) (List.range n)
  rw [List.length_range] at this
  exact this
theorem filt_succ (p : Nat → Bool) (t : Nat) : (List.range (t + 1)).filter p = (List.range t).filter p ++ (if p t then [t] else []) := by
  rw [List.range_succ, List.filter_append]
  cases h : p t <;> simp [h]

set_option maxHeartbeats 400000 in
theorem reachTop_bad (n a : Int) (v : Value) (l : List (Int × Int)) (w : World) (hp : Pairs w v l) (hl : l.length ≤ 140737488355328) (h : vldD n l = false) :
    Calls Try.prog 32 #[.int .i64 n, v, .int .i64 a] w fun e w' => e = .returned (.tuple #[.slice none 0 0, .int .i64 1]) ∧ Below w.heap.size w w' := by
  have HV := Lib.hid (dvalid_any n v l w hp hl)
  rw [h] at HV
  clear hp h
  go_enter Try.func32, Try.ntmps32
  go_wp2_with fail
  refine HV.out.mono ?_
  rintro e w1 ⟨rfl, hb⟩
  go_wp2
  go_ret2
  exact ⟨rfl, hb⟩

set_option maxHeartbeats 400000 in
theorem reachTop_range (n : Nat) (a : Int) (v : Value) (es : List (Nat × Nat)) (w : World) (hg : Dg w n v es) (ha : a < 0 ∨ (n : Int) ≤ a) :
    Calls Try.prog 32 #[.int .i64 (n : Int), v, .int .i64 a] w fun e w' => e = .returned (.tuple #[.slice none 0 0, .int .i64 2]) ∧ Below w.heap.size w w' := by
  have HV := Lib.hid (dvalid_any (n : Int) v (cst es) w hg.pairs (by rw [cst_len]; have := hg.m_le; omega))
  rw [hg.ok] at HV
  clear hg
  by_cases h1 : a < 0
  · skip
    go_enter Try.func32, Try.ntmps32
    go_wp2_with fail
    refine HV.out.mono ?_
    rintro e w1 ⟨rfl, hb⟩
    go_wp2
    go_ret2
    exact ⟨rfl, hb⟩
  · have h2 : (n : Int) ≤ a := by omega
    go_enter Try.func32, Try.ntmps32
    go_wp2_with fail
    refine HV.out.mono ?_
    rintro e w1 ⟨rfl, hb⟩
    go_wp2
    go_ret2
    exact ⟨rfl, hb⟩

def ReachTop (w : World) (n : Nat) (es : List (Nat × Nat)) (a : Nat) (e : Ending) (w' : World) : Prop :=
  ∃ v, e = .returned (.tuple #[v, .int .i64 0]) ∧ Own w' w.heap.size 3 natf v (rlist n es a) ∧ Below w.heap.size w w'

set_option maxRecDepth 100000 in
set_option maxHeartbeats 1000000 in
theorem reachTop_ok (n a : Nat) (v : Value) (es : List (Nat × Nat)) (w : World) (hg : Dg w n v es) (ha : a < n) :
    Calls Try.prog 32 #[.int .i64 (n : Int), v, .int .i64 (a : Int)] w (ReachTop w n es a) := by
  have hn60 := hg.n_le
  have HV := Lib.hid (dvalid_any (n : Int) v (cst es) w hg.pairs (by rw [cst_len]; have := hg.m_le; omega))
  rw [hg.ok] at HV
  have HG := Lib.hid hg
  have a0 : ¬ (a : Int) < 0 := by omega
  have a1 : ¬ (n : Int) ≤ (a : Int) := by omega
  have n1 : ¬ n ≤ a := by omega
  clear hg
  go_enter Try.func32, Try.ntmps32
  go_wp2_with fail
  refine HV.out.mono ?_
  rintro e w1 ⟨rfl, hb1⟩
  have HN := Lib.hid (nexts_any n v es w1 (HG.out.below hb1))
  go_wp2_with fail
  refine HN.out.mono ?_
  rintro e w2 ⟨⟨V, rfl, hM⟩, hb2⟩
  have hB2 := bstep hb1 hb2
  have HR := Lib.hid (reach_any w2 n a es V hn60 HG.out.ends ha hM.rows)
  clear hM HN HV
  go_wp2_with fail
  refine HR.out.mono ?_
  rintro e w3 ⟨u, rfl, hu, hb3⟩
  have hB3 := bstep hB2 hb3
  have HU := Lib.hid hu
  obtain ⟨uo, uc, rfl⟩ := hu.shape
  rw [fl_len] at HU ⊢
  clear hu HR
  go_wp2_with fail
  obtain ⟨wz, rfl⟩ : ∃ wz : World, wz = w3 := ⟨_, rfl⟩
  go_loopw [8, 9, 10, 28] (fun s8 _ _ s28 wr => ∃ t : Nat, t ≤ n ∧ s28 = .int .i64 (t : Int) ∧ Hid (Own wr wz.heap.size 3 natf s8 ((List.range t).filter (reaB es a)) ∧ Below wz.heap.size wz wr)) (fun _ _ _ s28 _ => n - (intOf s28).toNat)
  case atStart => exact ⟨0, Nat.zero_le _, rfl, Own.nil _ _ _ _, Below.refl _ _⟩
  case round =>
    obtain ⟨t, ht, rfl, H⟩ := hrel
    by_cases htn : t < n
    · obtain ⟨g, gc, hgv, g1, g2, _⟩ := HU.out.form (by rw [fl_len]; omega)
      rw [fl_len] at hgv
      cases hgv
      have c1 := (H.out.2.cell (p := ⟨g, t, none⟩) g1).trans (HU.out.cell (fl_get (reaB es a) htn))
      unfold boolf at c1
      have t0 : (0 : Int) ≤ (t : Int) := Int.natCast_nonneg _
      have t1 : (t : Int) < (n : Int) := by omega
      have HS := Lib.hid (filt_succ (reaB es a) t)
      obtain ⟨b, hb⟩ : ∃ b, reaB es a t = b := ⟨_, rfl⟩
      rw [hb] at c1 HS
      clear hb
      cases b
      · go_wp2
        go_roundw
        case rel => exact ⟨t + 1, by omega, by go_num, by rw [HS.out]; show _ ∧ _; simpa using H.out⟩
        case measure => simp [intOf]; omega
      · have hlen1 : ((List.range t).filter (reaB es a)).length + 1 ≤ 1099511627776 := by
          have := List.length_filter_le (reaB es a) (List.range t)
          rw [List.length_range] at this
          omega
        have hbase := H.out.2.size
        go_wp2_with (at_builtin; refine wpList_push wr rfl _ _ 23 rfl 3 8 elemInt wz.heap.size natf _ ((List.range t).filter (reaB es a)) t rfl H.out.1 rfl rfl hlen1 (by omega) hbase ?_; intro v' w' hown' hg' hat'; have HP : Hid (Own w' wz.heap.size 3 natf v' ((List.range t).filter (reaB es a) ++ [t]) ∧ Below wz.heap.size wz w') := ⟨hown', below_grown H.out.2 hg' hbase (fun g e => (H.out.1.lt g e).1)⟩)
        go_roundw
        case rel => exact ⟨t + 1, by omega, by go_num, by rw [HS.out]; show _ ∧ _; simpa using HP.out⟩
        case measure => simp [intOf]; omega
    · obtain rfl : t = n := by omega
      have hBw := bstep hB3 H.out.2
      have hs3 := hB3.size
      go_wp2
      go_ret2
      exact ⟨_, rfl, H.out.1.mono hs3, hBw⟩
end Go.Proofs.Ythhhcaleoiopgaa
