/-
  slices.Backward over integers: its contract.
-/
import Derived.RangeFuncNested
import Derived.RangeFuncBound
import Derived.RangeFuncCalls
import Derived.RangeFuncLeaves
import Derived.RangeFuncBox
import Derived.Shelf.Abstract
import Derived.Shelf.RegionOpen
import Derived.WalkKit
import Derived.OwnWalkIn
import Derived.TacticsInMore
import Derived.LoopNIn
import Derived.LoopIn
import Derived.Test.YthmlejijfgbfbaaGreatKal
namespace Go.Proofs.YthmlejijfgbfbaaGreat
open Go.RowKit Go.Shelf
set_option linter.unusedVariables false
attribute [local go_sem] Oper.semAt_some

/-- What has come when k rounds are over. -/
def upto {α : Type} (f : Nat → α) (k : Nat) : List α := (List.range k).map f
theorem upto_succ {α : Type} (f : Nat → α) (k : Nat) : upto f (k + 1) = upto f k ++ [f k] := by simp [upto, List.range_succ]
theorem upto_length {α : Type} (f : Nat → α) (k : Nat) : (upto f k).length = k := by simp [upto]
def bwf {α : Type} (g : Nat → α) (len j : Nat) : α := g (len - 1 - j)

/-- Two blocks lie as they lay: the iterator's box, the slice's cells. -/
def Kp2 (Bs b : Nat) (W W' : World) : Prop := W'.heap[Bs]? = W.heap[Bs]? ∧ W'.heap[b]? = W.heap[b]?
theorem Kp2.t {Bs b : Nat} {A B C : World} (h : Kp2 Bs b A B) (k : Kp2 Bs b B C) : Kp2 Bs b A C := ⟨k.1.trans h.1, k.2.trans h.2⟩
theorem Kp2.b_ {Bs b N : Nat} (h1 : Bs < N) (h2 : b < N) (W : World) (l : Nat) (o o' : Obj) (hl : N ≤ l) : Kp2 Bs b W (W.putObj l o') :=
  ⟨World.putObj_heap_other (by omega), World.putObj_heap_other (by omega)⟩

set_option maxRecDepth 100000 in
set_option maxHeartbeats 2000000 in
theorem bw1_in {α : Type} (encs : α → Array Value) (g : Nat → α) (F : Fence) (n : Nat) (h8 : F.fn 128) (hro : F.round = none) (hn : 1 ≤ n) (l Bs b off len cap : Nat) (zs : List Int) (hreach : len * 8 ≤ 140737488351232) (hg : ∀ j, j < len → encs (g j) = #[.int .i64 (j : Int), .int .i64 (zs[j]?.getD 0)]) (J Jx : List α → World → Prop)
    (hY : ∀ pre x W, J pre W → pre.length < len → YieldAt F (n - 1) Tryz.prog l (encs x) W fun e W' =>
      (e = .returned (.bool true) ∧ J (pre ++ [x]) W' ∧ Kp2 Bs b W W') ∨ (e = .returned (.bool false) ∧ Jx (pre ++ [x]) W'))
    (W : World) (hBs : W.cell? ⟨Bs, 0, none⟩ = some (.slice (some ⟨b, off, none⟩) len cap)) (hc : ∀ j, j < len → W.cell? ⟨b, off + j, none⟩ = some (.int .i64 (zs[j]?.getD 0))) (h0 : J [] W) :
    CallsIn F n Tryz.prog 128 #[.func (.yield l) #[] #[], .pointer (some ⟨Bs, 0, none⟩)] W fun e W' => (∃ v, e = .returned v) ∧
      ((∃ ys, ys = upto (bwf g len) len ∧ J ys W') ∨ (∃ pre, (∃ k, k ≤ len ∧ pre = upto (bwf g len) k) ∧ Jx pre W')) := by
  refine callsIn_of_wp Tryz.func128 rfl h8 ?_ hro
  simp only [Tryz.ntmps128, List.size_toArray, List.length_cons, List.length_nil, Nat.reduceAdd, Nat.reduceSub, Array.replicate_succ, Array.replicate_zero, List.push_toArray, List.append_toArray, List.nil_append, List.cons_append]
  gi_wp2
  gi_loopw [3] (fun i wr => ∃ k : Nat, k ≤ len ∧ i = .int .i64 ((len : Int) - 1 - k) ∧ J (upto (bwf g len) k) wr ∧ Kp2 Bs b W wr)
    (fun i _ => (intOf i + 1).toNat)
  case atStart => exact ⟨0, Nat.zero_le _, by simp, h0, rfl, rfl⟩
  case round =>
    obtain ⟨k, hk, rfl, hJs, hnx⟩ := hrel
    by_cases hlt : k < len
    · obtain ⟨q, hq⟩ : ∃ q : Nat, len - 1 - k = q := ⟨_, rfl⟩
      have hqi : (len : Int) - 1 - k = (q : Int) := by omega
      have hcx : wr.cell? ⟨b, off + q, none⟩ = some (.int .i64 (zs[q]?.getD 0)) := (World.cell?_of_block (a := ⟨b, off + q, none⟩) hnx.2).trans (hc q (by omega))
      have hbx := (World.cell?_of_block (a := ⟨Bs, 0, none⟩) hnx.1).trans hBs
      have hJq : bwf g len k = g q := by unfold bwf; rw [hq]
      obtain ⟨fn, tmps, assign, body, hy, hR⟩ := hY _ (g q) wr hJs (by rw [upto_length]; exact hlt)
      rw [hqi]
      have q0 : (0 : Int) ≤ (q : Int) := Int.natCast_nonneg _
      have q1 : (q : Int) < (len : Int) := by omega
      rw [hg q (by omega)] at hy
      gi_wp2
      refine hR.mono ?_
      rintro e W3 (⟨rfl, hJ3, hk3⟩ | ⟨rfl, hJx3⟩)
      · gi_wp2
        go_roundw
        case rel => exact ⟨k + 1, by omega, by go_num, by rw [upto_succ, hJq]; exact hJ3, hnx.t hk3⟩
        case measure => simp [intOf] <;> omega
      · gi_wp2
        refine bodyPost_ret (results_none rfl _ _ _) rfl ?_
        exact ⟨⟨_, rfl⟩, .inr ⟨_, ⟨k + 1, by omega, by rw [upto_succ, hJq]⟩, hJx3⟩⟩
    · obtain rfl : k = len := by omega
      gi_wp2
      go_end0
      exact ⟨⟨_, rfl⟩, .inl ⟨_, rfl, hJs⟩⟩

theorem bw_in (F : Fence) (n : Nat) (h6 : F.fn 92) (hro : F.round = none) (a : Option Addr) (len cap : Nat) (w : World) :
    CallsIn F n Tryz.prog 92 #[.slice a len cap] w fun e w' => e = .returned (.func (.func 128) #[] #[.pointer (some ⟨w.heap.size, 0, none⟩)]) ∧ w' = w.alloc (.cells #[.slice a len cap] 24) := by
  refine callsIn_of_wp Tryz.func92 rfl h6 ?_ hro
  simp only [Tryz.ntmps92, List.size_toArray, List.length_cons, List.length_nil, Nat.reduceAdd, Nat.reduceSub, Array.replicate_succ, Array.replicate_zero, List.push_toArray, List.append_toArray, List.nil_append, List.cons_append]
  gi_wp2
  go_ret
  exact ⟨rfl, rfl⟩

theorem bw_stops {α : Type} (encs : α → Array Value) (g : Nat → α) (F : Fence) (n : Nat) (h8 : F.fn 128) (hro : F.round = none) (hn : 1 ≤ n) (Bs b off len cap : Nat) (zs : List Int) (hreach : len * 8 ≤ 140737488351232) (w : World) (hBs : Bs < w.heap.size) (hb : b < w.heap.size) (hg : ∀ j, j < len → encs (g j) = #[.int .i64 (j : Int), .int .i64 (zs[j]?.getD 0)])
    (hc : w.cell? ⟨Bs, 0, none⟩ = some (.slice (some ⟨b, off, none⟩) len cap)) (hI : ∀ j, j < len → w.cell? ⟨b, off + j, none⟩ = some (.int .i64 (zs[j]?.getD 0))) :
    SeqStopsK F n Tryz.prog 128 #[.pointer (some ⟨Bs, 0, none⟩)] encs (Kp2 Bs b) (fun ys => ys = upto (bwf g len) len)
      (fun pre => ∃ k, k ≤ len ∧ pre = upto (bwf g len) k) len w := fun l J Jx W hW _ _ hY h0 => by
  have hc' := (hW.cell (p := ⟨Bs, 0, none⟩) hBs).trans hc
  exact bw1_in encs g F n h8 hro hn l Bs b off len cap zs hreach hg J Jx hY W hc' (fun j hj => (hW.cell (p := ⟨b, off + j, none⟩) hb).trans (hI j hj)) h0
end Go.Proofs.YthmlejijfgbfbaaGreat
