/-
  slices.Values, AppendSeq, Collect, Sorted over integers.
-/
import Derived.Test.YtamogedpgkofjaaGreatCpg
namespace Go.Proofs.YtamogedpgkofjaaGreat
section
open Go.RowKit Go.Shelf
set_option linter.unusedVariables false
attribute [local go_sem] Oper.semAt_some

def encI1 (x : Int) : Array Value := #[.int .i64 x]
set_option maxRecDepth 100000 in
set_option maxHeartbeats 2000000 in
theorem vl1_in (F : Fence) (n : Nat) (h8 : F.fn 109) (hro : F.round = none) (hn : 1 ≤ n) (l Bs b off len cap : Nat) (ao : Option Addr) (hao : 0 < len → ao = some ⟨b, off, none⟩) (zs : List Int) (hlen : zs.length = len) (hreach : len * 8 ≤ 140737488351232) (J Jx : List Int → World → Prop)
    (hY : ∀ pre x W, J pre W → pre.length < len → YieldAt F (n - 1) Tryz.prog l (encI1 x) W fun e W' =>
      (e = .returned (.bool true) ∧ J (pre ++ [x]) W' ∧ Kp2 Bs b W W') ∨ (e = .returned (.bool false) ∧ Jx (pre ++ [x]) W'))
    (W : World) (hBs : W.cell? ⟨Bs, 0, none⟩ = some (.slice ao len cap)) (hc : ∀ j, j < len → W.cell? ⟨b, off + j, none⟩ = some (.int .i64 (zs.getD j 0))) (h0 : J [] W) :
    CallsIn F n Tryz.prog 109 #[.func (.yield l) #[] #[], .pointer (some ⟨Bs, 0, none⟩)] W fun e W' => (∃ v, e = .returned v) ∧
      ((∃ ys, ys = zs ∧ J ys W') ∨ (∃ pre, (∃ k, k ≤ len ∧ pre = zs.take k) ∧ Jx pre W')) := by
  refine callsIn_of_wp Tryz.func109 rfl h8 ?_ hro
  simp only [Tryz.ntmps109, List.size_toArray, List.length_cons, List.length_nil, Nat.reduceAdd, Nat.reduceSub, Array.replicate_succ, Array.replicate_zero, List.push_toArray, List.append_toArray, List.nil_append, List.cons_append]
  have HZ := Lib.hid hlen
  have HAO := Lib.hid hao
  clear hlen hao
  gi_wp2
  gi_loopw [7] (fun i wr => ∃ k : Nat, k ≤ len ∧ i = .int .i64 (k : Int) ∧ J (zs.take k) wr ∧ Kp2 Bs b W wr)
    (fun i _ => len - (intOf i).toNat)
  case atStart => exact ⟨0, Nat.zero_le _, rfl, h0, rfl, rfl⟩
  case round =>
    obtain ⟨k, hk, rfl, hJs, hnx⟩ := hrel
    by_cases hlt : k < len
    · obtain rfl := HAO.out (by omega)
      have hcx : wr.cell? ⟨b, off + k, none⟩ = some (.int .i64 (zs.getD k 0)) := (World.cell?_of_block (a := ⟨b, off + k, none⟩) hnx.2).trans (hc k hlt)
      obtain ⟨x, hx⟩ : ∃ x, zs.getD k 0 = x := ⟨_, rfl⟩
      have HX := Lib.hid (show zs.take (k + 1) = zs.take k ++ [x] by
        rw [List.take_succ_eq_append_getElem (by have := HZ.out; omega), ← hx, List.getD_eq_getElem?_getD, List.getElem?_eq_getElem (by have := HZ.out; omega)]; rfl)
      rw [hx] at hcx
      obtain ⟨fn, tmps, assign, body, hy, hR⟩ := hY _ x wr hJs (by rw [List.length_take]; have := HZ.out; omega)
      unfold encI1 at hy
      have q0 : (0 : Int) ≤ (k : Int) := Int.natCast_nonneg _
      have q1 : (k : Int) < (len : Int) := by omega
      clear hx
      gi_wp2
      refine hR.mono ?_
      rintro e W3 (⟨rfl, hJ3, hk3⟩ | ⟨rfl, hJx3⟩)
      · gi_wp2
        go_roundw
        case rel => exact ⟨k + 1, by omega, by go_num, by rw [HX.out]; exact hJ3, hnx.t hk3⟩
        case measure => simp [intOf] <;> omega
      · gi_wp2
        refine bodyPost_ret (results_none rfl _ _ _) rfl ?_
        exact ⟨⟨_, rfl⟩, .inr ⟨_, ⟨k + 1, by omega, HX.out.symm⟩, hJx3⟩⟩
    · obtain rfl : k = len := by omega
      gi_wp2
      go_end0
      rw [List.take_of_length_le (by have := HZ.out; omega)] at hJs
      exact ⟨⟨_, rfl⟩, .inl ⟨_, rfl, hJs⟩⟩
theorem vl_stops (F : Fence) (n : Nat) (h8 : F.fn 109) (hro : F.round = none) (hn : 1 ≤ n) (Bs b off len cap : Nat) (ao : Option Addr) (hao : 0 < len → ao = some ⟨b, off, none⟩) (zs : List Int) (hlen : zs.length = len) (hreach : len * 8 ≤ 140737488351232) (w : World) (hBs : Bs < w.heap.size) (hb : b < w.heap.size)
    (hc : w.cell? ⟨Bs, 0, none⟩ = some (.slice ao len cap)) (hI : ∀ j, j < len → w.cell? ⟨b, off + j, none⟩ = some (.int .i64 (zs.getD j 0))) :
    SeqStopsK F n Tryz.prog 109 #[.pointer (some ⟨Bs, 0, none⟩)] encI1 (Kp2 Bs b) (fun ys => ys = zs) (fun pre => ∃ k, k ≤ len ∧ pre = zs.take k) len w := fun l J Jx W hW _ _ hY h0 =>
  vl1_in F n h8 hro hn l Bs b off len cap ao hao zs hlen hreach J Jx hY W ((hW.cell (p := ⟨Bs, 0, none⟩) hBs).trans hc) (fun j hj => (hW.cell (p := ⟨b, off + j, none⟩) hb).trans (hI j hj)) h0
structure ApI (W6 : World) (N : Nat) (v : Value) (l : List Int) (W : World) : Prop where
  base : W6.grownBy W (some N)
  box : BlkIs W N 24 #[v]
  own : Own W (N + 1) 3 intf v l
theorem ApI.push {W6 W W' : World} {N : Nat} {v v' : Value} {l l' : List Int} (h : ApI W6 N v l W) (hN : W6.heap.size = N + 1) (hg : W.grownBy W' v.ownBlock) (ho : Own W' (N + 1) 3 intf v' l') : ApI W6 N v' l' (W'.setCell ⟨N, 0, none⟩ v') := by
  have hr : ∀ g, v.ownBlock = some g → N + 1 ≤ g := fun g e => (h.own.lt g e).1
  refine ⟨?_, (h.box.else_ hg (fun e => by have := hr _ e.symm; omega)).set 0 v', ho.only (only_set W' N 0 v') (fun g e e2 => by cases e2; have := (ho.lt _ e).1; omega)⟩
  exact only_trans (only_next h.base hg (.inr fun g e => by have := hr g e; omega)) (only_set W' N 0 v')
end
end Go.Proofs.YtamogedpgkofjaaGreat
