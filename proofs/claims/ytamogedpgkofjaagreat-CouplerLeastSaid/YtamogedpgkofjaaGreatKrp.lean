/-
  Base texts, shaken by wip/shake.py: Rep.
-/
import Derived.Laws.BitsAllLaws
import Derived.Laws.CopyOwn
import Derived.BigRegion
import Derived.Deep.RegionLaw
import Derived.Test.YtamogedpgkofjaaGreatKmm
namespace Go.Proofs.YtamogedpgkofjaaGreat
section
open Go.RowKit
set_option linter.unusedVariables false

theorem and_mask (n : Nat) (hn : n ≤ 4294967295) : bits .and .u64 (n : Int) 4294967295 = (n : Int) := by
  have h := u64_and_nat n 4294967295 (by omega) (by omega)
  have e : n &&& 4294967295 = n := by
    have := Nat.and_two_pow_sub_one_eq_mod n 32
    rw [show 2 ^ 32 - 1 = 4294967295 from rfl] at this
    rw [this]; exact Nat.mod_eq_of_lt (by omega)
  rw [e] at h
  exact h

theorem mul64_one (n : Nat) (hn : n ≤ 4294967295) (w : World) :
    Calls Tryz.prog 160 #[.int .u64 1, .int .u64 (n : Int)] w fun e w' => e = .returned (.tuple #[.int .u64 0, .int .u64 (n : Int)]) ∧ w = w' := by
  have h1 : bits .and .u64 1 4294967295 = 1 := and_mask 1 (by omega)
  have h0 : bits .and .u64 0 4294967295 = 0 := and_mask 0 (by omega)
  have hN := and_mask n hn
  have hd : (n : Int) / 4294967296 = 0 := by omega
  have hb : (n : Int) ≤ 4294967295 := by omega
  go_enter Tryz.func160, Tryz.ntmps160
  go_wp2
  go_ret2
  exact ⟨rfl, rfl⟩

theorem mul_one (n : Nat) (hn : n ≤ 4294967295) (w : World) :
    Calls Tryz.prog 122 #[.int .u64 1, .int .u64 (n : Int)] w fun e w' => e = .returned (.tuple #[.int .u64 0, .int .u64 (n : Int)]) ∧ w = w' := by
  go_enter Tryz.func122, Tryz.ntmps122
  go_wp2_with (first
    | (go_at_call 160; refine (mul64_one n hn _).mono ?_; rintro e w9 ⟨rfl, rfl⟩))
  go_ret2
  exact ⟨rfl, rfl⟩

def intf (x : Int) : Value := .int .i64 x
def repCells (c : Int) (m n : Nat) : List Value := List.replicate m (intf c) ++ List.replicate (n - m) (intf 0)
theorem repCells_len (c : Int) (m n : Nat) (h : m ≤ n) : (repCells c m n).length = n := by simp [repCells]; omega
theorem repCells_splice (c : Int) (m n k : Nat) (h : m + k ≤ n) : splice (repCells c m n) m (List.replicate k (intf c)) = repCells c (m + k) n := by
  unfold splice repCells
  rw [List.take_left' (by simp), List.length_replicate, List.drop_append, List.drop_of_length_le (by simp), List.length_replicate, List.drop_replicate, List.nil_append, ← List.append_assoc, List.replicate_append_replicate]
  congr 2
  omega
theorem repCells_get (c : Int) (m n j : Nat) (h : j < m) : (repCells c m n)[j]? = some (intf c) := by
  unfold repCells
  rw [List.getElem?_append_left (by simpa using h)]
  simp [h]
theorem get_rep {α : Type} {k j : Nat} {x v : α} (h : (List.replicate k x)[j]? = some v) : j < k ∧ v = x := by
  obtain ⟨h1, h2⟩ := List.getElem?_eq_some_iff.1 h
  exact ⟨by simpa using h1, by simpa using h2.symm⟩

set_option maxRecDepth 100000 in
set_option maxHeartbeats 1000000 in
theorem repeat_any (v : Value) (c : Int) (n : Nat) (w : World) (h : Ints w v [c]) (h1 : 1 ≤ n) (hn : n ≤ 100000) :
    Calls Tryz.prog 99 #[v, .int .i64 (n : Int)] w fun e w' =>
      (∃ u, e = .returned u ∧ Own w' w.heap.size 3 intf u (List.replicate n c)) ∧ Below w.heap.size w w' := by
  obtain ⟨ao, cap, rfl, h⟩ := h
  obtain ⟨b, off, rfl, hbl, hc⟩ := h (by simp)
  have hc0 := hc 0 c rfl
  clear h hc
  have hmk := fun W => run_make_one (P := Tryz.prog) 24 3 8 (.int .i64 0) Tryz.underlying24 (by kernel_rfl) (by omega) n (by omega) W
  have hmc : (madeCells (Value.int .i64 0).cells n) = (repCells c 0 n).toArray := by
    apply Array.ext'
    have := toList_madeCells_one (.int .i64 0) n
    simpa [repCells, intf, Value.cells] using this
  rw [hmc] at hmk
  clear hmc
  have hB0 : Below w.heap.size w (w.alloc (.cells (repCells c 0 n).toArray 3)) := below_new _ _
  have HG0 := Lib.hid (heap_alloc_new w (.cells (repCells c 0 n).toArray 3))
  have HL0 := Lib.hid (repCells_len c 0 n (by omega))
  have hcB : (w.alloc (.cells (repCells c 0 n).toArray 3)).cell? ⟨b, off, none⟩ = some (intf c) := (World.cell?_alloc_lt w _ ⟨b, off, none⟩ hbl).trans hc0
  have HCB := Lib.hid hcB
  have HS0 := Lib.hid (repCells_splice c 0 n 1 (by omega))
  clear hcB
  go_enter Tryz.func99, Tryz.ntmps99
  go_wp2_with (first
    | (go_at_call 122; refine (mul_one n (by omega) _).mono ?_; rintro e w9 ⟨rfl, rfl⟩)
    | (refine wpList_copy_splice (o := ⟨some 33, _, _, _, _, _⟩) rfl (.tmp 31) (.tmp 32) 24 24 rfl 3 Tryz.underlying24 (by kernel_rfl) (some ⟨w.heap.size, 0, none⟩) (some ⟨b, off, none⟩) n n 1 cap rfl rfl w.heap.size 0 (repCells c 0 n) 3 HG0.out (List.replicate 1 (intf c)) (by
        have := Nat.min_eq_left h1
        simpa using this.symm) (fun _ => ⟨rfl, _, rfl, fun j v hj => by
          obtain ⟨h2, rfl⟩ := get_rep hj
          obtain rfl : j = 0 := by omega
          rw [Addr.add_lit]; exact HCB.out⟩) (by rw [HL0.out]; simp; omega) (fun v hv => by rw [List.eq_of_mem_replicate hv]; rfl) w.heap.size w hB0 (Nat.le_refl _) ?_; intro w1 hg1 hb1))
  have HG1 : Hid (w1.heap[w.heap.size]? = some (.cells (repCells c 1 n).toArray 3 (0, 0))) := by
    have := hg1.out
    rw [HS0.out] at this
    exact this
  clear hg1 HG0 HS0 HCB hB0
  go_loopw [8] (fun s wr => ∃ m : Nat, 1 ≤ m ∧ m ≤ n ∧ s = .int .i64 m ∧ Below w.heap.size w wr ∧ Hid (wr.heap[w.heap.size]? = some (.cells (repCells c m n).toArray 3 (0, 0)))) (fun s _ => n - (intOf s).toNat)
  case atStart => exact ⟨1, by omega, h1, by simp, hb1, HG1⟩
  case round =>
    obtain ⟨m, hm1, hm2, rfl, hB, HG⟩ := hrel
    clear HG1 hb1
    by_cases hlt : m < n
    · obtain ⟨k, hk⟩ : ∃ k, k = min m (n - m) := ⟨_, rfl⟩
      have hk1 : 1 ≤ k ∧ m + k ≤ n ∧ k ≤ m := by omega
      have HK := Lib.hid hk
      clear hk
      have HS := Lib.hid (repCells_splice c m n k (by omega))
      have HL := Lib.hid (repCells_len c m n (by omega))
      have hnm : ¬ (n = m) := by omega
      have hne : (m : Int) ≠ (n : Int) := by omega
      have i0 : (0 : Int) ≤ (m : Int) := by omega
      have i1 : (m : Int) ≤ (n : Int) := by omega
      have hsrc : ∀ j v, (List.replicate k (intf c))[j]? = some v → wr.drew.cell? ((⟨w.heap.size, 0, none⟩ : Addr).add j) = some v := fun j v hj => by
        obtain ⟨h2, rfl⟩ := get_rep hj
        rw [Addr.add_lit]
        have hg := HG.out
        have : wr.drew.heap[w.heap.size]? = some (.cells (repCells c m n).toArray 3 (0, 0)) := hg
        simp [World.cell?, this, repCells_get c m n j (by omega)]
      have HSRC := Lib.hid hsrc
      clear hsrc
      have hBd : Below w.heap.size w wr.drew := hB.drew
      have hsum : IntKind.i64.wrap ((m : Int) + (k : Int)) = ((m + k : Nat) : Int) := by rw [IntWalk.i64_in _ (by omega)]; simp
      go_wp2
      go_region_law ((refine step_copy_splice rfl (.tmp 41) (.tmp 44) 24 24 rfl 3 Tryz.underlying24 (by kernel_rfl) (some ⟨w.heap.size, m, none⟩) (some ⟨w.heap.size, 0, none⟩) (n - m) (n - m) m n (by simp [Act.eval, Act.put]) (by simp [Act.eval, Act.put]) w.heap.size m (repCells c m n) 3 HG.out (List.replicate k (intf c)) (by rw [HK.out]; simp [Nat.min_def]) (fun _ => ⟨rfl, _, rfl, HSRC.out⟩) (by rw [HL.out]; simp; omega) (fun v hv => by rw [List.eq_of_mem_replicate hv]; rfl) w.heap.size w hBd (Nat.le_refl _) ?_; intro w4 hg4 hb4))
      all_goals
        go_wp2
        go_simp
        exact ⟨⟨m + k, by omega, by omega, by omega, by rw [← HS.out]; exact Hid.out ‹_›⟩, by simp [intOf]; omega⟩
    · obtain rfl : m = n := by omega
      have HL := Lib.hid (repCells_len c m m (by omega))
      go_wp2
      go_ret
      refine ⟨⟨_, rfl, ?_⟩, hB⟩
      have hg := HG.out
      have e : repCells c m m = (List.replicate m c).map intf := by simp [repCells]
      rw [e] at hg
      exact ⟨by simp, .inr ⟨w.heap.size, m, _, by simp, Nat.le_refl _, hg, by simp, by unfold maxLen; omega, by simp, by simp⟩⟩
end
end Go.Proofs.YtamogedpgkofjaaGreat
