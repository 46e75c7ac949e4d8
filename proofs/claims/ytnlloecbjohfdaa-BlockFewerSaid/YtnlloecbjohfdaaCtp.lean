/-
  slices.Contains at pairs.
-/
import Derived.Test.YtnlloecbjohfdaaMem
import Derived.Lib.SliceRun
import Derived.Deep.DrawnRows
namespace Go.Proofs.Ytnlloecbjohfdaa
open Go.RowKit
set_option linter.unusedVariables false

/-! ### Contains -/
theorem run_eq_pair (w : World) (a b x y : Int) : (Op.equalIn 10000 81 (.agg #[.int .i64 a, .int .i64 b]) (.agg #[.int .i64 x, .int .i64 y])).run Try.prog w = .ok (decide (a = x ∧ b = y)) w := by
  have hs : ∀ w, (Go.sizeOf 3).run Try.prog w = .ok 1 w := fun w => by kernel_rfl
  have h1 : ∀ d (p q : Int) w, (Op.equalIn (d + 1) 3 (.int .i64 p) (.int .i64 q)).run Try.prog w = .ok (p == q) w := fun d p q w => by
    simp [Op.equalIn, run_underlying Try.underlying3]
  have hp0 : ∀ (p q : Int) w, (part 3 #[.int .i64 p, .int .i64 q] 0).run Try.prog w = .ok (.int .i64 p) w := fun p q w => by kernel_rfl
  have hp1 : ∀ (p q : Int) w, (part 3 #[.int .i64 p, .int .i64 q] 1).run Try.prog w = .ok (.int .i64 q) w := fun p q w => by kernel_rfl
  have key : ∀ d : Nat, (Op.equalIn (d + 1 + 1) 81 (.agg #[.int .i64 a, .int .i64 b]) (.agg #[.int .i64 x, .int .i64 y])).run Try.prog w = .ok (decide (a = x ∧ b = y)) w := fun d => by
    rw [Op.equalIn]
    simp only [Sem.run_bind, run_underlying Try.underlying81, Result.andThen_ok, hs]

    by_cases ha : a = x
    · by_cases hb : b = y
      · simp [Std.Legacy.Range.forIn_eq_forIn_range', h1, hp0, hp1, ha, hb, List.range'_succ, Sem.run_bind]
      · simp [Std.Legacy.Range.forIn_eq_forIn_range', h1, hp0, hp1, ha, hb, List.range'_succ, Sem.run_bind]
    · simp [Std.Legacy.Range.forIn_eq_forIn_range', h1, hp0, hp1, ha, List.range'_succ, Sem.run_bind]
  exact key 9998
def pairIn (l : List (Int × Int)) (a b : Int) : Bool := decide ((a, b) ∈ l)
def pairIdx (l : List (Int × Int)) (a b : Int) (i : Int) : Prop := decide (0 ≤ i) = pairIn l a b

set_option maxHeartbeats 1000000 in
theorem indexPair_any (v : Value) (l : List (Int × Int)) (a b : Int) (w : World) (hp : Pairs w v l) (hl : l.length ≤ 140737488355328) :
    Calls Try.prog 84 #[v, .agg #[.int .i64 a, .int .i64 b]] w fun e w' => (∃ i : Int, e = .returned (.int .i64 i) ∧ pairIdx l a b i) ∧ Below w.heap.size w w' := by
  obtain ⟨ao, cap, rfl, h⟩ := hp
  have HH := Lib.hid h
  clear h
  go_enter Try.func84, Try.ntmps84
  go_wp2
  go_loopw [5, 8] (fun _ i wr => ∃ k : Nat, k ≤ l.length ∧ i = .int .i64 k ∧ Below (w.heap.size + 1) (w.alloc (.cells #[.int .i64 a, .int .i64 b] 81)) wr ∧ Hid (∀ (j : Nat) y, j < k → l[j]? = some y → y ≠ (a, b))) (fun _ i _ => l.length - (intOf i).toNat)
  case atStart => exact ⟨0, Nat.zero_le _, rfl, Below.refl _ _, fun j _ hj => by omega⟩
  case round =>
    obtain ⟨k, hk, rfl, hBr, hno⟩ := hrel
    have hBw : Below w.heap.size w wr := (below_new w _).trans (hBr.mono (by omega))
    have g1 := (hBr.cell (p := ⟨w.heap.size, 0, none⟩) (by simp)).trans (show _ = some (.int .i64 a) by rw [World.cell?_alloc_at _ _ _ _ rfl]; rfl)
    have g2 := (hBr.cell (p := ⟨w.heap.size, 1, none⟩) (by simp)).trans (show _ = some (.int .i64 b) by rw [World.cell?_alloc_at _ _ _ _ rfl]; rfl)
    by_cases hk2 : k < l.length
    · obtain ⟨eb, off, rfl, hbl, hc⟩ := HH.out (by omega)
      obtain ⟨⟨x, y⟩, hy⟩ : ∃ y, l[k]? = some y := ⟨_, List.getElem?_eq_getElem hk2⟩
      obtain ⟨hc1, hc2⟩ := hc k _ hy
      have hd1 := (hBw.cell (p := ⟨eb, off + k * 2, none⟩) hbl).trans hc1
      have hd2 := (hBw.cell (p := ⟨eb, off + k * 2 + 1, none⟩) hbl).trans hc2
      have HY := Lib.hid hy
      have k0 : (0 : Int) ≤ (k : Int) := Int.natCast_nonneg _
      have k1 : (k : Int) < (l.length : Int) := by omega
      clear hy hc hc1 hc2
      by_cases hab : a = x ∧ b = y
      · obtain ⟨rfl, rfl⟩ := hab
        have HR := Lib.hid (show pairIn l a b = true from dec_yes (List.mem_of_getElem? HY.out))
        have hq : ∀ W, (Op.equalIn 10000 81 (.agg #[.int .i64 a, .int .i64 b]) (.agg #[.int .i64 a, .int .i64 b])).run Try.prog W = .ok true W := fun W => by rw [run_eq_pair]; simp
        go_wp2
        go_region
        all_goals
          go_wp2
          go_ret
          exact ⟨⟨k, rfl, by unfold pairIdx; rw [HR.out]; simp⟩, by first | exact below_drewN' hBw 1 | exact hBw.drew⟩
      · have HN : Hid (∀ (j : Nat) y, j < k + 1 → l[j]? = some y → y ≠ (a, b)) := fun j z hj hz => by
          by_cases e : j = k
          · subst e; rw [HY.out] at hz; cases hz; exact fun e => hab (by injection e with e1 e2; exact ⟨e1.symm, e2.symm⟩)
          · exact hno.out j z (by omega) hz
        have hq : ∀ W, (Op.equalIn 10000 81 (.agg #[.int .i64 a, .int .i64 b]) (.agg #[.int .i64 x, .int .i64 y])).run Try.prog W = .ok false W := fun W => by rw [run_eq_pair, dec_no hab]
        clear hab
        go_wp2
        go_region
        all_goals
          go_wp2
          go_roundw
          case rel => exact ⟨k + 1, by omega, by go_num, hBr.drew, HN.out⟩
          case measure => simp [intOf]; omega
    · have HR := Lib.hid (show pairIn l a b = false from dec_no fun hm => by
        obtain ⟨j, hj⟩ := List.mem_iff_getElem?.1 hm
        exact hno.out j _ (by have := (List.getElem?_eq_some_iff.1 hj).1; omega) hj rfl)
      go_wp2
      go_ret
      exact ⟨⟨-1, rfl, by unfold pairIdx; rw [HR.out]; rfl⟩, hBw⟩

theorem containsPair_any (v : Value) (l : List (Int × Int)) (a b : Int) (w : World) (hp : Pairs w v l) (hl : l.length ≤ 140737488355328) :
    Calls Try.prog 44 #[v, .agg #[.int .i64 a, .int .i64 b]] w fun e w' => e = .returned (.bool (pairIn l a b)) ∧ Below w.heap.size w w' := by
  have hb0 := below_new w (.cells #[.int .i64 a, .int .i64 b] 81)
  have HI := Lib.hid (indexPair_any v l a b _ (hp.below hb0) hl)
  clear hp
  go_enter Try.func44, Try.ntmps44
  go_wp2_with fail
  refine HI.out.mono ?_
  rintro e w9 ⟨⟨i, rfl, hi⟩, hb1⟩
  unfold pairIdx at hi
  have HR := Lib.hid hi
  clear hi
  go_wp2
  go_ret
  exact ⟨ret_bool HR.out, bstep hb0 hb1⟩
end Go.Proofs.Ytnlloecbjohfdaa
