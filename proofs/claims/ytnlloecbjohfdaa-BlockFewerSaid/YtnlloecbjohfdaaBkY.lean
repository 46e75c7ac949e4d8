/-
  The walk of BlockFewer.
-/
import Derived.Test.YtnlloecbjohfdaaBkV
import Derived.Test.YtnlloecbjohfdaaBkI
import Derived.Test.YtnlloecbjohfdaaLib
import Derived.Test.YtnlloecbjohfdaaCtp
import Derived.Test.YtnlloecbjohfdaaRep
namespace Go.Proofs.Ytnlloecbjohfdaa
open Go.RowKit
set_option linter.unusedVariables false
set_option linter.unusedSimpArgs false
attribute [local go_sem ↓] Go.wp_at_zero Go.wp_at_succ

/-! ### plain -/
theorem othE_part {n i x : Int} {T : List Int} (m : Nat) (h : othE n i x T = 0) : othE n i x (T.take m) = 0 := by
  obtain ⟨h1, h2, h3, h4⟩ := othE_zero h
  refine othE_ok (List.all_eq_true.2 fun y hy => ?_) h3 ?_
  · unfold inR
    rcases List.mem_cons.1 hy with rfl | hy
    · exact dec_yes h1
    · exact dec_yes (h2 y (List.mem_of_mem_take hy))
  · rw [List.nodup_cons] at h4 ⊢
    exact ⟨fun h => h4.1 (List.mem_of_mem_take h), h4.2.sublist (List.take_sublist _ _)⟩
theorem othE_nil {n i x : Int} {T : List Int} (h : othE n i x T = 0) : othE n i x [] = 0 := by
  have := othE_part 0 h
  rwa [List.take_zero] at this
theorem edgE_rep {n : Nat} {x : Int} (hn : n ≤ 60) (hx : axB x = true) : edgE n (List.replicate n x) = 0 := by
  refine edgE_ok (by omega) (List.length_replicate ..) ?_
  rw [List.any_eq_false]
  intro y hy
  obtain rfl := (List.mem_replicate.1 hy).2
  simp [hx]
theorem few_way (L : List (List Bx)) (Z : List Int) (i : Nat) (T : List Int) {x : Int} (hx : axB x = true) : decide (x ∈ waysL L Z i T) = decide (((blkL L Z x i T).length : Int) = 0) := by
  rw [decide_eq_decide, ways_mem]
  constructor
  · rintro ⟨_, h⟩; rw [h]; rfl
  · intro h
    refine ⟨hx, List.length_eq_zero_iff.1 (by omega)⟩
theorem few_edge {L : List (List Bx)} {Z : List Int} {x : Int} {n i k : Nat} {T : List Int} (hi : i < n) (hk : k < n) (hne : i ≠ k) (hkT : (k : Int) ∈ T) :
    pairIn (edgL L Z (List.replicate n x) n n) (i : Int) (k : Int) = decide ((k : Int) ∈ blkL L Z x i T) := by
  unfold pairIn
  rw [decide_eq_decide, edg_mem hi hk hne, blkL_mem, Int.toNat_natCast]
  have e : (List.replicate n x).getD i 0 = x := by rw [List.getD_eq_getElem?_getD, List.getElem?_replicate, if_pos hi]; rfl
  rw [e]
  exact ⟨fun h => ⟨hkT, h⟩, fun h => h.2⟩
theorem own_nilOr {α : Type} {w : World} {B : Nat} {e : TypeId} {f : α → Value} {v : Value} {l : List α} (h : Own w B e f v l) : (v = .slice none 0 0 ∧ l = []) ∨ ∃ g cap, v = .slice (some ⟨g, 0, none⟩) l.length cap ∧ l.length ≤ cap := by
  rcases h.2 with ⟨h1, h0⟩ | ⟨g, cap, cur, h1, hb, hg, hcap, _⟩
  · exact .inl ⟨h1, List.length_eq_zero_iff.1 h0⟩
  · exact .inr ⟨g, cap, h1, hcap⟩
theorem fewer1_any (B : Nat) (y : Value) (l : List Int) (a : Int) (w : World) (hB : w.cell? ⟨B, 0, none⟩ = some y) (hy : Ints w y l) (hl : l.length ≤ 140737488355328) :
    Calls Try.prog 40 #[.int .i64 a, .pointer (some ⟨B, 0, none⟩)] w fun e w' => e = .returned (.bool (!decide (a ∈ l))) ∧ Below w.heap.size w w' := by
  have H := Lib.hid (contains_any y l a w hy hl)
  generalize decide (a ∈ l) = q at *
  clear hy
  go_enter Try.func40, Try.ntmps40
  go_wp2_with fail
  refine H.out.mono ?_
  rintro e w1 ⟨rfl, rfl⟩
  go_wp2
  go_ret
  exact ⟨rfl, Below.refl _ _⟩
theorem pairs_of {w : World} {v : Value} {l : List (Int × Int)} (h : Fl 2 prCells w v l) : Pairs w v l := by
  obtain ⟨ao, cap, rfl, h⟩ := h
  refine ⟨ao, cap, rfl, fun hl => ?_⟩
  obtain ⟨b, off, rfl, hlt, hc⟩ := h hl
  exact ⟨b, off, rfl, hlt, fun k x hx => ⟨hc k x hx 0 _ rfl, hc k x hx 1 _ rfl⟩⟩
theorem own_cap {α : Type} {w : World} {B : Nat} {e : TypeId} {f : α → Value} {v : Value} {l : List α} (h : Own w B e f v l) : ∃ ao cap, v = .slice ao l.length cap ∧ l.length ≤ cap := by
  rcases own_nilOr h with ⟨rfl, rfl⟩ | ⟨g, cap, rfl, hc⟩
  · exact ⟨none, 0, rfl, Nat.le_refl _⟩
  · exact ⟨_, cap, rfl, hc⟩
theorem axes_lit (w : World) : Ints (w.alloc (.cells #[.int .i64 1, .int .i64 2, .int .i64 3, .int .i64 (-1), .int .i64 (-2), .int .i64 (-3)] 3)) (.slice (some ⟨w.heap.size, 0, none⟩) 6 6) axesL := by
  refine ⟨some ⟨w.heap.size, 0, none⟩, 6, rfl, fun _ => ⟨w.heap.size, 0, rfl, by simp, fun k x hk => ?_⟩⟩
  have h := BlkIs.new w #[.int .i64 1, .int .i64 2, .int .i64 3, .int .i64 (-1), .int .i64 (-2), .int .i64 (-3)] 3
  rw [Nat.zero_add, h.cell k]
  match k, hk with
  | 0, hk => cases hk; rfl
  | 1, hk => cases hk; rfl
  | 2, hk => cases hk; rfl
  | 3, hk => cases hk; rfl
  | 4, hk => cases hk; rfl
  | 5, hk => cases hk; rfl
end Go.Proofs.Ytnlloecbjohfdaa
