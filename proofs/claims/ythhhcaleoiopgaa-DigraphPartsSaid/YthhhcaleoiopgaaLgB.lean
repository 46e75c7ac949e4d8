/-
  Directed graphs: Longest, what its second half calls and keeps.
-/
import Derived.Test.YthhhcaleoiopgaaLgQ
namespace Go.Proofs.Ythhhcaleoiopgaa
open Go.RowKit
set_option linter.unusedVariables false
attribute [local go_sem ↓] Go.wp_at_zero Go.wp_at_succ

theorem maxI_any (v : Value) (l : List Int) (w : World) (h : Ints w v l) (h0 : 0 < l.length) (hl : l.length ≤ 140737488355328) :
    Calls Try.prog 46 #[v] w fun e w' => e = .returned (.int .i64 (Lib.maxOf l)) ∧ w = w' := by
  obtain ⟨ao, cap, rfl, h⟩ := h
  obtain ⟨b, off, rfl, hlt, hc⟩ := h h0
  refine (Try.slices_Max_int b off l.length cap l w h0 (Nat.le_refl _) (by omega) (fun j hj => ?_)).mono ?_
  · rw [hc j _ (List.getElem?_eq_getElem hj), List.getD_eq_getElem?_getD, List.getElem?_eq_getElem hj]; rfl
  · rintro e w' ⟨rfl, rfl⟩
    exact ⟨by rw [List.take_length], rfl⟩

set_option maxHeartbeats 400000 in
theorem longFn_any (X8 X9 GA n capA k : Nat) (z m : Int) (w : World) (h8 : w.cell? ⟨X8, 0, none⟩ = some (.slice (some ⟨GA, 0, none⟩) n capA)) (h9 : w.cell? ⟨X9, 0, none⟩ = some (.int .i64 m)) (hc : w.cell? ⟨GA, k, none⟩ = some (.int .i64 z)) (hk : k < n) (hn : n ≤ 100000) :
    Calls Try.prog 48 #[.int .i64 (k : Int), .pointer (some ⟨X8, 0, none⟩), .pointer (some ⟨X9, 0, none⟩)] w fun e w' => e = .returned (.bool (z == m)) ∧ Below w.heap.size w w' := by
  have k0 : (0 : Int) ≤ (k : Int) := Int.natCast_nonneg _
  have k1 : (k : Int) < (n : Int) := by omega
  by_cases hz : z = m
  · have e := beq_yes hz
    go_enter Try.func48, Try.ntmps48
    go_wp2
    go_quiet (fail)
    go_wp2
    go_ret
    exact ⟨ret_bool e.symm, bdraw _⟩
  · have e := beq_no hz
    go_enter Try.func48, Try.ntmps48
    go_wp2
    go_quiet (fail)
    go_wp2
    go_ret
    exact ⟨ret_bool e.symm, bdraw _⟩

theorem longIdx (X8 X9 GA n capA : Nat) (A : List Int) (m : Int) (l : List Nat) (v : Value) (w : World) (h8 : w.cell? ⟨X8, 0, none⟩ = some (.slice (some ⟨GA, 0, none⟩) n capA)) (h9 : w.cell? ⟨X9, 0, none⟩ = some (.int .i64 m))
    (hc : ∀ k z, A[k]? = some z → w.cell? ⟨GA, k, none⟩ = some (.int .i64 z)) (h8l : X8 < w.heap.size) (h9l : X9 < w.heap.size) (hgl : GA < w.heap.size) (hA : A.length = n) (hn : n ≤ 100000) (hl : Nats w v l) (hll : l.length ≤ 100000) (hk : ∀ k ∈ l, k < n)
    (j k : Nat) (hj : l[j]? = some k) (hp : A.getD k 0 = m) (hno : ∀ (i y : Nat), i < j → l[i]? = some y → A.getD y 0 ≠ m) :
    Calls Try.prog 47 #[v, .func (.func 48) #[] #[.pointer (some ⟨X8, 0, none⟩), .pointer (some ⟨X9, 0, none⟩)]] w fun e w' => e = .returned (.int .i64 (j : Int)) ∧ Below w.heap.size w w' := by
  have hpr : IntPred 48 #[.pointer (some ⟨X8, 0, none⟩), .pointer (some ⟨X9, 0, none⟩)] (fun x => A.getD x.toNat 0 == m) (l.map fun k : Nat => (k : Int)) w := by
    refine ⟨fun xs W => by rfl, fun x W hx hW => ?_⟩
    obtain ⟨k', hk', rfl⟩ := List.mem_map.1 hx
    obtain ⟨z, hz⟩ : ∃ z, A[k']? = some z := ⟨_, List.getElem?_eq_getElem (by have := hk k' hk'; omega)⟩
    have := longFn_any X8 X9 GA n capA k' z m W ((hW.cell (p := ⟨X8, 0, none⟩) h8l).trans h8) ((hW.cell (p := ⟨X9, 0, none⟩) h9l).trans h9) ((hW.cell (p := ⟨GA, k', none⟩) hgl).trans (hc k' z hz)) (hk k' hk') hn
    have e : A.getD ((k' : Int)).toNat 0 = z := by rw [Int.toNat_natCast, List.getD_eq_getElem?_getD, hz]; rfl
    simp only [e]
    exact this
  refine (indexInts_any _ _ _ v _ w hl.ints (by simp; omega) hpr).mono ?_
  rintro e w' ⟨⟨i, rfl, hi⟩, hb⟩
  have := hi.is (j := j) (x := (k : Int)) (by rw [List.getElem?_map, hj]; rfl) (by rw [Int.toNat_natCast, hp]; simp) (fun q y hq hy => by
    rw [List.getElem?_map] at hy
    obtain ⟨y', hy', rfl⟩ := Option.map_eq_some_iff.1 hy
    rw [Int.toNat_natCast]
    exact beq_no (hno q y' hq hy'))
  subst this
  exact ⟨rfl, hb⟩

/-- What the loop along the path keeps: its box is made anew in each round. -/
structure LG (W7 : World) (X : Nat) (r : Int) (v : Value) (out : List Nat) (wr : World) : Prop where
  low : Below W7.heap.size W7 wr
  ge : W7.heap.size ≤ X
  box : wr.heap[X]? = some (.cells #[.int .i64 r] 3 (0, 0))
  out_ : Own wr W7.heap.size 3 natf v out
  apart : ∀ g, v.ownBlock = some g → g ≠ X
section
variable {W7 wr w3 : World} {X : Nat} {r : Int} {v v' : Value} {out out' : List Nat}
theorem LG.lt (h : LG W7 X r v out wr) : X < wr.heap.size := (Array.getElem?_eq_some_iff.1 h.box).1
theorem LG.cell (h : LG W7 X r v out wr) : wr.cell? ⟨X, 0, none⟩ = some (.int .i64 r) := by simp [World.cell?, h.box]
theorem LG.free (h : LG W7 X r v out wr) : wr.frozen? ⟨X, 0, none⟩ = false := by simp [World.frozen?, h.box]
theorem LG.set (h : LG W7 X r v out wr) (r' : Int) : LG W7 X r' v out (wr.setCell ⟨X, 0, none⟩ (.int .i64 r')) := by
  refine ⟨h.low.setCell (p := ⟨X, 0, none⟩) h.ge _, h.ge, ?_, h.out_.only (only_set wr X 0 (.int .i64 r')) (fun g hg e => ?_), h.apart⟩
  · have := heap_setCell_same wr X 0 _ _ (.int .i64 r') h.box
    simpa using this
  · injection e with e
    exact h.apart g hg e
theorem LG.below (h : LG W7 X r v out wr) (hb : Below wr.heap.size wr w3) : LG W7 X r v out w3 :=
  ⟨h.low.trans (hb.mono h.low.size), h.ge, (hb.block X h.lt).trans h.box, h.out_.below hb, h.apart⟩
theorem LG.draw (h : LG W7 X r v out wr) (q : Nat) : LG W7 X r v out (wr.drewN q) := h.below (bdraw q)
/-- Behind the append: as before, but for the list. -/
theorem LG.pushed (h : LG W7 X r v out wr) (hg : wr.grownBy w3 v.ownBlock) : Below W7.heap.size W7 w3 ∧ w3.cell? ⟨X, 0, none⟩ = some (.int .i64 r) := by
  refine ⟨below_grown h.low hg h.low.size (fun g e => (h.out_.lt g e).1), ?_⟩
  have : w3.heap[X]? = wr.heap[X]? := hg.block X h.lt (fun e => h.apart X e.symm rfl)
  simp [World.cell?, this, h.box]
/-- .. and a new box. -/
theorem LG.fresh (h1 : Below W7.heap.size W7 w3) (ho : Own w3 W7.heap.size 3 natf v' out') (r : Int) : LG W7 w3.heap.size r v' out' (w3.alloc (.cells #[.int .i64 r] 3)) := by
  refine ⟨h1.alloc h1.size _, h1.size, ?_, ho.alloc _, fun g hg e => ?_⟩
  · have := heap_alloc_new w3 (.cells #[.int .i64 r] 3)
    simpa using this
  · have := (ho.lt g hg).2
    omega
end
def LongPost (w : World) (n : Nat) (es : List (Nat × Nat)) (ws : List Int) (D : List Nat) (e : Ending) (w' : World) : Prop :=
  ∃ v, e = .returned (.tuple #[.int .i64 (longOf n es ws D).1, v, .int .i64 0]) ∧ Own w' w.heap.size 3 natf v (longOf n es ws D).2 ∧ Below w.heap.size w w'

theorem Rows.keep {w w1 : World} {v : Value} {l : List (List Nat)} (h : Rows w v l) (hs : w.heap.size ≤ w1.heap.size) (hk : ∀ p : Addr, p.block < w.heap.size → w1.cell? p = w.cell? p) : Rows w1 v l := by
  obtain ⟨ao, cap, rfl, h⟩ := h
  refine ⟨ao, cap, rfl, fun hl => ?_⟩
  obtain ⟨b, off, rfl, hlt, hc⟩ := h hl
  refine ⟨b, off, rfl, Nat.lt_of_lt_of_le hlt hs, fun k x hx => ?_⟩
  obtain ⟨u, hu, hr⟩ := hc k x hx
  exact ⟨u, (hk ⟨b, off + k, none⟩ hlt).trans hu, Sl.keep hr hs (fun b o hb _ => hk ⟨b, o, none⟩ hb)⟩

/-- There is a next node while something is left. -/
theorem long_next {n : Nat} {es : List (Nat × Nat)} {ws : List Int} {D : List Nat} (h : orderOf n es = some D) {x : Nat} (hx : x < n) {r : Int} (hr : r = (bestOf n es ws D).getD x 0 - ws.getD x 0) (h0 : 0 < r) :
    ∃ k ∈ nextsS n es x, (bestOf n es ws D).getD k 0 = r := by
  have hb := best_is (ws := ws) h hx
  unfold BestAt at hb
  have e : maxOver (bestOf n es ws D) (nextsS n es x) = r := by omega
  rcases maxOver_is (bestOf n es ws D) (nextsS n es x) with h1 | ⟨k, h1, h2⟩
  · omega
  · exact ⟨k, h1, h2.trans e⟩
theorem maxOf_mem (l : List Int) (h : 0 < l.length) : Lib.maxOf l ∈ l ∧ ∀ x ∈ l, x ≤ Lib.maxOf l := by
  have key : ∀ k, 0 < k → k ≤ l.length → Lib.maxOf (l.take k) ∈ l.take k ∧ ∀ x ∈ l.take k, x ≤ Lib.maxOf (l.take k) := by
    intro k
    induction k with
    | zero => intro h; omega
    | succ k ih =>
      intro _ hk
      by_cases h0 : k = 0
      · subst h0
        rw [Lib.maxOf_one]
        obtain ⟨a, l, rfl⟩ : ∃ a l', l = a :: l' := by cases l with
          | nil => simp at h
          | cons a l => exact ⟨a, l, rfl⟩
        simp
      · obtain ⟨i1, i2⟩ := ih (by omega) (by omega)
        rw [Lib.maxOf_step l k (by omega) (by omega), List.take_succ_eq_append_getElem (by omega), List.getD_eq_getElem?_getD, List.getElem?_eq_getElem (by omega), Option.getD_some]
        refine ⟨?_, fun x hx => ?_⟩
        · rcases Int.le_total (Lib.maxOf (l.take k)) l[k] with h1 | h1
          · rw [Int.max_eq_right h1]; exact List.mem_append.2 (.inr (List.mem_singleton.2 rfl))
          · rw [Int.max_eq_left h1]; exact List.mem_append.2 (.inl i1)
        · rcases List.mem_append.1 hx with h1 | h1
          · have := i2 x h1; omega
          · rw [List.mem_singleton.1 h1]; omega
  have := key l.length h (Nat.le_refl _)
  rwa [List.take_length] at this
/-- The first place of an element. -/
theorem idxOf_is {l : List Int} {x : Int} (h : x ∈ l) : ∃ k : Nat, idxOf l x = (k : Int) ∧ l[k]? = some x ∧ ∀ (j : Nat) y, j < k → l[j]? = some y → y ≠ x := by
  unfold idxOf
  cases hf : l.findIdx? (· == x) with
  | none =>
    rw [List.findIdx?_eq_none_iff] at hf
    have := hf x h
    simp at this
  | some i =>
    obtain ⟨hi, hx, hno⟩ := List.findIdx?_eq_some_iff_getElem.1 hf
    refine ⟨i, rfl, ?_, fun j y hj hy => ?_⟩
    · rw [List.getElem?_eq_getElem hi, show l[i] = x by simpa using hx]
    · obtain ⟨h1, rfl⟩ := List.getElem?_eq_some_iff.1 hy
      have := hno j hj
      simpa using this
end Go.Proofs.Ythhhcaleoiopgaa
