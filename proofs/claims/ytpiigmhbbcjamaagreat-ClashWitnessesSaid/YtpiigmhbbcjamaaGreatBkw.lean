/-
  The ways of legs; all laid bars as rods; the witness. All laid bars as rods. The witness that a bar blocks another one. Whether a laid bar blocks another one; its witness. block.Blocks: whether a laid bar blocks another one, or an error. block.Witness: the nearest point on a laid bar that blocks another one, or an error.
-/
import Derived.Test.YtpiigmhbbcjamaaGreatBkb
namespace Go.Proofs.YtpiigmhbbcjamaaGreat
section
open Go.RowKit
set_option linter.unusedVariables false
set_option linter.unusedSimpArgs false
attribute [local go_sem ↓] Go.wp_at_zero Go.wp_at_succ

/-! ### rods -/
def rodCells (r : Value × Int) : List Value := [r.1, .int .i64 r.2]
theorem rod_len (r : Value × Int) : (rodCells r).length = 2 := rfl
/-- A slice of rods that reads as legs and sizes. -/
def Rods (w : World) (v : Value) (L : List (List Bx)) (Z : List Int) : Prop :=
  ∃ R : List (Value × Int), Fl 2 rodCells w v R ∧ R.length = L.length ∧ R.length = Z.length ∧ ∀ (k : Nat) r, R[k]? = some r → Bxs w r.1 (L.getD k []) ∧ r.2 = Z.getD k 0
theorem Rods.below {w w1 : World} {v : Value} {L : List (List Bx)} {Z : List Int} (h : Rods w v L Z) (hb : Below w.heap.size w w1) : Rods w1 v L Z := by
  obtain ⟨R, h1, h2, h3, h4⟩ := h
  exact ⟨R, h1.below hb, h2, h3, fun k r hr => ⟨(h4 k r hr).1.below hb, (h4 k r hr).2⟩⟩
theorem Rods.at_ {w : World} {v : Value} {L : List (List Bx)} {Z : List Int} (h : Rods w v L Z) : ∃ ao cap, v = .slice ao L.length cap := by
  obtain ⟨R, h1, h2, h3, h4⟩ := h
  obtain ⟨ao, cap, rfl⟩ := h1.at_
  exact ⟨ao, cap, by rw [h2]⟩
theorem rods_get {w : World} {ao : Option Addr} {len cap k : Nat} {L : List (List Bx)} {Z : List Int} (h : Rods w (.slice ao len cap) L Z) (hk : k < L.length) :
    ∃ b off u, ao = some ⟨b, off, none⟩ ∧ b < w.heap.size ∧ w.cell? ⟨b, off + k * 2, none⟩ = some u ∧ w.cell? ⟨b, off + k * 2 + 1, none⟩ = some (.int .i64 (Z.getD k 0)) ∧ Bxs w u (L.getD k []) := by
  obtain ⟨R, h1, h2, h3, h4⟩ := h
  obtain ⟨r, hr⟩ : ∃ y, R[k]? = some y := ⟨_, List.getElem?_eq_getElem (by omega)⟩
  obtain ⟨b, off, rfl, hlt, hc⟩ := h1.get hr
  obtain ⟨h5, h6⟩ := h4 k r hr
  refine ⟨b, off, r.1, rfl, hlt, hc 0 _ rfl, ?_, h5⟩
  rw [← h6]
  exact hc 1 _ rfl
theorem OwnN.apart {α β : Type} {w : World} {base base' : Nat} {e e' : TypeId} {n n' : Nat} {f : α → List Value} {f' : β → List Value} {v v' : Value} {l : List α} {l' : List β} (h : OwnN w base e n f v l) (h' : OwnN w base' e' n' f' v' l') (hne : e ≠ e') : ∀ g, v.ownBlock = some g → some g ≠ v'.ownBlock := by
  intro g hg he
  rcases h.2 with ⟨rfl, _⟩ | ⟨g1, cap, cur, rfl, _, hh, _⟩
  · cases hg
  · cases hg
    rcases h'.2 with ⟨rfl, _⟩ | ⟨g2, cap2, cur2, rfl, _, hh2, _⟩
    · cases he
    · cases he
      rw [hh] at hh2
      injection hh2 with hh2
      injection hh2 with _ ht
      exact hne ht
end

section
open Go.RowKit
set_option linter.unusedVariables false
set_option linter.unusedSimpArgs false
attribute [local go_sem ↓] Go.wp_at_zero Go.wp_at_succ

end

section
open Go.RowKit
set_option linter.unusedVariables false
set_option linter.unusedSimpArgs false
attribute [local go_sem ↓] Go.wp_at_zero Go.wp_at_succ

abbrev rodv (u : Value) (d : Int) : Value := .agg #[u, .int .i64 d]
abbrev pt0 : Pt := ⟨0, 0, 0⟩
end

section
open Go.RowKit
set_option linter.unusedVariables false
set_option linter.unusedSimpArgs false
attribute [local go_sem ↓] Go.wp_at_zero Go.wp_at_succ

def pairE (n i k x : Int) : Int := if i < 0 ∨ n ≤ i ∨ k < 0 ∨ n ≤ k then 2 else if axB x = false then 11 else if i = k then 10 else 0
theorem pairE_range {n i k x : Int} (h : i < 0 ∨ n ≤ i ∨ k < 0 ∨ n ≤ k) : pairE n i k x = 2 := if_pos h
theorem pairE_kind {n i k x : Int} (h : ¬ (i < 0 ∨ n ≤ i ∨ k < 0 ∨ n ≤ k)) (hx : axB x = false) : pairE n i k x = 11 := (if_neg h).trans (if_pos hx)
theorem pairE_twice {n i k x : Int} (h : ¬ (i < 0 ∨ n ≤ i ∨ k < 0 ∨ n ≤ k)) (hx : axB x = true) (hik : i = k) : pairE n i k x = 10 := (if_neg h).trans ((if_neg (by simp [hx])).trans (if_pos hik))
theorem pairE_ok {n i k x : Int} (h : ¬ (i < 0 ∨ n ≤ i ∨ k < 0 ∨ n ≤ k)) (hx : axB x = true) (hik : i ≠ k) : pairE n i k x = 0 := (if_neg h).trans ((if_neg (by simp [hx])).trans (if_neg hik))
theorem pairE_zero {n i k x : Int} (h : pairE n i k x = 0) : (0 ≤ i ∧ i < n) ∧ (0 ≤ k ∧ k < n) ∧ axB x = true ∧ i ≠ k := by
  by_cases h1 : i < 0 ∨ n ≤ i ∨ k < 0 ∨ n ≤ k
  · rw [pairE_range h1] at h; omega
  · cases hx : axB x
    · rw [pairE_kind h1 hx] at h; omega
    · by_cases h2 : i = k
      · rw [pairE_twice h1 hx h2] at h; omega
      · exact ⟨by omega, by omega, rfl, h2⟩
theorem pairE_turn (n i k x : Int) : pairE n k i (-x) = pairE n i k x := by
  have hx : axB (-x) = axB x := by unfold axB; exact decide_eq_decide.2 (by omega)
  by_cases h1 : i < 0 ∨ n ≤ i ∨ k < 0 ∨ n ≤ k
  · rw [pairE_range h1, pairE_range (by omega)]
  · have h2 : ¬ (k < 0 ∨ n ≤ k ∨ i < 0 ∨ n ≤ i) := by omega
    cases hq : axB x
    · rw [pairE_kind h1 hq, pairE_kind h2 (hx.trans hq)]
    · by_cases h3 : i = k
      · rw [pairE_twice h1 hq h3, pairE_twice h2 (hx.trans hq) h3.symm]
      · rw [pairE_ok h1 hq h3, pairE_ok h2 (hx.trans hq) fun e => h3 e.symm]

def PairPost (w : World) (L : List (List Bx)) (Z : List Int) (c : Int) (e : Ending) (w' : World) : Prop := ∃ o, e = .returned (.tuple #[o, .int .i64 c]) ∧ (c = 0 → Rods w' o L Z) ∧ Below w.heap.size w w'
end

section
open Go.RowKit
set_option linter.unusedVariables false
set_option linter.unusedSimpArgs false
attribute [local go_sem ↓] Go.wp_at_zero Go.wp_at_succ

/-- The laid bars are boxes and sizes that the walks can count with. -/
structure LzOk (L : List (List Bx)) (Z : List Int) : Prop where
  len : Z.length = L.length
  small : L.length ≤ 2000
  legs : ∀ k, k < L.length → 0 < (L.getD k []).length ∧ (L.getD k []).length ≤ 6 ∧ (L.getD k []).all bxOk = true
  size : ∀ k, k < L.length → 0 ≤ Z.getD k 0 ∧ Z.getD k 0 ≤ 10000
theorem barOk_size {b : BarD} (h : barOk b = true) : 0 ≤ b.size ∧ b.size ≤ 10000 := by
  unfold barOk headB at h
  simp only [Bool.and_eq_true, decide_eq_true_eq] at h
  have h1 := h.1.1.1.1.1.2
  unfold szB at h1
  rw [decide_eq_true_eq] at h1
  simp only [szs, List.mem_cons, List.not_mem_nil, or_false] at h1
  omega
theorem lzOk_of {l : List BarD} {rs : List RunD} (h : laidOk l rs = true) : LzOk (lgsOf l rs) (szsOf l rs) := by
  obtain ⟨s1, s2, s3, s4, s5⟩ := laid_sum h
  refine ⟨by rw [szsOf_len, lgsOf_len], by rw [lgsOf_len]; omega, fun k hk => ?_, fun k hk => ?_⟩
  · rw [lgsOf_len] at hk
    obtain ⟨q, b, hF⟩ := laid_fact h hk
    have := hF.lat
    unfold legsAt at this
    rw [this]
    exact ⟨hF.len.1, hF.len.2, hF.all⟩
  · rw [lgsOf_len] at hk
    obtain ⟨q, b, hF⟩ := laid_fact h hk
    have := hF.sat
    unfold sizeAt at this
    rw [this]
    exact barOk_size hF.ok

/-- Two rods by their places. -/
theorem rods_two {w : World} {v : Value} {L : List (List Bx)} {Z : List Int} (h : Rods w v L Z) {i k : Nat} (hi : i < L.length) (hk : k < L.length) :
    ∃ b off cap u u', v = .slice (some ⟨b, off, none⟩) L.length cap ∧ b < w.heap.size ∧ w.cell? ⟨b, off + i * 2, none⟩ = some u ∧ w.cell? ⟨b, off + i * 2 + 1, none⟩ = some (.int .i64 (Z.getD i 0)) ∧ Bxs w u (L.getD i []) ∧
      w.cell? ⟨b, off + k * 2, none⟩ = some u' ∧ w.cell? ⟨b, off + k * 2 + 1, none⟩ = some (.int .i64 (Z.getD k 0)) ∧ Bxs w u' (L.getD k []) := by
  obtain ⟨ao, cap, rfl⟩ := h.at_
  obtain ⟨b, off, u, rfl, hb, c0, c1, hu⟩ := rods_get h hi
  obtain ⟨b', off', u', e, hb', d0, d1, hu'⟩ := rods_get h hk
  cases e
  exact ⟨b, off, cap, u, u', rfl, hb, c0, c1, hu, d0, d1, hu'⟩

def blkR (L : List (List Bx)) (Z : List Int) (i k x : Int) : Bool := decide (pairE L.length i k x = 0) && blkAt L Z x i.toNat k.toNat
end

section
open Go.RowKit
set_option linter.unusedVariables false
set_option linter.unusedSimpArgs false
attribute [local go_sem ↓] Go.wp_at_zero Go.wp_at_succ

def witAt (L : List (List Bx)) (Z : List Int) (x : Int) (i k : Nat) : Option Pt := witP (L.getD i []) (L.getD k []) x ((Z.getD i 0 + Z.getD k 0) * (Z.getD i 0 + Z.getD k 0))
def witE (L : List (List Bx)) (Z : List Int) (i k x : Int) : Int := if pairE L.length i k x = 0 then (if (witAt L Z x i.toNat k.toNat).isSome then 0 else 12) else pairE L.length i k x
def witV (L : List (List Bx)) (Z : List Int) (i k x : Int) : Pt := if pairE L.length i k x = 0 then (witAt L Z x i.toNat k.toNat).getD pt0 else pt0
structure WiW (w : World) (wr : World) : Prop where
  below : Below w.heap.size w wr
  res : BlkIs wr w.heap.size 43 #[.int .i64 0, .int .i64 0, .int .i64 0]
theorem WiW.set3 {w wr : World} {g : Nat} (h : WiW w wr) (hg : w.heap.size < g) (x y z : Value) : WiW w (((wr.setCell ⟨g, 0, none⟩ x).setCell ⟨g, 1, none⟩ y).setCell ⟨g, 2, none⟩ z) :=
  ⟨((h.below.setCell (p := ⟨g, 0, none⟩) (Nat.le_of_lt hg) _).setCell (p := ⟨g, 1, none⟩) (Nat.le_of_lt hg) _).setCell (p := ⟨g, 2, none⟩) (Nat.le_of_lt hg) _, ((h.res.far (p := ⟨g, 0, none⟩) (Nat.ne_of_lt hg) _).far (p := ⟨g, 1, none⟩) (Nat.ne_of_lt hg) _).far (p := ⟨g, 2, none⟩) (Nat.ne_of_lt hg) _⟩
theorem WiW.after {w wr w' : World} (h : WiW w wr) (hb : Below wr.heap.size wr w') : WiW w w' := ⟨bstep h.below hb, h.res.below hb⟩
structure TwoW (w : World) (b a1 a2 : Nat) (u u' : Value) (zi zk : Int) (A B : List Bx) (W : World) : Prop where
  base : WiW w W
  c0 : W.cell? ⟨b, a1, none⟩ = some u
  c1 : W.cell? ⟨b, a1 + 1, none⟩ = some (.int .i64 zi)
  d0 : W.cell? ⟨b, a2, none⟩ = some u'
  d1 : W.cell? ⟨b, a2 + 1, none⟩ = some (.int .i64 zk)
  hu : Bxs W u A
  hu' : Bxs W u' B
  lt : b < W.heap.size
abbrev TwoS (b a1 a2 : Nat) (u u' : Value) (zi zk : Int) (W : World) : Prop :=
  W.cell? ⟨b, a1, none⟩ = some u ∧ W.cell? ⟨b, a1 + 1, none⟩ = some (.int .i64 zi) ∧ W.cell? ⟨b, a2, none⟩ = some u' ∧ W.cell? ⟨b, a2 + 1, none⟩ = some (.int .i64 zk)
section
variable {w W W' : World} {b a1 a2 : Nat} {u u' : Value} {zi zk : Int} {A B : List Bx}
theorem TwoW.after (h : TwoW w b a1 a2 u u' zi zk A B W) (hb : Below W.heap.size W W') : TwoW w b a1 a2 u u' zi zk A B W' :=
  ⟨h.base.after hb, (hb.cell (p := ⟨b, _, none⟩) h.lt).trans h.c0, (hb.cell (p := ⟨b, _, none⟩) h.lt).trans h.c1, (hb.cell (p := ⟨b, _, none⟩) h.lt).trans h.d0, (hb.cell (p := ⟨b, _, none⟩) h.lt).trans h.d1, h.hu.below hb, h.hu'.below hb, Nat.lt_of_lt_of_le h.lt hb.size⟩
theorem TwoW.drew (h : TwoW w b a1 a2 u u' zi zk A B W) : TwoW w b a1 a2 u u' zi zk A B W.drew := h.after (Below.refl _ _).drew
theorem TwoW.alloc (h : TwoW w b a1 a2 u u' zi zk A B W) (o : Obj) : TwoW w b a1 a2 u u' zi zk A B (W.alloc o) := h.after (below_new W o)
theorem TwoS.set3 {g : Nat} (h : TwoS b a1 a2 u u' zi zk W) (hne : b ≠ g) (x y z : Value) : TwoS b a1 a2 u u' zi zk (((W.setCell ⟨g, 0, none⟩ x).setCell ⟨g, 1, none⟩ y).setCell ⟨g, 2, none⟩ z) := by
  have k : ∀ o, (((W.setCell ⟨g, 0, none⟩ x).setCell ⟨g, 1, none⟩ y).setCell ⟨g, 2, none⟩ z).cell? ⟨b, o, none⟩ = W.cell? ⟨b, o, none⟩ := fun o => World.cell?_of_block (a := ⟨b, o, none⟩) (((heap_setCell_other _ _ _ _ (fun e => hne e)).trans (heap_setCell_other _ _ _ _ (fun e => hne e))).trans (heap_setCell_other _ _ _ _ (fun e => hne e)))
  exact ⟨(k _).trans h.1, (k _).trans h.2.1, (k _).trans h.2.2.1, (k _).trans h.2.2.2⟩
theorem TwoW.s (h : TwoW w b a1 a2 u u' zi zk A B W) : TwoS b a1 a2 u u' zi zk W := ⟨h.c0, h.c1, h.d0, h.d1⟩
end
end
end Go.Proofs.YtpiigmhbbcjamaaGreat
