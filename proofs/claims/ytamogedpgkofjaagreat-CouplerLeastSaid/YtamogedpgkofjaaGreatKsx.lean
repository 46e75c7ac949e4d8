/-
  Base texts, shaken by wip/shake.py: Sqx Sqr Sqa Sqe.
-/
import Derived.Test.YtamogedpgkofjaaGreatKsm
import Derived.Test.YtamogedpgkofjaaGreatOpc
namespace Go.Proofs.YtamogedpgkofjaaGreat
section
section
open Go.RowKit
set_option linter.unusedVariables false
set_option linter.unusedSimpArgs false
attribute [local go_sem ↓] Go.wp_at_zero Go.wp_at_succ

theorem mem_cst {es : List (Nat × Nat)} {x y : Nat} : ((x : Int), (y : Int)) ∈ cst es ↔ (x, y) ∈ es := by
  unfold cst
  rw [List.mem_map]
  constructor
  · rintro ⟨e, he, h⟩
    obtain ⟨a, b⟩ := e
    simp only [Prod.mk.injEq] at h
    obtain ⟨h1, h2⟩ := h
    have : a = x := by omega
    have : b = y := by omega
    subst_vars
    exact he
  · intro h
    exact ⟨(x, y), h, rfl⟩
theorem pairIn_nat (es : List (Nat × Nat)) (x y : Nat) : pairIn (cst es) (x : Int) (y : Int) = decide ((x, y) ∈ es) := by
  unfold pairIn
  exact decide_eq_decide.2 mem_cst
theorem natL_get {q : List Int} (h : ∀ x ∈ q, 0 ≤ x) {k : Nat} (hk : k < q.length) : q[k]? = some (((q.map Int.toNat).getD k 0 : Nat) : Int) := by
  rw [List.getElem?_eq_getElem hk, List.getD_eq_getElem?_getD, List.getElem?_map, List.getElem?_eq_getElem hk]
  simp only [Option.map_some, Option.getD_some]
  have := h q[k] (List.getElem_mem hk)
  congr 1
  omega
theorem capsLe {ao : Option Addr} {n cap : Nat} (h : Caps (.slice ao n cap)) : n ≤ cap := by
  rcases h with h | ⟨a, len, c, h, hle⟩
  · cases h; omega
  · cases h; exact hle

theorem fst_no {es : List (Nat × Nat)} {q : List Int} {n : Nat} (h : ∀ a b, b < a → a < n → ((q.map Int.toNat).getD a 0, (q.map Int.toNat).getD b 0) ∉ es) : fstV es q n = (0, 0, 12) := by
  unfold fstV
  rw [(fstE_none n).2 h]
theorem fst_yes {es : List (Nat × Nat)} {q : List Int} {n i k : Nat} (h0 : ∀ a b, b < a → a < i → ((q.map Int.toNat).getD a 0, (q.map Int.toNat).getD b 0) ∉ es) (h1 : ∀ b, b < k → ((q.map Int.toNat).getD i 0, (q.map Int.toNat).getD b 0) ∉ es) (hk : k < i) (hi : i < n)
    (h : ((q.map Int.toNat).getD i 0, (q.map Int.toNat).getD k 0) ∈ es) : fstV es q n = ((((q.map Int.toNat).getD i 0 : Nat) : Int), (((q.map Int.toNat).getD k 0 : Nat) : Int), 0) := by
  unfold fstV
  rw [fstE_hit h0 h1 hk h n hi]
theorem fst_fn {es : List (Nat × Nat)} {q : List Int} {n : Nat} {f : Nat → Nat} (hf : ∀ k, (q.map Int.toNat).getD k 0 = f k) :
    ((∀ a b, b < a → a < n → (f a, f b) ∉ es) → fstV es q n = (0, 0, 12)) ∧ ∀ i k, (∀ a b, b < a → a < i → (f a, f b) ∉ es) → (∀ b, b < k → (f i, f b) ∉ es) → k < i → i < n → (f i, f k) ∈ es → fstV es q n = ((f i : Int), (f k : Int), 0) := by
  constructor
  · intro h
    exact fst_no (fun a b h1 h2 => by rw [hf, hf]; exact h a b h1 h2)
  · intro i k h0 h1 hk hi h
    rw [← hf i, ← hf k]
    exact fst_yes (fun a b h1 h2 => by rw [hf, hf]; exact h0 a b h1 h2) (fun b hb => by rw [hf, hf]; exact h1 b hb) hk hi (by rw [hf, hf]; exact h)
/-- The world of the loops of Layers. -/
structure LyW (w2 : World) (g n : Nat) (A : List Int) (wr : World) : Prop where
  below : Below g w2 wr
  own : Own wr g 3 intf (.slice (some ⟨g, 0, none⟩) n n) A
theorem LyW.set {w2 wr : World} {g n : Nat} {A : List Int} (h : LyW w2 g n A wr) (i : Nat) (x : Int) : LyW w2 g n (A.set i x) (wr.setCell ⟨g, i, none⟩ (.int .i64 x)) := ⟨h.below.setCell (p := ⟨g, i, none⟩) (Nat.le_refl _) _, h.own.set i x⟩
theorem LyW.after {w2 wr w' : World} {g n : Nat} {A : List Int} (h : LyW w2 g n A wr) (hb : Below wr.heap.size wr w') : LyW w2 g n A w' := ⟨h.below.trans (hb.mono (by have := (h.own.lt g rfl).2; omega)), h.own.below hb⟩
end
end
section
section
open Go.RowKit
set_option linter.unusedVariables false
set_option linter.unusedSimpArgs false
attribute [local go_sem ↓] Go.wp_at_zero Go.wp_at_succ

theorem redg39 {v vr xv : Value} {X : List Int} {l : List BarD} {rs : List RunD} {w : World} (hA : SqA w v vr l rs) (hx : Ints w xv X) (hc : sqC l rs X = 0) :
    Calls Tryz.prog 52 #[v, vr, xv] w fun e w' => ∃ ao cap, e = .returned (.slice ao (edgL (lgsOf l rs) (szsOf l rs) X (lgsOf l rs).length (lgsOf l rs).length).length cap) ∧ Dg w' (lgsOf l rs).length (.slice ao (edgL (lgsOf l rs) (szsOf l rs) X (lgsOf l rs).length (lgsOf l rs).length).length cap) (sqEs l rs X) ∧ Below w.heap.size w w' := by
  obtain ⟨hok, he⟩ := sqC_zero hc
  have h14 := hA.h14 hok
  obtain ⟨h1, h2, h3⟩ := edgE_zero he
  refine (redges_any v vr xv X l rs w hA.hp hA.hr hx hA.hl hok h2 h1 h3).mono ?_
  rintro e w' ⟨o, rfl, ho, hb⟩
  obtain ⟨ao, cap, rfl⟩ := ho.out.shape
  exact ⟨ao, cap, rfl, dg_edges ho.out h14, hb⟩
theorem rcnt39 {v vr : Value} {l : List BarD} {rs : List RunD} {w : World} (hA : SqA w v vr l rs) (hok : laidOk l rs = true) :
    Calls Tryz.prog 53 #[vr] w fun e w' => e = .returned (.int .i64 ((lgsOf l rs).length : Int)) ∧ w = w' := by
  obtain ⟨s1, s2, s3, s4, s5⟩ := laid_sum hok
  have := rcount_any vr rs w hA.hr (by omega) s4
  rw [← s1, ← lgsOf_len l rs] at this
  exact this
theorem blk_mem {L : List (List Bx)} {Z : List Int} {X : List Int} {n i k : Nat} (hi : i < n) (hk : k < n) (hne : i ≠ k) : blkAt L Z (X.getD i 0) i k = decide ((i, k) ∈ edN L Z X n) := by
  cases hb : blkAt L Z (X.getD i 0) i k with
  | true => exact (dec_yes (edN_mem.2 ⟨hi, hk, hne, hb⟩)).symm
  | false => exact (dec_no (fun h => by have := (edN_mem.1 h).2.2.2; rw [hb] at this; cases this)).symm
end
end
section
open Go.RowKit
set_option linter.unusedVariables false
set_option linter.unusedSimpArgs false
attribute [local go_sem ↓] Go.wp_at_zero Go.wp_at_succ

theorem two_lit (W : World) (a b : Int) (n : Nat) (hn : n = 2) : Ints (W.alloc (.cells #[.int .i64 a, .int .i64 b] 3)) (.slice (some ⟨W.heap.size, 0, none⟩) n n) [a, b] := sl_lit W _ [a, b] _ _ n rfl hn
theorem two_litN (W : World) (a b : Nat) (n : Nat) (hn : n = 2) : Nats (W.alloc (.cells #[.int .i64 (a : Int), .int .i64 (b : Int)] 3)) (.slice (some ⟨W.heap.size, 0, none⟩) n n) [a, b] := sl_lit W _ [a, b] _ _ n rfl hn
end
section
section
open Go.RowKit
set_option linter.unusedVariables false
set_option linter.unusedSimpArgs false
attribute [local go_sem ↓] Go.wp_at_zero Go.wp_at_succ

theorem own_cap {α : Type} {w : World} {base : Nat} {e : TypeId} {f : α → Value} {ao : Option Addr} {n cap : Nat} {l : List α} (h : Own w base e f (.slice ao n cap) l) : l.length ≤ cap := by
  rcases h.2 with ⟨h1, h2⟩ | ⟨g, cp, cur, h1, _, _, h2, _⟩
  · cases h1; omega
  · cases h1; exact h2
theorem nat_back (D : List Nat) : (D.map fun k : Nat => (k : Int)).map Int.toNat = D := by
  rw [List.map_map]
  conv => rhs; rw [← List.map_id D]
  apply List.map_congr_left
  intro x _
  simp [Function.comp]
/-- The place behind a place of a loop. -/
theorem loop_next {n : Nat} {es : List (Nat × Nat)} {L : List Nat} (h : IsLoop n es L) {i x : Nat} (hi : L[i]? = some x) : ∃ (a : Nat) (y : Nat), ((i : Int) + 1).tmod (L.length : Int) = (a : Int) ∧ ((i : Int) + 1) % (L.length : Int) = (a : Int) ∧ a < L.length ∧ L[a]? = some y ∧ (x, y) ∈ es := by
  have hil := (List.getElem?_eq_some_iff.1 hi).1
  have e2 : ((i : Int) + 1) % (L.length : Int) = (((i + 1) % L.length : Nat) : Int) := by rw [Int.natCast_emod]; simp
  have e1 : ((i : Int) + 1).tmod (L.length : Int) = (((i + 1) % L.length : Nat) : Int) := by rw [Int.tmod_eq_emod_of_nonneg (by omega), e2]
  have ha : (i + 1) % L.length < L.length := Nat.mod_lt _ (by omega)
  refine ⟨(i + 1) % L.length, L[(i + 1) % L.length]'ha, e1, e2, ha, List.getElem?_eq_getElem ha, ?_⟩
  by_cases hc : i + 1 < L.length
  · have hm : (i + 1) % L.length = i + 1 := Nat.mod_eq_of_lt hc
    exact h.edge i x _ hi (by rw [List.getElem?_eq_getElem hc]; congr 1; congr 1; exact hm.symm)
  · have hie : i + 1 = L.length := by omega
    have hm : (i + 1) % L.length = 0 := by rw [hie, Nat.mod_self]
    exact h.back _ x (by rw [List.getElem?_eq_getElem h.pos]; congr 1; congr 1; exact hm.symm) (by rw [show L.length - 1 = i by omega]; exact hi)
theorem nd_take {L : List Nat} (h : L.Nodup) {i x : Nat} (hi : L[i]? = some x) : x ∉ L.take i := by
  intro hm
  obtain ⟨j, hj, hj2⟩ := List.mem_take_iff_getElem.1 hm
  have hil := (List.getElem?_eq_some_iff.1 hi).1
  have e := (List.getElem?_eq_some_iff.1 hi).2
  have : j = i := by
    have h1 := List.Nodup.idxOf_getElem h j (by omega)
    have h2 := List.Nodup.idxOf_getElem h i hil
    rw [hj2] at h1
    rw [e] at h2
    omega
  omega
theorem Sl.ints' {w : World} {v : Value} {D : List Nat} (h : Sl w natf v D) : Ints w v (D.map fun k : Nat => (k : Int)) := Sl.map_ h (fun k : Nat => (k : Int)) (fun _ => rfl)
theorem part_nat {w : World} {B : Nat} {e : TypeId} {ao : Option Addr} {cap : Nat} {L : List Nat} (h : Own w B e natf (.slice ao L.length cap) L) (m : Nat) (hm : m ≤ L.length) :
    ∃ po pc, (∀ W, (Instr.slice 24 (.slice ao L.length cap) none (some (.int .i64 (m : Int))) none).run Tryz.prog W = .ok (.slice po m pc) W) ∧ Ints w (.slice po m pc) ((L.take m).map fun k : Nat => (k : Int)) := by
  have e1 : (L.map fun k : Nat => (k : Int)).length = L.length := by rw [List.length_map]
  have h2 : Ints w (.slice ao (L.map fun k : Nat => (k : Int)).length cap) (L.map fun k : Nat => (k : Int)) := by rw [e1]; exact h.sl.ints'
  obtain ⟨po, pc, h3, h4⟩ := part_of h2 (by rw [e1]; exact own_cap h) m (by rw [e1]; exact hm)
  rw [e1] at h3
  exact ⟨po, pc, h3, by rw [List.map_take]; exact h4⟩
end
end
end Go.Proofs.YtamogedpgkofjaaGreat
