/-
  Base texts, shaken by wip/shake.py: Rep NxP Alp Sqb Sqf Sqg Sqh Cpv Cpw Cpx.
-/
import Derived.Laws.BitsAllLaws
import Derived.Laws.CopyOwn
import Derived.BigRegion
import Derived.Deep.RegionLaw
import Derived.Test.YtejcgjdfajppgaaGreatDoorShelf
import Derived.Sort.OwnSortedInts
import Derived.RangeFuncNested
import Derived.RangeFuncBound
import Derived.RangeFuncCalls
import Derived.RangeFuncLeaves
import Derived.RangeFuncBox
import Derived.Shelf.Abstract
import Derived.Shelf.RegionOpen
import Derived.WalkKit
import Derived.OwnWalkIn
import Derived.TacticsInMore
import Derived.LoopNIn
import Derived.LoopIn
import Derived.Laws.MakeOwn
import Derived.Deep.RegionHeld3
import Derived.Deep.DrawnRows
import Derived.StillTailTactics
import Derived.Test.YtejcgjdfajppgaaGreatDoorKmm
import Derived.Test.YtejcgjdfajppgaaGreatDoorKqb
import Derived.Test.YtejcgjdfajppgaaGreatDoorKld
import Derived.Test.YtejcgjdfajppgaaGreatDoorKsc
namespace Go.Proofs.YtejcgjdfajppgaaGreatDoor
section
open Go.RowKit
set_option linter.unusedVariables false

theorem and_mask (n : Nat) (hn : n ≤ 4294967295) : bits .and .u64 (n : Int) 4294967295 = (n : Int) := by
  have h := u64_and_nat n 4294967295 (by omega) (by omega)
  have e : n &&& 4294967295 = n := by
    have := Nat.and_two_pow_sub_one_eq_mod n 32
    rw [show 2 ^ 32 - 1 = 4294967295 from rfl] at this
    rw [this]; exact Nat.mod_eq_of_lt (by omega)
  rw [e] at h
  exact h

def intf (x : Int) : Value := .int .i64 x
end
section
open Go.RowKit Go.Sort
set_option linter.unusedVariables false
attribute [local go_sem ↓] Go.wp_at_zero Go.wp_at_succ

def sortN (l : List Nat) : List Nat := l.mergeSort fun a b => decide (a ≤ b)
theorem sortN_perm (l : List Nat) : (sortN l).Perm l := List.mergeSort_perm _ _
theorem sortN_int (l : List Nat) : (sortN l).map (fun k : Nat => (k : Int)) = (l.map fun k : Nat => (k : Int)).mergeSort fun x y => decide (x ≤ y) := by
  unfold sortN
  refine List.map_mergeSort fun a _ b _ => ?_
  by_cases h : a ≤ b
  · rw [decide_eq_true h, decide_eq_true (by omega)]
  · rw [decide_eq_false h, decide_eq_false (by omega)]
theorem nat_rows (l : List Nat) : (l.map fun k : Nat => (k : Int)).map (Value.int .i64) = l.map natf := by
  rw [List.map_map]; rfl

theorem sort_own {w : World} {base : Nat} {v : Value} {l : List Nat} (h : Own w base 3 natf v l) (hl : l.length < 4611686018427387904) :
    Calls Tryz.prog 72 #[v] w fun e w' => e = .returned (.tuple #[]) ∧ Own w' base 3 natf v (sortN l) ∧ w.grownBy w' v.ownBlock := by
  rcases h.2 with ⟨h1, h2⟩ | ⟨g, cap, cur, rfl, hg, hb, hc, hm, hs, ht⟩
  · have : l = [] := List.length_eq_zero_iff.1 h2
    subst this
    rw [h1]
    refine (Tryz.slices_Sort_int_none none 0 w).mono ?_
    rintro e w' ⟨rfl, rfl⟩
    exact ⟨rfl, by rw [show sortN [] = [] by simp [sortN]]; exact Own.nil _ _ _ _, ⟨rfl, rfl, rfl, Nat.le_refl _, fun k _ _ => rfl⟩⟩
  · have hlen : (l.map fun k : Nat => (k : Int)).length = l.length := by simp
    have hH := holds_of_blockI (ss := l.map fun k : Nat => (k : Int)) hb (by rw [hlen, nat_rows, ← ht, Nat.mul_one])
    have := Tryz.slices_Sort_int g 0 cap (l.map fun k : Nat => (k : Int)) w hH (h.lt g rfl).2 (by rw [hlen]; exact hl)
    rw [hlen] at this
    refine this.mono ?_
    rintro e w' ⟨rfl, q, os, rfl⟩
    refine ⟨rfl, ?_, grownBy_sortedI _⟩
    have h3 := ownsRow_sortedI (n := q) (os := os) (ts := (l.map fun k : Nat => (k : Int)).mergeSort fun x y => decide (x ≤ y)) (ss := l.map fun k : Nat => (k : Int)) (List.length_mergeSort _) hg hb (by rw [hlen]; exact hc) hm hs
    rw [← sortN_int, nat_rows, hlen] at h3
    show World.ownsRow _ _ _ _ _ _ _
    rw [(sortN_perm l).length_eq, ← sortN_int]
    exact h3

theorem MatVals.put {w w1 : World} {base G n cap : Nat} {vals : List Value} {rows : List (List Nat)} (h : MatVals w base (.slice (some ⟨G, 0, none⟩) n cap) vals rows) {k : Nat} {v v1 : Value} {r r1 : List Nat} (hv : vals[k]? = some v) (hr : rows[k]? = some r)
    (hown : Own w1 base 3 natf v1 r1) (hg : w.grownBy w1 v.ownBlock) (hat : v1.ownBlock = v.ownBlock) :
    MatVals (w1.setCell ⟨G, k, none⟩ v1) base (.slice (some ⟨G, 0, none⟩) n cap) (vals.set k v1) (rows.set k r1) := by
  obtain ⟨h1, h2, h3, h4⟩ := h
  have hvr := h3 k v r hv hr
  have hk : k < vals.length := (List.getElem?_eq_some_iff.1 hv).1
  have o2 : Own w1 base 23 rowf (.slice (some ⟨G, 0, none⟩) n cap) vals := h2.only hg (h2.apart hvr (by decide))
  have o3 := o2.set k v1
  have hset : w1.grownBy (w1.setCell ⟨G, k, none⟩ v1) (some G) := only_set w1 G k v1
  have kept : ∀ (u : Value) (s : List Nat), Own w1 base 3 natf u s → Own (w1.setCell ⟨G, k, none⟩ v1) base 3 natf u s :=
    fun u s hu => hu.only hset (hu.apart o2 (by decide))
  have old : ∀ (j : Nat) u, j ≠ k → vals[j]? = some u → ∀ g, u.ownBlock = some g → some g ≠ v.ownBlock := by
    intro j u hj hu g hgu he
    exact h4 j k u v g hj hu hv hgu he.symm
  refine ⟨by simp [h1], o3, fun j u s hu hs => ?_, fun i j vi vj g hij hi hj hgi => ?_⟩
  · by_cases hj : k = j
    · subst hj
      rw [List.getElem?_set_self hk] at hu
      cases hu
      rw [List.getElem?_set_self (by omega)] at hs
      cases hs
      exact kept _ _ hown
    · rw [List.getElem?_set_ne hj] at hu hs
      exact kept _ _ ((h3 j u s hu hs).only hg (old j u (fun e => hj e.symm) hu))
  · by_cases hi' : k = i
    · subst hi'
      rw [List.getElem?_set_self hk] at hi
      cases hi
      rw [List.getElem?_set_ne hij] at hj
      intro hgj
      exact old j vj (fun e => hij e.symm) hj g hgj (by rw [← hat, hgi])
    · rw [List.getElem?_set_ne hi'] at hi
      by_cases hj' : k = j
      · subst hj'
        rw [List.getElem?_set_self hk] at hj
        cases hj
        intro hgj
        exact old i vi (fun e => hi' e.symm) hi g hgi (by rw [← hat, hgj])
      · rw [List.getElem?_set_ne hj'] at hj
        exact h4 i j vi vj g hij hi hj hgi
end
section
section
open Go.RowKit Go.Shelf
set_option linter.unusedVariables false
attribute [local go_sem] Oper.semAt_some

end

section
open Go.RowKit
set_option linter.unusedVariables false
set_option linter.unusedSimpArgs false

end

section
open Go.RowKit Go.Shelf
set_option linter.unusedVariables false
set_option linter.unusedSimpArgs false
attribute [local go_sem ↓] Go.wp_at_zero Go.wp_at_succ
attribute [local go_sem] Oper.semAt_some

structure Kc (W W' : World) : Prop where
  size : W.heap.size ≤ W'.heap.size
  cell : ∀ p u, W.cell? p = some u → W'.cell? p = some u
theorem Kc.refl (W : World) : Kc W W := ⟨Nat.le_refl _, fun _ _ h => h⟩
theorem Kc.trans {A B C : World} (h : Kc A B) (k : Kc B C) : Kc A C := ⟨Nat.le_trans h.size k.size, fun p u e => k.cell p u (h.cell p u e)⟩
theorem Kc.below {A B : World} (h : Below A.heap.size A B) : Kc A B := ⟨h.size, fun p u e => (h.cell (block_lt_of_cell e)).trans e⟩
theorem Kc.put (W : World) (l : Nat) (o o' : Obj) (hl : W.heap[l]? = some o) (ho : o.isCells = false) : Kc W (W.putObj l o') := by
  have hg := grownBy_putObj' W l o'
  refine ⟨hg.size, fun p u e => ?_⟩
  have hb := block_lt_of_cell e
  refine (World.cell?_of_block (hg.block p.block hb (fun e1 => ?_))).trans e
  have e2 : p.block = l := by injection e1
  unfold World.cell? at e
  rw [e2, hl] at e
  cases o <;> simp_all [Obj.isCells]
end

section
open Go.RowKit Go.Shelf
set_option linter.unusedVariables false
set_option linter.unusedSimpArgs false
attribute [local go_sem ↓] Go.wp_at_zero Go.wp_at_succ
attribute [local go_sem] Oper.semAt_some

end

section
open Go.RowKit Go.Shelf
set_option linter.unusedVariables false
set_option linter.unusedSimpArgs false
attribute [local go_sem] Oper.semAt_some

/-- A function whose body holds a range over a function, opened for the plain walk. -/
theorem calls_marks {P : Program} {f : FuncId} {fn : Func} {c : Code} {args : Array Value} {w : World} {R : Ending → World → Prop}
    (hf : P.funcs[f]? = some fn) (hb : fn.body = some c)
    (h : c.wp P (bodyPostM Fence.wide 5 P fn R) { tmps := args ++ Array.replicate (fn.ntmps - args.size) undef, defers := [] } w) : Calls P f args w R :=
  callsIn_wide.1 (callsIn_of_wp_marks hf hb trivial (wpIn_wide.2 h) rfl)
theorem blk_own {W W' : World} {row : Option Nat} {g : Nat} {t : TypeId} {cs : Array Value} (h : BlkIs W g t cs) (hg : W.grownBy W' row) (hr : ∀ r, row = some r → ∃ o : Obj, W.heap[r]? = some o ∧ o.isCells = false) : BlkIs W' g t cs :=
  (hg.block g h.lt (fun e => by
    obtain ⟨o, ho, hc⟩ := hr g e.symm
    have h' : W.heap[g]? = _ := h
    rw [h'] at ho; cases ho; cases hc)).trans h
theorem below_put {w W : World} {D : Nat} {o : Obj} (h : Below w.heap.size w W) (hD : w.heap.size ≤ D) : Below w.heap.size w (W.putObj D o) := h.grown (grownBy_putObj' W D o) h.size (fun g e => by cases e; exact hD)
end
end
section
open Go.RowKit Go.Shelf
set_option linter.unusedVariables false
attribute [local go_sem] Oper.semAt_some

/-- Two blocks lie as they lay: the iterator's box, the slice's cells. -/
def Kp2 (Bs b : Nat) (W W' : World) : Prop := W'.heap[Bs]? = W.heap[Bs]? ∧ W'.heap[b]? = W.heap[b]?
theorem Kp2.t {Bs b : Nat} {A B C : World} (h : Kp2 Bs b A B) (k : Kp2 Bs b B C) : Kp2 Bs b A C := ⟨k.1.trans h.1, k.2.trans h.2⟩
theorem Kp2.b_ {Bs b N : Nat} (h1 : Bs < N) (h2 : b < N) (W : World) (l : Nat) (o o' : Obj) (hl : N ≤ l) : Kp2 Bs b W (W.putObj l o') :=
  ⟨World.putObj_heap_other (by omega), World.putObj_heap_other (by omega)⟩
end
section
open Go.RowKit
set_option linter.unusedVariables false
set_option linter.unusedSimpArgs false

def ntI (l : List Nat) : List Int := l.map fun k : Nat => (k : Int)
structure FrS where
  left : List Nat
  ord : List Nat
  ax : List Int
end
section
section
open Go.RowKit Go.Shelf
set_option linter.unusedVariables false
set_option linter.unusedSimpArgs false

theorem natf_map (l : List Nat) : (ntI l).map (fun x : Int => Value.int .i64 x) = l.map natf := by unfold ntI; rw [List.map_map]; rfl
theorem ntI_len (l : List Nat) : (ntI l).length = l.length := by simp [ntI]
def marks (Ds : List Nat) : List Deferred := Ds.map fun D => { target := .collected D, args := #[] }
def MarksOk (B : Nat) (Ds : List Nat) (W : World) : Prop := Ds.Nodup ∧ ∀ D ∈ Ds, B ≤ D ∧ W.heap[D]? = some (.deferred (some []))
theorem MarksOk.nil (B : Nat) (W : World) : MarksOk B [] W := ⟨List.nodup_nil, fun D h => by simp at h⟩
theorem MarksOk.cons {B : Nat} {Ds : List Nat} {W : World} {D : Nat} (h : MarksOk B Ds W) (hB : B ≤ D) (hD : W.heap[D]? = some (.deferred (some []))) (hn : D ∉ Ds) : MarksOk B (D :: Ds) W :=
  ⟨List.nodup_cons.2 ⟨hn, h.1⟩, fun E hE => by
    rcases List.mem_cons.1 hE with rfl | h2
    · exact ⟨hB, hD⟩
    · exact h.2 E h2⟩
theorem MarksOk.grown {B : Nat} {Ds : List Nat} {W W' : World} {r : Option Nat} (h : MarksOk B Ds W) (hg : W.grownBy W' r) (hr : ∀ g, r = some g → ∃ o : Obj, W.heap[g]? = some o ∧ o.isCells = true) : MarksOk B Ds W' :=
  ⟨h.1, fun D hD => ⟨(h.2 D hD).1, by
    have h1 := (h.2 D hD).2
    refine (hg.block D (Array.getElem?_eq_some_iff.1 h1).1 (fun e => ?_)).trans h1
    obtain ⟨o, ho, hc⟩ := hr D e.symm
    rw [h1] at ho; cases ho; cases hc⟩⟩
theorem MarksOk.below {B : Nat} {Ds : List Nat} {W W' : World} (h : MarksOk B Ds W) (hb : Below W.heap.size W W') : MarksOk B Ds W' :=
  ⟨h.1, fun D hD => ⟨(h.2 D hD).1, (hb.block D (Array.getElem?_eq_some_iff.1 (h.2 D hD).2).1).trans (h.2 D hD).2⟩⟩
theorem MarksOk.lt {B : Nat} {Ds : List Nat} {W : World} (h : MarksOk B Ds W) {D : Nat} (hD : D ∈ Ds) : D < W.heap.size := (Array.getElem?_eq_some_iff.1 (h.2 D hD).2).1
theorem leaves_many {P : Program} {fn : Func} {R : Ending → World → Prop} {tmps : Array Value} {B : Nat} {Φ : World → Prop}
    (hΦ : ∀ W D, B ≤ D → Φ W → W.heap[D]? = some (.deferred (some [])) → Φ (W.putObj D (.deferred none)))
    (hR : ∀ W, Φ W → ∃ v, (results fn tmps).run P W = .ok v W ∧ R (.returned v) W) :
    ∀ (Ds : List Nat) (W : World), MarksOk B Ds W → Φ W → LeavesInM Fence.wide 5 P fn tmps R (marks Ds) .returning W
  | [], W, _, h => hR W h
  | D :: Ds, W, hm, h => by
    obtain ⟨h1, h2⟩ := List.nodup_cons.1 hm.1
    obtain ⟨hB, hD⟩ := hm.2 D List.mem_cons_self
    refine ⟨by simp, .inl ⟨D, _, rfl, run_takeDeferred hD, ?_⟩⟩
    refine leaves_many hΦ hR Ds _ ⟨h2, fun E hE => ⟨(hm.2 E (List.mem_cons_of_mem _ hE)).1, ?_⟩⟩ (hΦ W D hB h hD)
    exact (World.putObj_heap_other (by rintro rfl; exact h1 hE)).trans (hm.2 E (List.mem_cons_of_mem _ hE)).2
theorem marks_end {P : Program} {fn : Func} {R : Ending → World → Prop} {a : Act} {W : World} {Ds : List Nat} (B : Nat) (Φ : World → Prop) (hd : a.defers = marks Ds) (hm : MarksOk B Ds W) (h : Φ W)
    (hΦ : ∀ W D, B ≤ D → Φ W → W.heap[D]? = some (.deferred (some [])) → Φ (W.putObj D (.deferred none)))
    (hR : ∀ W, Φ W → ∃ v, (results fn a.tmps).run P W = .ok v W ∧ R (.returned v) W) : bodyPostM Fence.wide 5 P fn R .ret a W := by
  show LeavesInM Fence.wide 5 P fn a.tmps R a.defers .returning W
  rw [hd]
  exact leaves_many hΦ hR Ds W hm h
theorem own_own {α : Type} {W W' : World} {row : Option Nat} {B : Nat} {e : TypeId} {f : α → Value} {v : Value} {l : List α} (h : Own W B e f v l) (hg : W.grownBy W' row) (hr : ∀ r, row = some r → ∃ o : Obj, W.heap[r]? = some o ∧ o.isCells = false) : Own W' B e f v l := by
  refine h.only hg (fun g hgv e => ?_)
  obtain ⟨o, ho, hc⟩ := hr g e.symm
  rcases h.2 with ⟨h', _⟩ | ⟨g', cap', cur, h', hb, hh, _⟩
  · rw [h'] at hgv; cases hgv
  · rw [h'] at hgv; cases hgv
    rw [hh] at ho; cases ho; cases hc
/-- The three cells of the results. -/
structure FrO (w : World) (X : Nat) (o a : Value) (er : Int) (W : World) : Prop where
  below : Below w.heap.size w W
  b4 : BlkIs W (X + 2) 23 #[o]
  b5 : BlkIs W (X + 3) 23 #[a]
  b6 : BlkIs W (X + 4) 29 #[.int .i64 er]
theorem FrO.put {w W : World} {X D : Nat} {o a : Value} {er : Int} (h : FrO w X o a er W) (hB : w.heap.size ≤ D) (hD : W.heap[D]? = some (.deferred (some []))) : FrO w X o a er (W.putObj D (.deferred none)) := by
  have hr : ∀ r, some D = some r → ∃ o : Obj, W.heap[r]? = some o ∧ o.isCells = false := fun r e => by cases e; exact ⟨_, hD, rfl⟩
  have hg := grownBy_putObj' W D (Obj.deferred none)
  exact ⟨below_put h.below hB, blk_own h.b4 hg hr, blk_own h.b5 hg hr, blk_own h.b6 hg hr⟩
end
section
open Go.RowKit Go.Shelf
set_option linter.unusedVariables false
set_option linter.unusedSimpArgs false
attribute [local go_sem ↓] Go.wp_at_zero Go.wp_at_succ
attribute [local go_sem] Oper.semAt_some
end
end
section
section
open Go.RowKit Go.Shelf
set_option linter.unusedVariables false
set_option linter.unusedSimpArgs false

theorem FrO.keep {w W W' : World} {X : Nat} {o a : Value} {er : Int} (h : FrO w X o a er W) (hb : Below W.heap.size W W') : FrO w X o a er W' :=
  ⟨bstep h.below hb, h.b4.below hb, h.b5.below hb, h.b6.below hb⟩
/-- A write into a row of cells behind the boxes. -/
theorem FrO.grown {w W W' : World} {X : Nat} {o a : Value} {er : Int} {r : Option Nat} (h : FrO w X o a er W) (hX : w.heap.size ≤ X) (hg : W.grownBy W' r) (hr : ∀ g, r = some g → X + 5 ≤ g) : FrO w X o a er W' := by
  refine ⟨h.below.grown hg h.below.size (fun g e => by have := hr g e; omega), h.b4.else_ hg ?_, h.b5.else_ hg ?_, h.b6.else_ hg ?_⟩
  all_goals (intro e; have := hr _ e.symm; omega)
theorem ntq {a b : Nat} (h : a ≠ b) : some a ≠ some b := fun e => h (Option.some.inj e)
theorem wpListIn_pushO {α : Type} {F : Fence} {nF : Nat} {P : Program} (w0 : World) (N : Nat) (hN : w0.heap.size = N) {ops : Array Oper} {rest : List Oper} {o : Oper} {a : Act} {Q : Exit → Act → World → Prop} (hgd : o.guard = none) (s x : Operand) (t : TypeId)
    (ho : o.op = .call { callee := .builtin .append, args := #[s, x], argTypes := #[t, t] })
    (e bytes : Nat) (he : Elem P t e bytes) (base : Nat) (f : α → Value) (v : Value) (l : List α) (y : α) (h1 : (f y).oneCell' = true)
    (hown : Own w0 base e f v l) (hs : a.eval s = v) (hx : a.eval x = .slice (some ⟨N, 0, none⟩) 1 1)
    (h63 : l.length + 1 ≤ 1099511627776) (hby : bytes ≤ 64) (hbase : base ≤ N)
    (hK : ∀ v' w', Own w' base e f v' (l ++ [y]) → w0.grownBy w' v.ownBlock → wpListIn F nF P ops Q rest (a.put o.dst v') w') :
    wpListIn F nF P ops Q (o :: rest) a (w0.alloc (.cells #[f y] e)) := by
  subst hN
  obtain ⟨ht, i, z, hi, hz, hsz, hb, hzs⟩ := he
  have hown1 : (w0.alloc (.cells #[f y] e)).ownsRow base e 1 v l.length (l.map f) := World.ownsRow.alloc hown _
  refine wpListIn_append_own (w0.alloc (.cells #[f y] e)) hgd s x t ho base e i z 1 bytes ht hi hz hsz hb hzs (by omega) v l.length (l.map f) hs hown1 ⟨w0.heap.size, 0, none⟩ 1 1 [f y] hx rfl (by
      intro j u hj
      match j, hj with
      | 0, hj =>
        cases hj
        rw [Addr.add_lit, World.cell?_alloc_at _ _ _ _ rfl]; rfl) (by
      intro u hu
      rw [List.mem_singleton.1 hu]; exact h1) (by unfold maxLen; omega) (by
      have : (l.length + 1) * bytes ≤ 1099511627776 * 64 := Nat.mul_le_mul h63 hby
      omega) (by simp; omega) ?_
  intro v' w' h2 h3 _
  refine hK v' w' ?_ (only_next (World.grownBy_alloc w0 _ v.ownBlock) h3 (.inl rfl))
  unfold Own
  rw [List.length_append, List.map_append]
  exact h2
end

section
open Go.RowKit Go.Shelf
set_option linter.unusedVariables false
set_option linter.unusedSimpArgs false
attribute [local go_sem ↓] Go.wp_at_zero Go.wp_at_succ
attribute [local go_sem] Oper.semAt_some
end
end
section
section
open Go.RowKit Go.Shelf
set_option linter.unusedVariables false
attribute [local go_sem] Oper.semAt_some

def encI1 (x : Int) : Array Value := #[.int .i64 x]
set_option maxRecDepth 100000 in
set_option maxHeartbeats 2000000 in
theorem vl1_in (F : Fence) (n : Nat) (h8 : F.fn 73) (hro : F.round = none) (hn : 1 ≤ n) (l Bs b off len cap : Nat) (ao : Option Addr) (hao : 0 < len → ao = some ⟨b, off, none⟩) (zs : List Int) (hlen : zs.length = len) (hreach : len * 8 ≤ 140737488351232) (J Jx : List Int → World → Prop)
    (hY : ∀ pre x W, J pre W → pre.length < len → YieldAt F (n - 1) Tryz.prog l (encI1 x) W fun e W' =>
      (e = .returned (.bool true) ∧ J (pre ++ [x]) W' ∧ Kp2 Bs b W W') ∨ (e = .returned (.bool false) ∧ Jx (pre ++ [x]) W'))
    (W : World) (hBs : W.cell? ⟨Bs, 0, none⟩ = some (.slice ao len cap)) (hc : ∀ j, j < len → W.cell? ⟨b, off + j, none⟩ = some (.int .i64 (zs.getD j 0))) (h0 : J [] W) :
    CallsIn F n Tryz.prog 73 #[.func (.yield l) #[] #[], .pointer (some ⟨Bs, 0, none⟩)] W fun e W' => (∃ v, e = .returned v) ∧
      ((∃ ys, ys = zs ∧ J ys W') ∨ (∃ pre, (∃ k, k ≤ len ∧ pre = zs.take k) ∧ Jx pre W')) := by
  refine callsIn_of_wp Tryz.func73 rfl h8 ?_ hro
  simp only [Tryz.ntmps73, List.size_toArray, List.length_cons, List.length_nil, Nat.reduceAdd, Nat.reduceSub, Array.replicate_succ, Array.replicate_zero, List.push_toArray, List.append_toArray, List.nil_append, List.cons_append]
  have HZ := Lib.hid hlen
  have HAO := Lib.hid hao
  clear hlen hao
  gi_wp2
  gi_loopw [7] (fun i wr => ∃ k : Nat, k ≤ len ∧ i = .int .i64 (k : Int) ∧ J (zs.take k) wr ∧ Kp2 Bs b W wr)
    (fun i _ => len - (intOf i).toNat)
  case atStart => exact ⟨0, Nat.zero_le _, rfl, h0, rfl, rfl⟩
  case round =>
    obtain ⟨k, hk, rfl, hJs, hnx⟩ := hrel
    by_cases hlt : k < len
    · obtain rfl := HAO.out (by omega)
      have hcx : wr.cell? ⟨b, off + k, none⟩ = some (.int .i64 (zs.getD k 0)) := (World.cell?_of_block (a := ⟨b, off + k, none⟩) hnx.2).trans (hc k hlt)
      obtain ⟨x, hx⟩ : ∃ x, zs.getD k 0 = x := ⟨_, rfl⟩
      have HX := Lib.hid (show zs.take (k + 1) = zs.take k ++ [x] by
        rw [List.take_succ_eq_append_getElem (by have := HZ.out; omega), ← hx, List.getD_eq_getElem?_getD, List.getElem?_eq_getElem (by have := HZ.out; omega)]; rfl)
      rw [hx] at hcx
      obtain ⟨fn, tmps, assign, body, hy, hR⟩ := hY _ x wr hJs (by rw [List.length_take]; have := HZ.out; omega)
      unfold encI1 at hy
      have q0 : (0 : Int) ≤ (k : Int) := Int.natCast_nonneg _
      have q1 : (k : Int) < (len : Int) := by omega
      clear hx
      gi_wp2
      refine hR.mono ?_
      rintro e W3 (⟨rfl, hJ3, hk3⟩ | ⟨rfl, hJx3⟩)
      · gi_wp2
        go_roundw
        case rel => exact ⟨k + 1, by omega, by go_num, by rw [HX.out]; exact hJ3, hnx.t hk3⟩
        case measure => simp [intOf] <;> omega
      · gi_wp2
        refine bodyPost_ret (results_none rfl _ _ _) rfl ?_
        exact ⟨⟨_, rfl⟩, .inr ⟨_, ⟨k + 1, by omega, HX.out.symm⟩, hJx3⟩⟩
    · obtain rfl : k = len := by omega
      gi_wp2
      go_end0
      rw [List.take_of_length_le (by have := HZ.out; omega)] at hJs
      exact ⟨⟨_, rfl⟩, .inl ⟨_, rfl, hJs⟩⟩
theorem vl_stops (F : Fence) (n : Nat) (h8 : F.fn 73) (hro : F.round = none) (hn : 1 ≤ n) (Bs b off len cap : Nat) (ao : Option Addr) (hao : 0 < len → ao = some ⟨b, off, none⟩) (zs : List Int) (hlen : zs.length = len) (hreach : len * 8 ≤ 140737488351232) (w : World) (hBs : Bs < w.heap.size) (hb : b < w.heap.size)
    (hc : w.cell? ⟨Bs, 0, none⟩ = some (.slice ao len cap)) (hI : ∀ j, j < len → w.cell? ⟨b, off + j, none⟩ = some (.int .i64 (zs.getD j 0))) :
    SeqStopsK F n Tryz.prog 73 #[.pointer (some ⟨Bs, 0, none⟩)] encI1 (Kp2 Bs b) (fun ys => ys = zs) (fun pre => ∃ k, k ≤ len ∧ pre = zs.take k) len w := fun l J Jx W hW _ _ hY h0 =>
  vl1_in F n h8 hro hn l Bs b off len cap ao hao zs hlen hreach J Jx hY W ((hW.cell (p := ⟨Bs, 0, none⟩) hBs).trans hc) (fun j hj => (hW.cell (p := ⟨b, off + j, none⟩) hb).trans (hI j hj)) h0
structure ApI (W6 : World) (N : Nat) (v : Value) (l : List Int) (W : World) : Prop where
  base : W6.grownBy W (some N)
  box : BlkIs W N 23 #[v]
  own : Own W (N + 1) 3 intf v l
theorem ApI.push {W6 W W' : World} {N : Nat} {v v' : Value} {l l' : List Int} (h : ApI W6 N v l W) (hN : W6.heap.size = N + 1) (hg : W.grownBy W' v.ownBlock) (ho : Own W' (N + 1) 3 intf v' l') : ApI W6 N v' l' (W'.setCell ⟨N, 0, none⟩ v') := by
  have hr : ∀ g, v.ownBlock = some g → N + 1 ≤ g := fun g e => (h.own.lt g e).1
  refine ⟨?_, (h.box.else_ hg (fun e => by have := hr _ e.symm; omega)).set 0 v', ho.only (only_set W' N 0 v') (fun g e e2 => by cases e2; have := (ho.lt _ e).1; omega)⟩
  exact only_trans (only_next h.base hg (.inr fun g e => by have := hr g e; omega)) (only_set W' N 0 v')
end
end
section
section
open Go.RowKit Go.Shelf
set_option linter.unusedVariables false
set_option linter.unusedSimpArgs false
attribute [local go_sem ↓] Go.wp_at_zero Go.wp_at_succ
attribute [local go_sem] Oper.semAt_some

theorem keeps_cells {B : Nat} {W W' : World} {row : Option Nat} (hg : W.grownBy W' row) (hr : ∀ g, row = some g → ∃ o : Obj, W.heap[g]? = some o ∧ o.isCells = true) : KeepsFrom B W W' :=
  ⟨hg.size, fun k o _ hk ho => (hg.block k (Array.getElem?_eq_some_iff.1 hk).1 (fun e => by
    obtain ⟨o', h1, h2⟩ := hr k e.symm
    rw [hk] at h1; cases h1
    rw [ho] at h2; cases h2)).trans hk⟩
theorem own_is_cells {α : Type} {W : World} {B : Nat} {e : TypeId} {f : α → Value} {v : Value} {l : List α} (h : Own W B e f v l) : ∀ g, v.ownBlock = some g → ∃ o : Obj, W.heap[g]? = some o ∧ o.isCells = true := fun g e => by
  rcases h.2 with ⟨h1, _⟩ | ⟨g', cap', cur, h1, _, hh, _⟩
  · rw [h1] at e; cases e
  · rw [h1] at e; cases e; exact ⟨_, hh, rfl⟩
set_option maxRecDepth 100000 in
set_option maxHeartbeats 4000000 in
theorem apseq_any (Bs b off len cap : Nat) (ao : Option Addr) (hao : 0 < len → ao = some ⟨b, off, none⟩) (zs : List Int) (w : World) (hlen : zs.length = len) (hl : len ≤ 1000) (hBs : Bs < w.heap.size) (hb : b < w.heap.size) (hc : w.cell? ⟨Bs, 0, none⟩ = some (.slice ao len cap)) (hI : ∀ j, j < len → w.cell? ⟨b, off + j, none⟩ = some (.int .i64 (zs.getD j 0))) :
    Calls Tryz.prog 90 #[.slice none 0 0, .func (.func 73) #[] #[.pointer (some ⟨Bs, 0, none⟩)]] w fun e w' => ∃ v, e = .returned v ∧ Own w' w.heap.size 3 intf v zs ∧ Below w.heap.size w w' := by
  refine calls_marks Tryz.func90 rfl ?_
  simp only [Tryz.ntmps90, List.size_toArray, List.length_cons, List.length_nil, Nat.reduceAdd, Nat.reduceSub, Array.replicate_succ, Array.replicate_zero, List.push_toArray, List.append_toArray, List.nil_append, List.cons_append]
  have hbl := below_new w (.cells #[.slice none 0 0] 23)
  have hst := vl_stops Fence.wide 4 trivial rfl (by decide) Bs b off len cap ao hao zs hlen (by omega) (w.alloc (.cells #[.slice none 0 0] 23)) (by simp; omega) (by simp; omega) ((hbl.cell (p := ⟨Bs, 0, none⟩) hBs).trans hc) (fun j hj => (hbl.cell (p := ⟨b, off + j, none⟩) hb).trans (hI j hj))
  have HZ := Lib.hid hlen
  clear hlen hc hI
  obtain ⟨W6, hW6⟩ : ∃ W6, w.alloc (.cells #[.slice none 0 0] 23) = W6 := ⟨_, rfl⟩
  have HW6 : Hid (Below w.heap.size w W6 ∧ W6.heap.size = w.heap.size + 1 ∧ BlkIs W6 w.heap.size 23 #[.slice none 0 0]) := by
    rw [← hW6]
    exact ⟨hbl, by simp, BlkIs.new _ _ _⟩
  rw [hW6] at hst
  clear hbl
  go_wp2_with fail
  (try rw [hW6])
  clear hW6
  obtain ⟨N, hN⟩ : ∃ N, w.heap.size = N := ⟨_, rfl⟩
  rw [hN] at HW6
  have HNN := Lib.hid hN
  (try rw [hN])
  clear hN
  have h61 := HW6.out.2.1
  have hwN := HNN.out
  refine (wpIn_wide (n := 5)).1 ?_
  refine wpIn_rangeFunc_ownG (F := Fence.wide) (n := 5) rfl (by decide) (gf := 73) (lb := #[.pointer (some ⟨Bs, 0, none⟩)]) rfl trivial (enters_of Tryz.func73 (by kernel_rfl) rfl)
    hst (fun h k => h.t k) (fun V l' o o' hl _ _ _ => Kp2.b_ (N := W6.heap.size) (by omega) (by omega) V l' o o' hl) (Below.refl _ _) (fun _ => rfl)
    (fun pre V => ∃ v, ApI W6 N v pre V) (fun _ _ _ => False)
    ?hI (fun _ _ _ _ _ hs _ _ => hs) ⟨_, only_refl _ _, HW6.out.2.2, Own.nil _ _ _ _⟩ ?a1 ?assign ?body ?done ?stop
  case hI =>
    rintro pre V V' row ⟨v, h1, h2, h3⟩ hg hr
    have hr' : ∀ r, row = some r → ∃ o : Obj, V.heap[r]? = some o ∧ o.isCells = false := fun r e => (hr r e).2
    exact ⟨v, only_next h1 hg (.inr fun g e => (hr g e).1), blk_own h2 hg hr', own_own h3 hg hr'⟩
  case assign =>
    intro l x V K hK
    gi_wp2
    exact hK
  case stop =>
    rintro D c pre V _ _ h _
    exact h.elim
  case body =>
    rintro l' pre x V ⟨v, hA⟩ hpl
    obtain ⟨vo, vc, rfl⟩ := hA.own.shape
    have HA := Lib.hid hA
    have c0 := hA.box.cell 0
    have f0 := hA.box.free 0
    have l0 := hA.box.lt
    have HO := Lib.hid hA.own
    have hln : pre.length + 1 ≤ 1099511627776 := by omega
    have hb0 : N + 1 ≤ V.heap.size := by omega
    clear hA
    unfold encI1
    gi_wp2_with (gi_at_builtin; refine wpListIn_pushO V V.heap.size rfl rfl _ _ 23 rfl 3 8 elemInt (N + 1) intf _ _ x rfl HO.out rfl rfl hln (by omega) hb0 ?_; intro v' w' hown' hg'; have HW9 := Lib.hid hown'; have HG9 := Lib.hid hg'; obtain ⟨po, pc, rfl⟩ := hown'.shape; have hne := (fun e : some N = _ => (by have h1 := (HO.out.lt _ e.symm).1; omega : False)); have p9 := (HA.out.box.else_ hg' hne).cell 0; have q9 := (HA.out.box.else_ hg' hne).free 0; have r9 := (HA.out.box.else_ hg' hne).lt; clear hown' hg')
    have hp := HW9.out
    have hsz : w'.heap.size ≥ V.heap.size := HG9.out.size
    have hc1 : ∀ g, (Value.slice vo pre.length vc).ownBlock = some g → N + 1 ≤ g := fun g e => (HO.out.lt g e).1
    rw [List.length_append] at hp
    have hbx := HA.out.box.else_ HG9.out hne
    refine ⟨(keeps_cells HG9.out (own_is_cells HO.out)).trans (keeps_cells (only_set w' N 0 _) (fun g e => by cases e; exact ⟨_, hbx, rfl⟩)), ?_, _, HA.out.push h61 HG9.out hp⟩
    have hk : ∀ k, k < N → ((w'.setCell ⟨N, 0, none⟩ (.slice po (pre.length + 1) pc)).heap[k]? = V.heap[k]?) := fun k hk => (heap_setCell_other _ _ _ _ (by show k ≠ N; omega)).trans (HG9.out.block k (by omega) (fun e => by have := hc1 _ e.symm; omega))
    exact ⟨hk Bs (by omega), hk b (by omega)⟩
  case done =>
    rintro D ys V hD rfl ⟨v, hA⟩ hK
    obtain ⟨vo, vc, rfl⟩ := hA.own.shape
    have c0 := hA.box.cell 0
    have l0 := hA.box.lt
    have HA := Lib.hid hA
    have HK := Lib.hid hK
    clear hA hK
    go_wp2
    refine marks_end (Ds := [D]) N (fun V => Below w.heap.size w V ∧ Own V (N + 1) 3 intf (.slice vo ys.length vc) ys) rfl ⟨by simp, fun E hE => by rw [List.mem_singleton.1 hE]; exact ⟨by omega, HK.out⟩⟩ ⟨?_, HA.out.own⟩ ?_ ?_
    · rw [hwN]
      exact HW6.out.1.grown HA.out.base (by omega) (fun g e => by cases e; exact Nat.le_refl _)
    · rintro V D' hB ⟨h1, h2⟩ hD'
      have hr : ∀ r, some D' = some r → ∃ o : Obj, V.heap[r]? = some o ∧ o.isCells = false := fun r e => by cases e; exact ⟨_, hD', rfl⟩
      have hg := grownBy_putObj' V D' (Obj.deferred none)
      exact ⟨below_put h1 (by omega), own_own h2 hg hr⟩
    · rintro V ⟨h1, h2⟩
      exact ⟨_, by simp [results, Tryz.results90, go_sem], _, rfl, h2.mono (by omega), h1⟩
end
end
section
section
open Go.RowKit
set_option linter.unusedVariables false
set_option linter.unusedSimpArgs false
attribute [local go_sem ↓] Go.wp_at_zero Go.wp_at_succ

theorem collect_any (Bs b off len cap : Nat) (ao : Option Addr) (hao : 0 < len → ao = some ⟨b, off, none⟩) (zs : List Int) (w : World) (hlen : zs.length = len) (hl : len ≤ 1000) (hBs : Bs < w.heap.size) (hb : b < w.heap.size) (hc : w.cell? ⟨Bs, 0, none⟩ = some (.slice ao len cap)) (hI : ∀ j, j < len → w.cell? ⟨b, off + j, none⟩ = some (.int .i64 (zs.getD j 0))) :
    Calls Tryz.prog 71 #[.func (.func 73) #[] #[.pointer (some ⟨Bs, 0, none⟩)]] w fun e w' => ∃ v, e = .returned v ∧ Own w' w.heap.size 3 intf v zs ∧ Below w.heap.size w w' := by
  have HA := Lib.hid (apseq_any Bs b off len cap ao hao zs w hlen hl hBs hb hc hI)
  clear hao hlen hl hBs hb hc hI
  go_enter Tryz.func71, Tryz.ntmps71
  go_wp2_with fail
  refine HA.out.mono ?_
  rintro e w1 ⟨v, rfl, h1, h2⟩
  have H1 := Lib.hid h1
  have H2 := Lib.hid h2
  clear h1 h2
  go_wp2
  go_ret
  exact ⟨_, rfl, H1.out, H2.out⟩
theorem own_natC {w : World} {B : Nat} {e : TypeId} {v : Value} {L : List Nat} (h : Own w B e intf v (ntI L)) : Own w B e natf v L := by
  unfold Own at h ⊢
  rw [ntI_len, show (ntI L).map intf = L.map natf from natf_map L] at h
  exact h
theorem sorted_any (Bs b off len cap : Nat) (ao : Option Addr) (hao : 0 < len → ao = some ⟨b, off, none⟩) (L : List Nat) (w : World) (hlen : L.length = len) (hl : len ≤ 1000) (hBs : Bs < w.heap.size) (hb : b < w.heap.size) (hc : w.cell? ⟨Bs, 0, none⟩ = some (.slice ao len cap)) (hI : ∀ j, j < len → w.cell? ⟨b, off + j, none⟩ = some (.int .i64 ((ntI L).getD j 0))) :
    Calls Tryz.prog 50 #[.func (.func 73) #[] #[.pointer (some ⟨Bs, 0, none⟩)]] w fun e w' => ∃ v, e = .returned v ∧ Own w' w.heap.size 3 natf v (sortN L) ∧ Below w.heap.size w w' := by
  have HA := Lib.hid (collect_any Bs b off len cap ao hao (ntI L) w (by rw [ntI_len]; exact hlen) hl hBs hb hc hI)
  have hll : L.length < 4611686018427387904 := by omega
  clear hao hlen hl hBs hb hc hI
  go_enter Tryz.func50, Tryz.ntmps50
  go_wp2_with fail
  refine HA.out.mono ?_
  rintro e w1 ⟨v, rfl, h1, h2⟩
  have HS := Lib.hid (sort_own (own_natC h1) hll)
  have HL := Lib.hid (fun g (e : v.ownBlock = some g) => (h1.lt g e).1)
  have H2 := Lib.hid h2
  clear h1 h2 HA
  go_wp2_with fail
  refine HS.out.mono ?_
  rintro e w2 ⟨rfl, h3, h4⟩
  have H3 := Lib.hid h3
  have H4 := Lib.hid (H2.out.grown h4 H2.out.size HL.out)
  clear h3 h4
  go_wp2
  go_ret
  exact ⟨_, rfl, H3.out, H4.out⟩
theorem values_any (ao : Option Addr) (n c : Nat) (w : World) : Calls Tryz.prog 51 #[.slice ao n c] w fun e w' => e = .returned (.func (.func 73) #[] #[.pointer (some ⟨w.heap.size, 0, none⟩)]) ∧ w.alloc (.cells #[.slice ao n c] 23) = w' := by
  go_enter Tryz.func51, Tryz.ntmps51
  go_wp2
  go_ret
  exact ⟨rfl, rfl⟩
end
end
end Go.Proofs.YtejcgjdfajppgaaGreatDoor
