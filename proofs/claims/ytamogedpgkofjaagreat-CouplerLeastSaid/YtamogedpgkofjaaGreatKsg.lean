/-
  Base texts, shaken by wip/shake.py: Sqf Sqg Sqk Sqh Sqt.
-/
import Derived.Test.YtamogedpgkofjaaGreatShelf
import Derived.Test.YtamogedpgkofjaaGreatKsm
import Derived.Test.YtamogedpgkofjaaGreatKsx
namespace Go.Proofs.YtamogedpgkofjaaGreat
section
open Go.RowKit
set_option linter.unusedVariables false
set_option linter.unusedSimpArgs false

def ntI (l : List Nat) : List Int := l.map fun k : Nat => (k : Int)
structure FrS where
  left : List Nat
  ord : List Nat
  ax : List Int
end
section
section
open Go.RowKit Go.Shelf
set_option linter.unusedVariables false
set_option linter.unusedSimpArgs false

theorem heap_setCellsP (g : Nat) (t : TypeId) : ∀ (vs : List Value) (o : Nat) (w : World) (pre old post : List Value), pre.length = o → old.length = vs.length → w.heap[g]? = some (.cells (pre ++ old ++ post).toArray t (0, 0)) → (w.setCells g o vs).heap[g]? = some (.cells (pre ++ vs ++ post).toArray t (0, 0))
  | [], o, w, pre, old, post, hp, ho, h => by
    have : old = [] := List.eq_nil_of_length_eq_zero (by simpa using ho)
    subst this
    exact h
  | v :: vs, o, w, pre, old, post, hp, ho, h => by
    cases old with
    | nil => simp at ho
    | cons u old =>
      have h2 := heap_setCell_same w g o _ t v h
      have e : ((pre ++ u :: old ++ post).toArray.setIfInBounds o v) = ((pre ++ [v]) ++ old ++ post).toArray := by
        rw [List.setIfInBounds_toArray, List.append_assoc, List.set_append_right _ _ (by omega), hp, Nat.sub_self]
        simp
      rw [e] at h2
      have h3 := heap_setCellsP g t vs (o + 1) (w.setCell ⟨g, o, none⟩ v) (pre ++ [v]) old post (by simp; omega) (by simpa using ho) h2
      have e2 : pre ++ [v] ++ vs ++ post = pre ++ v :: vs ++ post := by simp
      rw [e2] at h3
      exact h3
/-- A row of the call's own whose first cells are written anew. -/
theorem own_setCells {α : Type} {w : World} {B : Nat} {e : TypeId} {f : α → Value} {g n cap : Nat} {l : List α} (h : Own w B e f (.slice (some ⟨g, 0, none⟩) n cap) l) (q : Nat) (vs : List α) (m : Nat) (hvs : vs.length = l.length) (hm : m ≤ vs.length) :
    Own ((w.drewN q).setCells g 0 (vs.map f)) B e f (.slice (some ⟨g, 0, none⟩) m cap) (vs.take m) ∧ w.grownBy ((w.drewN q).setCells g 0 (vs.map f)) (some g) := by
  refine ⟨?_, only_next (only_draw (only_refl w (some g)) q) (grown_setCells g (vs.map f) 0 (w.drewN q)).1 (.inl rfl)⟩
  rcases h.2 with ⟨h1, _⟩ | ⟨g', cap', cur, h1, hB, hh, hc1, hc2, hsz, htk⟩
  · cases h1
  · cases h1
    rw [Nat.mul_one] at hsz htk
    have e0 : cur.toList = l.map f ++ cur.toList.drop l.length := by
      conv => lhs; rw [← List.take_append_drop l.length cur.toList]
      rw [htk]
    have e1 : (w.drewN q).heap[g]? = some (.cells ([] ++ l.map f ++ cur.toList.drop l.length).toArray e (0, 0)) := by
      rw [List.nil_append, ← e0]
      exact hh
    have h2 := heap_setCellsP g e (vs.map f) 0 (w.drewN q) [] (l.map f) _ rfl (by simp [hvs]) e1
    refine ⟨by rw [List.length_map, Nat.mul_one], .inr ⟨g, cap, _, ?_, hB, h2, ?_, hc2, ?_, ?_⟩⟩
    · rw [List.length_take, Nat.min_eq_left hm]
    · rw [List.length_take]; omega
    · have hl : l.length ≤ cap := hc1
      simp [hvs]
      rw [hsz]
      omega
    · rw [Nat.mul_one, List.length_take, Nat.min_eq_left hm]
      simp only [List.nil_append, List.toList_toArray]
      rw [List.take_append_of_le_length (by rw [List.length_map]; exact hm), List.map_take]
theorem natf_map (l : List Nat) : (ntI l).map (fun x : Int => Value.int .i64 x) = l.map natf := by unfold ntI; rw [List.map_map]; rfl
theorem ntI_len (l : List Nat) : (ntI l).length = l.length := by simp [ntI]
theorem ntI_getD (l : List Nat) (j : Nat) : (ntI l).getD j 0 = ((l.getD j 0 : Nat) : Int) := by
  unfold ntI
  rw [List.getD_eq_getElem?_getD, List.getD_eq_getElem?_getD, List.getElem?_map]
  cases l[j]? <;> rfl
theorem own_cells {w : World} {B : Nat} {e : TypeId} {g n cap : Nat} {l : List Nat} (h : Own w B e natf (.slice (some ⟨g, 0, none⟩) n cap) l) : ∀ j, j < (ntI l).length → w.cell? ⟨g, 0 + j, none⟩ = some (.int .i64 ((ntI l).getD j 0)) := by
  intro j hj
  rw [ntI_len] at hj
  rw [Nat.zero_add, ntI_getD]
  have := h.cell (List.getElem?_eq_getElem hj)
  rw [this, List.getD_eq_getElem?_getD, List.getElem?_eq_getElem hj]
  rfl
theorem clone_nat (g cap B : Nat) (l : List Nat) (w : World) (h : Own w B 3 natf (.slice (some ⟨g, 0, none⟩) l.length cap) l) (hl : l.length ≤ 1000) :
    Calls Tryz.prog 30 #[.slice (some ⟨g, 0, none⟩) l.length cap] w fun e w' => ∃ v', e = .returned v' ∧ Own w' w.heap.size 3 natf v' l ∧ v' ≠ .slice none 0 0 ∧ Below w.heap.size w w' := by
  refine (Tryz.slices_Clone_int g 0 l.length cap (ntI l) w (by rw [ntI_len]; exact Nat.le_refl _) (by omega) (own_cells h)).mono ?_
  rintro e w' ⟨v', rfl, h1, h2, h3⟩
  refine ⟨v', rfl, ?_, h2, h3⟩
  rw [List.take_of_length_le (by rw [ntI_len]; exact Nat.le_refl _)] at h1
  unfold Own
  rw [← natf_map]
  exact h1
theorem delete_nat (g cap B : Nat) (l : List Nat) (k : Nat) (w : World) (h : Own w B 3 natf (.slice (some ⟨g, 0, none⟩) l.length cap) l) (hl : l.length ≤ 1000) (hk : k < l.length) :
    Calls Tryz.prog 29 #[.slice (some ⟨g, 0, none⟩) l.length cap, .int .i64 (k : Int), .int .i64 ((k : Int) + 1)] w fun e w' => e = .returned (.slice (some ⟨g, 0, none⟩) (l.length - 1) cap) ∧ Own w' B 3 natf (.slice (some ⟨g, 0, none⟩) (l.length - 1) cap) (l.eraseIdx k) ∧ w.grownBy w' (some g) := by
  have hcap := own_cap h
  have hmx : cap ≤ 9223372036854775807 := by
    rcases h.2 with ⟨h1, _⟩ | ⟨g', cap', cur, h1, _, _, _, hc2, _⟩
    · cases h1
    · cases h1; unfold maxLen at hc2; omega
  have := Tryz.slices_Delete_int_cells g 0 l.length cap k (k + 1) (ntI l) w (by rw [ntI_len]; exact Nat.le_refl _) hcap hmx (by omega) (by omega) (own_cells h) (fun j hj => by rw [Nat.zero_add]; exact h.free j)
  rw [show ((k + 1 : Nat) : Int) = (k : Int) + 1 by omega] at this
  refine this.mono ?_
  rintro e w' ⟨rfl, q, rfl⟩
  rw [show k + 1 - k = 1 by omega]
  refine ⟨rfl, ?_⟩
  have e1 : (((ntI l).take l.length).take k ++ ((ntI l).take l.length).drop (k + 1) ++ List.replicate 1 0).map (Value.int .i64) = (l.take k ++ l.drop (k + 1) ++ [0]).map natf := by
    rw [List.take_of_length_le (l := ntI l) (by rw [ntI_len]; exact Nat.le_refl _), ← natf_map]
    unfold ntI
    simp
  rw [e1]
  have e2 : (l.take k ++ l.drop (k + 1) ++ [0]).length = l.length := by simp; omega
  have e3 : (l.take k ++ l.drop (k + 1) ++ [0]).take (l.length - 1) = l.eraseIdx k := by
    rw [List.eraseIdx_eq_take_drop_succ, List.take_append_of_le_length (by simp; omega), List.take_of_length_le (by simp; omega)]
  rw [← e3]
  exact own_setCells h q _ _ e2 (by rw [e2]; omega)
def marks (Ds : List Nat) : List Deferred := Ds.map fun D => { target := .collected D, args := #[] }
def MarksOk (B : Nat) (Ds : List Nat) (W : World) : Prop := Ds.Nodup ∧ ∀ D ∈ Ds, B ≤ D ∧ W.heap[D]? = some (.deferred (some []))
theorem MarksOk.nil (B : Nat) (W : World) : MarksOk B [] W := ⟨List.nodup_nil, fun D h => by simp at h⟩
theorem MarksOk.cons {B : Nat} {Ds : List Nat} {W : World} {D : Nat} (h : MarksOk B Ds W) (hB : B ≤ D) (hD : W.heap[D]? = some (.deferred (some []))) (hn : D ∉ Ds) : MarksOk B (D :: Ds) W :=
  ⟨List.nodup_cons.2 ⟨hn, h.1⟩, fun E hE => by
    rcases List.mem_cons.1 hE with rfl | h2
    · exact ⟨hB, hD⟩
    · exact h.2 E h2⟩
theorem MarksOk.grown {B : Nat} {Ds : List Nat} {W W' : World} {r : Option Nat} (h : MarksOk B Ds W) (hg : W.grownBy W' r) (hr : ∀ g, r = some g → ∃ o : Obj, W.heap[g]? = some o ∧ o.isCells = true) : MarksOk B Ds W' :=
  ⟨h.1, fun D hD => ⟨(h.2 D hD).1, by
    have h1 := (h.2 D hD).2
    refine (hg.block D (Array.getElem?_eq_some_iff.1 h1).1 (fun e => ?_)).trans h1
    obtain ⟨o, ho, hc⟩ := hr D e.symm
    rw [h1] at ho; cases ho; cases hc⟩⟩
theorem MarksOk.below {B : Nat} {Ds : List Nat} {W W' : World} (h : MarksOk B Ds W) (hb : Below W.heap.size W W') : MarksOk B Ds W' :=
  ⟨h.1, fun D hD => ⟨(h.2 D hD).1, (hb.block D (Array.getElem?_eq_some_iff.1 (h.2 D hD).2).1).trans (h.2 D hD).2⟩⟩
theorem MarksOk.lt {B : Nat} {Ds : List Nat} {W : World} (h : MarksOk B Ds W) {D : Nat} (hD : D ∈ Ds) : D < W.heap.size := (Array.getElem?_eq_some_iff.1 (h.2 D hD).2).1
theorem leaves_many {P : Program} {fn : Func} {R : Ending → World → Prop} {tmps : Array Value} {B : Nat} {Φ : World → Prop}
    (hΦ : ∀ W D, B ≤ D → Φ W → W.heap[D]? = some (.deferred (some [])) → Φ (W.putObj D (.deferred none)))
    (hR : ∀ W, Φ W → ∃ v, (results fn tmps).run P W = .ok v W ∧ R (.returned v) W) :
    ∀ (Ds : List Nat) (W : World), MarksOk B Ds W → Φ W → LeavesInM Fence.wide 5 P fn tmps R (marks Ds) .returning W
  | [], W, _, h => hR W h
  | D :: Ds, W, hm, h => by
    obtain ⟨h1, h2⟩ := List.nodup_cons.1 hm.1
    obtain ⟨hB, hD⟩ := hm.2 D List.mem_cons_self
    refine ⟨by simp, .inl ⟨D, _, rfl, run_takeDeferred hD, ?_⟩⟩
    refine leaves_many hΦ hR Ds _ ⟨h2, fun E hE => ⟨(hm.2 E (List.mem_cons_of_mem _ hE)).1, ?_⟩⟩ (hΦ W D hB h hD)
    exact (World.putObj_heap_other (by rintro rfl; exact h1 hE)).trans (hm.2 E (List.mem_cons_of_mem _ hE)).2
theorem marks_end {P : Program} {fn : Func} {R : Ending → World → Prop} {a : Act} {W : World} {Ds : List Nat} (B : Nat) (Φ : World → Prop) (hd : a.defers = marks Ds) (hm : MarksOk B Ds W) (h : Φ W)
    (hΦ : ∀ W D, B ≤ D → Φ W → W.heap[D]? = some (.deferred (some [])) → Φ (W.putObj D (.deferred none)))
    (hR : ∀ W, Φ W → ∃ v, (results fn a.tmps).run P W = .ok v W ∧ R (.returned v) W) : bodyPostM Fence.wide 5 P fn R .ret a W := by
  show LeavesInM Fence.wide 5 P fn a.tmps R a.defers .returning W
  rw [hd]
  exact leaves_many hΦ hR Ds W hm h
theorem own_own {α : Type} {W W' : World} {row : Option Nat} {B : Nat} {e : TypeId} {f : α → Value} {v : Value} {l : List α} (h : Own W B e f v l) (hg : W.grownBy W' row) (hr : ∀ r, row = some r → ∃ o : Obj, W.heap[r]? = some o ∧ o.isCells = false) : Own W' B e f v l := by
  refine h.only hg (fun g hgv e => ?_)
  obtain ⟨o, ho, hc⟩ := hr g e.symm
  rcases h.2 with ⟨h', _⟩ | ⟨g', cap', cur, h', hb, hh, _⟩
  · rw [h'] at hgv; cases hgv
  · rw [h'] at hgv; cases hgv
    rw [hh] at ho; cases ho; cases hc
/-- The three cells of the results. -/
structure FrO (w : World) (X : Nat) (o a : Value) (er : Int) (W : World) : Prop where
  below : Below w.heap.size w W
  b4 : BlkIs W (X + 2) 24 #[o]
  b5 : BlkIs W (X + 3) 24 #[a]
  b6 : BlkIs W (X + 4) 28 #[.int .i64 er]
theorem FrO.put {w W : World} {X D : Nat} {o a : Value} {er : Int} (h : FrO w X o a er W) (hB : w.heap.size ≤ D) (hD : W.heap[D]? = some (.deferred (some []))) : FrO w X o a er (W.putObj D (.deferred none)) := by
  have hr : ∀ r, some D = some r → ∃ o : Obj, W.heap[r]? = some o ∧ o.isCells = false := fun r e => by cases e; exact ⟨_, hD, rfl⟩
  have hg := grownBy_putObj' W D (Obj.deferred none)
  exact ⟨below_put h.below hB, blk_own h.b4 hg hr, blk_own h.b5 hg hr, blk_own h.b6 hg hr⟩
end
section
open Go.RowKit Go.Shelf
set_option linter.unusedVariables false
set_option linter.unusedSimpArgs false
attribute [local go_sem ↓] Go.wp_at_zero Go.wp_at_succ
attribute [local go_sem] Oper.semAt_some
end
end
section
section
open Go.RowKit Go.Shelf
set_option linter.unusedVariables false
variable {P : Program} {ops : Array Oper} {md : Region.Mode} {Q : Exit → Act → World → Prop} {S : World → Prop} {n r : Nat}

theorem opIn_of {o : Oper} {a : Act} {w : World} {K : Act → World → Prop} (hd : ∀ c, o.op ≠ .defer c) (h : o.wp P a w K Q) : o.wpIn (Fence.wide.inRound r) n P a w K Q := by
  refine ⟨fun _ _ => trivial, ?_⟩
  rw [Oper.semAt_plain _ _ _ hd]
  unfold Oper.wp at h
  revert h
  cases (execOp a.eval o).run P w with
  | halt x w' => cases x <;> exact id
  | ok nx w' =>
    cases nx with
    | value v => exact id
    | skip => exact id
    | defer d => exact id
    | enter f args => exact fun h => ⟨fun h => by simp [Fence.wide] at h, callsIn_wide.2 h⟩
    | row row args => exact fun h => ⟨fun h => by simp [Fence.wide] at h, fun c cs _ => by obtain ⟨v, w', q, t⟩ := h c cs; exact ⟨v, w', q, stepsIn_wide.2 t⟩⟩
    | _ => exact fun h => h.elim
theorem anyIn_of (hQ : ¬ LetsOut Q) (hd : ∀ (i : Nat) (o : Oper), ops[i]? = some o → ∀ c, o.op ≠ .defer c) : ∀ (f : Nat) (listed : Array Bool) (a : Act) (w : World), wpAny P md ops Q f listed a w → wpAnyIn (Fence.wide.inRound r) n P md ops Q f listed a w
  | 0, _, _, _, h => h
  | f + 1, listed, a, w, h => ⟨h.1, fun i hi => by
    have h1 := wpOp_mono (fun a' w' h' => anyIn_of hQ hd f _ a' w' h') (h.2 i hi)
    unfold wpOp at h1
    unfold wpOpIn
    cases ho : ops[i]? with
    | none => rw [ho] at h1; exact h1
    | some o =>
      rw [ho] at h1
      simp only at h1 ⊢
      split
      · rename_i hw; rw [if_pos hw] at h1; exact opIn_of (hd i o ho) (h1.resolve_right fun h => hQ h.2)
      · rename_i hw; rw [if_neg hw] at h1; exact ⟨fun _ _ => trivial, h1⟩⟩
def noDefer (ops : Array Oper) : Bool := (List.range ops.size).all fun i => ((ops[i]?).map fun o => (match o.op with | .defer _ => false | _ => true)).getD true
theorem noDefer_of (h : noDefer ops = true) : ∀ (i : Nat) (o : Oper), ops[i]? = some o → ∀ c, o.op ≠ .defer c := fun i o ho c hc => by
  unfold noDefer at h
  rw [List.all_eq_true] at h
  have := h i (List.mem_range.2 (Array.getElem?_eq_some_iff.1 ho).1)
  rw [ho] at this
  simp only [Option.map_some, Option.getD_some, hc] at this
  cases this
/-- The same, but it does not outgrow. -/
def noOut (Q : Exit → Act → World → Prop) : Exit → Act → World → Prop
  | .outgrown, _, _ => False
  | e, a, w => Q e a w
theorem noOut_lets (Q : Exit → Act → World → Prop) : ¬ LetsOut (noOut Q) := by
  rintro ⟨a, w, h⟩
  exact h
theorem noOut_to : ∀ (e : Exit) (a : Act) (w : World), noOut Q e a w → Q e a w := by
  intro e a w h
  cases e <;> first | exact h | exact h.elim
theorem region_round_H {id : Nat} {a : Act} {w : World} (S : World → Prop) (hm : P.follows .mixedOrders = true) (hd : noDefer ops = true) (hS : S w.drew) (h : S w.drew → wpAnyH P .any ops (noOut Q) S ops.size (Array.replicate ops.size false) a w.drew) :
    (Code.region id ops true).wpIn (Fence.wide.inRound r) n P Q a w :=
  wpIn_mono (wpIn_region_any hm (anyIn_of (noOut_lets Q) (noDefer_of hd) _ _ _ _ (wpAny_of_held _ _ _ _ (h hS)))) noOut_to
/-- A store into one cell. -/
theorem step_store1 {o : Oper} {a : Act} {K : Act → World → Prop} {E : Prop} {W : World} (hgd : o.guard = none) (u : Value) (p : Addr) (hd : o.dst = none) (hx : (execOp a.eval o).run P W = .ok .skip (W.setCell p u)) (hK : K (a.put none undef) (W.setCell p u)) :
    if Region.wanted o (yielded ops a.tmps) = true then Oper.wp P o a W K Q else E := by
  have hw : Region.wanted o (yielded ops a.tmps) = true := by simp [Region.wanted, hgd]
  rw [if_pos hw]
  unfold Oper.wp
  rw [hx, Oper.upon_skip, hd]
  exact hK
end
end
section
section
open Go.RowKit Go.Shelf
set_option linter.unusedVariables false
set_option linter.unusedSimpArgs false

structure FrB (w : World) (X Y Z n : Nat) (v vr : Value) (s : FrS) (vL vO : Value) (Ds : List Nat) (W : World) : Prop where
  out : FrO w X (.slice none 0 0) (.slice none 0 0) 0 W
  b2 : BlkIs W X 22 #[v]
  b3 : BlkIs W (X + 1) 23 #[vr]
  b9 : BlkIs W Y 24 #[vL]
  b10 : BlkIs W (Y + 1) 24 #[vO]
  b12 : BlkIs W (Z + 1) 24 #[.slice (some ⟨Z, 0, none⟩) n n]
  ax : Own W Z 3 intf (.slice (some ⟨Z, 0, none⟩) n n) s.ax
  ord : Own W (Z + 2) 3 natf vO s.ord
  left : Own W (Y + 2) 3 natf vL s.left
  mks : MarksOk w.heap.size Ds W
theorem FrO.keep {w W W' : World} {X : Nat} {o a : Value} {er : Int} (h : FrO w X o a er W) (hb : Below W.heap.size W W') : FrO w X o a er W' :=
  ⟨bstep h.below hb, h.b4.below hb, h.b5.below hb, h.b6.below hb⟩
theorem FrB.after {w : World} {X Y Z n : Nat} {v vr : Value} {s : FrS} {vL vO : Value} {Ds : List Nat} {W W' : World} (h : FrB w X Y Z n v vr s vL vO Ds W) (hb : Below W.heap.size W W') : FrB w X Y Z n v vr s vL vO Ds W' :=
  ⟨h.out.keep hb, h.b2.below hb, h.b3.below hb, h.b9.below hb, h.b10.below hb, h.b12.below hb, h.ax.below hb, h.ord.below hb, h.left.below hb, h.mks.below hb⟩
theorem FrB.mark {w : World} {X Y Z n : Nat} {v vr : Value} {s : FrS} {vL vO : Value} {Ds : List Nat} {W : World} {D : Nat} (h : FrB w X Y Z n v vr s vL vO Ds W) (hB : w.heap.size ≤ D) (hD : W.heap[D]? = some (.deferred (some []))) (hn : D ∉ Ds) : FrB w X Y Z n v vr s vL vO (D :: Ds) W :=
  { h with mks := h.mks.cons hB hD hn }
/-- A block of the range's own book-keeping is written. -/
theorem FrB.own {w : World} {X Y Z n : Nat} {v vr : Value} {s : FrS} {vL vO : Value} {Ds : List Nat} {W W' : World} {row : Option Nat} {N : Nat} (h : FrB w X Y Z n v vr s vL vO Ds W) (hg : W.grownBy W' row) (hX : w.heap.size ≤ N) (hD : ∀ D ∈ Ds, D < N) (hr : ∀ r, row = some r → N ≤ r ∧ ∃ o : Obj, W.heap[r]? = some o ∧ o.isCells = false) : FrB w X Y Z n v vr s vL vO Ds W' := by
  have hr' : ∀ r, row = some r → ∃ o : Obj, W.heap[r]? = some o ∧ o.isCells = false := fun r e => (hr r e).2
  refine ⟨⟨h.out.below.grown hg h.out.below.size (fun g e => by have := (hr g e).1; omega), blk_own h.out.b4 hg hr', blk_own h.out.b5 hg hr', blk_own h.out.b6 hg hr'⟩, blk_own h.b2 hg hr', blk_own h.b3 hg hr', blk_own h.b9 hg hr', blk_own h.b10 hg hr', blk_own h.b12 hg hr', own_own h.ax hg hr', own_own h.ord hg hr', own_own h.left hg hr', h.mks.1, fun D hDm => ⟨(h.mks.2 D hDm).1, (hg.block D (h.mks.lt hDm) (fun e => ?_)).trans (h.mks.2 D hDm).2⟩⟩
  have := (hr D e.symm).1
  have := hD D hDm
  omega
/-- A write into a row of cells behind the boxes. -/
theorem FrO.grown {w W W' : World} {X : Nat} {o a : Value} {er : Int} {r : Option Nat} (h : FrO w X o a er W) (hX : w.heap.size ≤ X) (hg : W.grownBy W' r) (hr : ∀ g, r = some g → X + 5 ≤ g) : FrO w X o a er W' := by
  refine ⟨h.below.grown hg h.below.size (fun g e => by have := hr g e; omega), h.b4.else_ hg ?_, h.b5.else_ hg ?_, h.b6.else_ hg ?_⟩
  all_goals (intro e; have := hr _ e.symm; omega)
theorem ntq {a b : Nat} (h : a ≠ b) : some a ≠ some b := fun e => h (Option.some.inj e)
/-- The pick: the axis is stored, and what is left. -/
theorem FrB.take {w : World} {X Y Z n : Nat} {v vr : Value} {s : FrS} {vL vL' vO : Value} {Ds : List Nat} {W : World} {left' : List Nat} (h : FrB w X Y Z n v vr s vL vO Ds W) (hX : w.heap.size = X) (hY : X + 5 ≤ Y) (hZ : Y + 2 ≤ Z)
    (hv : Own W (Z + 2) 3 natf vL' left') (q i : Nat) (x : Int) :
    FrB w X Y Z n v vr ⟨left', s.ord, s.ax.set i x⟩ vL' vO Ds (((W.drewN q).setCell ⟨Z, i, none⟩ (.int .i64 x)).setCell ⟨Y, 0, none⟩ vL') := by
  obtain ⟨W1, hW1⟩ : ∃ W1, (W.drewN q).setCell ⟨Z, i, none⟩ (.int .i64 x) = W1 := ⟨_, rfl⟩
  have g1 : W.grownBy W1 (some Z) := by rw [← hW1]; exact only_next (only_draw (only_refl W (some Z)) q) (only_set _ _ _ _) (.inl rfl)
  have g2 := only_set W1 Y 0 vL'
  have ha : Own W1 Z 3 intf (.slice (some ⟨Z, 0, none⟩) n n) (s.ax.set i x) := by rw [← hW1]; exact (h.ax.drawN q).set i x
  have k9 := h.b9.else_ g1 (ntq (by omega))
  have m1 : MarksOk w.heap.size Ds W1 := h.mks.grown g1 (fun g e => by
    cases e
    rcases h.ax.2 with ⟨h1, _⟩ | ⟨g', cap', cur, h1, _, hh, _⟩
    · cases h1
    · cases h1; exact ⟨_, hh, rfl⟩)
  rw [hW1]
  refine ⟨(h.out.grown (by omega) g1 (fun g e => by cases e; omega)).grown (by omega) g2 (fun g e => by cases e; omega), (h.b2.else_ g1 (ntq (by omega))).else_ g2 (ntq (by omega)), (h.b3.else_ g1 (ntq (by omega))).else_ g2 (ntq (by omega)), k9.set 0 vL', (h.b10.else_ g1 (ntq (by omega))).else_ g2 (ntq (by omega)), (h.b12.else_ g1 (ntq (by omega))).else_ g2 (ntq (by omega)), ha.only g2 ?_, (h.ord.only g1 ?_).only g2 ?_, ((hv.only g1 ?_).only g2 ?_).mono (by omega), m1.grown g2 (fun g e => by cases e; exact ⟨_, k9, rfl⟩)⟩
  · intro g e; obtain rfl : Z = g := Option.some.inj e; exact ntq (by omega)
  all_goals (intro g e e2; cases e2; first | (have := (h.ord.lt _ e).1; omega) | (have := (hv.lt _ e).1; omega))
/-- .. and the order's new last. -/
theorem FrB.push {w : World} {X Y Z n : Nat} {v vr : Value} {s : FrS} {vL vO v' : Value} {Ds : List Nat} {W W' : World} {ord' : List Nat} (h : FrB w X Y Z n v vr s vL vO Ds W) (hX : w.heap.size = X) (hY : X + 5 ≤ Y) (hZ : Y + 2 ≤ Z)
    (hap : ∀ g, vL.ownBlock = some g → some g ≠ vO.ownBlock) (hown : Own W' (Z + 2) 3 natf v' ord') (hg : W.grownBy W' vO.ownBlock) :
    FrB w X Y Z n v vr ⟨s.left, ord', s.ax⟩ vL v' Ds (W'.setCell ⟨Y + 1, 0, none⟩ v') := by
  have g2 := only_set W' (Y + 1) 0 v'
  have hr : ∀ g, vO.ownBlock = some g → Z + 2 ≤ g := fun g e => (h.ord.lt g e).1
  have hc : ∀ g, vO.ownBlock = some g → ∃ o : Obj, W.heap[g]? = some o ∧ o.isCells = true := fun g e => by
    rcases h.ord.2 with ⟨h1, _⟩ | ⟨g', cap', cur, h1, _, hh, _⟩
    · rw [h1] at e; cases e
    · rw [h1] at e; cases e; exact ⟨_, hh, rfl⟩
  have ne : ∀ k, k < Z + 2 → some k ≠ vO.ownBlock := fun k hk e => by have := hr k e.symm; omega
  have k10 := h.b10.else_ hg (ne _ (by omega))
  have m1 := h.mks.grown hg hc
  have nt : ∀ {k : Nat}, k ≠ Y + 1 → some k ≠ some (Y + 1) := fun hk e => by cases e; exact hk rfl
  refine ⟨(h.out.grown (by omega) hg (fun g e => by have := hr g e; omega)).grown (by omega) g2 (fun g e => by cases e; omega), (h.b2.else_ hg (ne _ (by omega))).else_ g2 (nt (by omega)), (h.b3.else_ hg (ne _ (by omega))).else_ g2 (nt (by omega)), (h.b9.else_ hg (ne _ (by omega))).else_ g2 (nt (by omega)), k10.set 0 v', (h.b12.else_ hg (ne _ (by omega))).else_ g2 (nt (by omega)), (h.ax.only hg ?_).only g2 ?_, hown.only g2 ?_, (h.left.only hg hap).only g2 ?_, m1.grown g2 (fun g e => by cases e; exact ⟨_, k10, rfl⟩)⟩
  · intro g e; obtain rfl : Z = g := Option.some.inj e; exact ne _ (by omega)
  · intro g e; obtain rfl : Z = g := Option.some.inj e; exact ntq (by omega)
  · intro g e e2; cases e2; have := (hown.lt _ e).1; omega
  · intro g e e2; cases e2; have := (h.left.lt _ e).1; omega
/-- While what is left is laid. -/
structure FrL (w : World) (X Y k : Nat) (v vr vL : Value) (W : World) : Prop where
  out : FrO w X (.slice none 0 0) (.slice none 0 0) 0 W
  b2 : BlkIs W X 22 #[v]
  b3 : BlkIs W (X + 1) 23 #[vr]
  b9 : BlkIs W Y 24 #[vL]
  b10 : BlkIs W (Y + 1) 24 #[.slice none 0 0]
  left : Own W (Y + 2) 3 natf vL (List.range k)
theorem FrL.after {w : World} {X Y k : Nat} {v vr vL : Value} {W W' : World} (h : FrL w X Y k v vr vL W) (hb : Below W.heap.size W W') : FrL w X Y k v vr vL W' :=
  ⟨h.out.keep hb, h.b2.below hb, h.b3.below hb, h.b9.below hb, h.b10.below hb, h.left.below hb⟩
theorem FrL.push {w : World} {X Y k : Nat} {v vr vL v' : Value} {W W' : World} (h : FrL w X Y k v vr vL W) (hX : w.heap.size = X) (hY : X + 5 ≤ Y) (hown : Own W' (Y + 2) 3 natf v' (List.range k ++ [k])) (hg : W.grownBy W' vL.ownBlock) :
    FrL w X Y (k + 1) v vr v' (W'.setCell ⟨Y, 0, none⟩ v') := by
  have g2 := only_set W' Y 0 v'
  have hr : ∀ g, vL.ownBlock = some g → Y + 2 ≤ g := fun g e => (h.left.lt g e).1
  have ne : ∀ k, k < Y + 2 → some k ≠ vL.ownBlock := fun k hk e => by have := hr k e.symm; omega
  have nt : ∀ {k : Nat}, k ≠ Y → some k ≠ some Y := fun hk e => by cases e; exact hk rfl
  refine ⟨(h.out.grown (by omega) hg (fun g e => by have := hr g e; omega)).grown (by omega) g2 (fun g e => by cases e; omega), (h.b2.else_ hg (ne _ (by omega))).else_ g2 (nt (by omega)), (h.b3.else_ hg (ne _ (by omega))).else_ g2 (nt (by omega)), (h.b9.else_ hg (ne _ (by omega))).set 0 v', (h.b10.else_ hg (ne _ (by omega))).else_ g2 (nt (by omega)), ?_⟩
  rw [List.range_succ]
  refine hown.only g2 (fun g e e2 => ?_)
  cases e2
  have := (hown.lt _ e).1
  omega
/-- The end: what is read when all are out. -/
structure FrE (w : World) (X Y Z n : Nat) (A : List Int) (O : List Nat) (vO : Value) (Ds : List Nat) (W : World) : Prop where
  out : FrO w X (.slice none 0 0) (.slice none 0 0) 0 W
  b10 : BlkIs W (Y + 1) 24 #[vO]
  b12 : BlkIs W (Z + 1) 24 #[.slice (some ⟨Z, 0, none⟩) n n]
  ax : Own W Z 3 intf (.slice (some ⟨Z, 0, none⟩) n n) A
  ord : Own W (Z + 2) 3 natf vO O
  mks : MarksOk w.heap.size Ds W
theorem FrB.turn {w : World} {X Y Z n : Nat} {v vr : Value} {s : FrS} {vL vO : Value} {Ds : List Nat} {W W' : World} {ord' : List Nat} (h : FrB w X Y Z n v vr s vL vO Ds W) (hX : w.heap.size = X) (hY : X + 5 ≤ Y) (hZ : Y + 2 ≤ Z)
    (hown : Own W' (Z + 2) 3 natf vO ord') (hg : W.grownBy W' vO.ownBlock) : FrE w X Y Z n s.ax ord' vO Ds W' := by
  have hr : ∀ g, vO.ownBlock = some g → Z + 2 ≤ g := fun g e => (h.ord.lt g e).1
  have hc : ∀ g, vO.ownBlock = some g → ∃ o : Obj, W.heap[g]? = some o ∧ o.isCells = true := fun g e => by
    rcases h.ord.2 with ⟨h1, _⟩ | ⟨g', cap', cur, h1, _, hh, _⟩
    · rw [h1] at e; cases e
    · rw [h1] at e; cases e; exact ⟨_, hh, rfl⟩
  have ne : ∀ k, k < Z + 2 → some k ≠ vO.ownBlock := fun k hk e => by have := hr k e.symm; omega
  refine ⟨h.out.grown (by omega) hg (fun g e => by have := hr g e; omega), h.b10.else_ hg (ne _ (by omega)), h.b12.else_ hg (ne _ (by omega)), h.ax.only hg ?_, hown, h.mks.grown hg hc⟩
  intro g e; obtain rfl : Z = g := Option.some.inj e; exact ne _ (by omega)
theorem wpListIn_pushO {α : Type} {F : Fence} {nF : Nat} {P : Program} (w0 : World) (N : Nat) (hN : w0.heap.size = N) {ops : Array Oper} {rest : List Oper} {o : Oper} {a : Act} {Q : Exit → Act → World → Prop} (hgd : o.guard = none) (s x : Operand) (t : TypeId)
    (ho : o.op = .call { callee := .builtin .append, args := #[s, x], argTypes := #[t, t] })
    (e bytes : Nat) (he : Elem P t e bytes) (base : Nat) (f : α → Value) (v : Value) (l : List α) (y : α) (h1 : (f y).oneCell' = true)
    (hown : Own w0 base e f v l) (hs : a.eval s = v) (hx : a.eval x = .slice (some ⟨N, 0, none⟩) 1 1)
    (h63 : l.length + 1 ≤ 1099511627776) (hby : bytes ≤ 64) (hbase : base ≤ N)
    (hK : ∀ v' w', Own w' base e f v' (l ++ [y]) → w0.grownBy w' v.ownBlock → wpListIn F nF P ops Q rest (a.put o.dst v') w') :
    wpListIn F nF P ops Q (o :: rest) a (w0.alloc (.cells #[f y] e)) := by
  subst hN
  obtain ⟨ht, i, z, hi, hz, hsz, hb, hzs⟩ := he
  have hown1 : (w0.alloc (.cells #[f y] e)).ownsRow base e 1 v l.length (l.map f) := World.ownsRow.alloc hown _
  refine wpListIn_append_own (w0.alloc (.cells #[f y] e)) hgd s x t ho base e i z 1 bytes ht hi hz hsz hb hzs (by omega) v l.length (l.map f) hs hown1 ⟨w0.heap.size, 0, none⟩ 1 1 [f y] hx rfl (by
      intro j u hj
      match j, hj with
      | 0, hj =>
        cases hj
        rw [Addr.add_lit, World.cell?_alloc_at _ _ _ _ rfl]; rfl) (by
      intro u hu
      rw [List.mem_singleton.1 hu]; exact h1) (by unfold maxLen; omega) (by
      have : (l.length + 1) * bytes ≤ 1099511627776 * 64 := Nat.mul_le_mul h63 hby
      omega) (by simp; omega) ?_
  intro v' w' h2 h3 _
  refine hK v' w' ?_ (only_next (World.grownBy_alloc w0 _ v.ownBlock) h3 (.inl rfl))
  unfold Own
  rw [List.length_append, List.map_append]
  exact h2
end

section
open Go.RowKit Go.Shelf
set_option linter.unusedVariables false
set_option linter.unusedSimpArgs false
attribute [local go_sem ↓] Go.wp_at_zero Go.wp_at_succ
attribute [local go_sem] Oper.semAt_some
end
end
section
section
open Go.RowKit
set_option linter.unusedVariables false
set_option linter.unusedSimpArgs false
attribute [local go_sem ↓] Go.wp_at_zero Go.wp_at_succ

/-- The bars ahead that block one, asked of package block. -/
theorem sblkd_any (v vr tv : Value) (X T : List Int) (k : Nat) (l : List BarD) (rs : List RunD) (w : World) (hA : SqA w v vr l rs) (hc : sqC l rs X = 0) (ht : Ints w tv T) (hlt : T.length ≤ 1000000) (ho : othE (lgsOf l rs).length (k : Int) (X.getD k 0) T = 0) :
    Calls Tryz.prog 31 #[v, vr, .int .i64 (k : Int), .int .i64 (X.getD k 0), tv] w fun e w' => ∃ o, e = .returned (.tuple #[o, .int .i64 0]) ∧ Hid (OwnI w' w.heap.size o (blkL (lgsOf l rs) (szsOf l rs) (X.getD k 0) k T)) ∧ Below w.heap.size w w' := by
  obtain ⟨hok, he⟩ := sqC_zero hc
  have := blockedI_good v vr (k : Int) (X.getD k 0) tv T l rs w hA.hp hA.hr ht hA.hl hA.hlr hlt hA.hf hok
  rw [ho] at this
  refine this.mono ?_
  rintro e w' ⟨o, rfl, h1, _, h3⟩
  exact ⟨o, rfl, h1 rfl, h3⟩
end
end
end Go.Proofs.YtamogedpgkofjaaGreat
