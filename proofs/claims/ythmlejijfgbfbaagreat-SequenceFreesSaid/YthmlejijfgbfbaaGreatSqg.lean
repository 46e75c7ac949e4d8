/-
  sequence.Free: the slices' contracts, the marks of several ranges, the refusals.
-/
import Derived.Test.YthmlejijfgbfbaaGreatSqb
import Derived.Test.YthmlejijfgbfbaaGreatSqf
import Derived.Test.YthmlejijfgbfbaaGreatSqe
import Derived.Test.YthmlejijfgbfbaaGreatShelf
namespace Go.Proofs.YthmlejijfgbfbaaGreat
section
open Go.RowKit Go.Shelf
set_option linter.unusedVariables false
set_option linter.unusedSimpArgs false

theorem heap_setCellsP (g : Nat) (t : TypeId) : ∀ (vs : List Value) (o : Nat) (w : World) (pre old post : List Value), pre.length = o → old.length = vs.length → w.heap[g]? = some (.cells (pre ++ old ++ post).toArray t (0, 0)) → (w.setCells g o vs).heap[g]? = some (.cells (pre ++ vs ++ post).toArray t (0, 0))
  | [], o, w, pre, old, post, hp, ho, h => by
    have : old = [] := List.eq_nil_of_length_eq_zero (by simpa using ho)
    subst this
    exact h
  | v :: vs, o, w, pre, old, post, hp, ho, h => by
    cases old with
    | nil => simp at ho
    | cons u old =>
      have h2 := heap_setCell_same w g o _ t v h
      have e : ((pre ++ u :: old ++ post).toArray.setIfInBounds o v) = ((pre ++ [v]) ++ old ++ post).toArray := by
        rw [List.setIfInBounds_toArray, List.append_assoc, List.set_append_right _ _ (by omega), hp, Nat.sub_self]
        simp
      rw [e] at h2
      have h3 := heap_setCellsP g t vs (o + 1) (w.setCell ⟨g, o, none⟩ v) (pre ++ [v]) old post (by simp; omega) (by simpa using ho) h2
      have e2 : pre ++ [v] ++ vs ++ post = pre ++ v :: vs ++ post := by simp
      rw [e2] at h3
      exact h3
/-- A row of the call's own whose first cells are written anew. -/
theorem own_setCells {α : Type} {w : World} {B : Nat} {e : TypeId} {f : α → Value} {g n cap : Nat} {l : List α} (h : Own w B e f (.slice (some ⟨g, 0, none⟩) n cap) l) (q : Nat) (vs : List α) (m : Nat) (hvs : vs.length = l.length) (hm : m ≤ vs.length) :
    Own ((w.drewN q).setCells g 0 (vs.map f)) B e f (.slice (some ⟨g, 0, none⟩) m cap) (vs.take m) ∧ w.grownBy ((w.drewN q).setCells g 0 (vs.map f)) (some g) := by
  refine ⟨?_, only_next (only_draw (only_refl w (some g)) q) (grown_setCells g (vs.map f) 0 (w.drewN q)).1 (.inl rfl)⟩
  rcases h.2 with ⟨h1, _⟩ | ⟨g', cap', cur, h1, hB, hh, hc1, hc2, hsz, htk⟩
  · cases h1
  · cases h1
    rw [Nat.mul_one] at hsz htk
    have e0 : cur.toList = l.map f ++ cur.toList.drop l.length := by
      conv => lhs; rw [← List.take_append_drop l.length cur.toList]
      rw [htk]
    have e1 : (w.drewN q).heap[g]? = some (.cells ([] ++ l.map f ++ cur.toList.drop l.length).toArray e (0, 0)) := by
      rw [List.nil_append, ← e0]
      exact hh
    have h2 := heap_setCellsP g e (vs.map f) 0 (w.drewN q) [] (l.map f) _ rfl (by simp [hvs]) e1
    refine ⟨by rw [List.length_map, Nat.mul_one], .inr ⟨g, cap, _, ?_, hB, h2, ?_, hc2, ?_, ?_⟩⟩
    · rw [List.length_take, Nat.min_eq_left hm]
    · rw [List.length_take]; omega
    · have hl : l.length ≤ cap := hc1
      simp [hvs]
      rw [hsz]
      omega
    · rw [Nat.mul_one, List.length_take, Nat.min_eq_left hm]
      simp only [List.nil_append, List.toList_toArray]
      rw [List.take_append_of_le_length (by rw [List.length_map]; exact hm), List.map_take]
theorem natf_map (l : List Nat) : (ntI l).map (fun x : Int => Value.int .i64 x) = l.map natf := by unfold ntI; rw [List.map_map]; rfl
theorem ntI_len (l : List Nat) : (ntI l).length = l.length := by simp [ntI]
theorem ntI_getD (l : List Nat) (j : Nat) : (ntI l).getD j 0 = ((l.getD j 0 : Nat) : Int) := by
  unfold ntI
  rw [List.getD_eq_getElem?_getD, List.getD_eq_getElem?_getD, List.getElem?_map]
  cases l[j]? <;> rfl
theorem own_cells {w : World} {B : Nat} {e : TypeId} {g n cap : Nat} {l : List Nat} (h : Own w B e natf (.slice (some ⟨g, 0, none⟩) n cap) l) : ∀ j, j < (ntI l).length → w.cell? ⟨g, 0 + j, none⟩ = some (.int .i64 ((ntI l).getD j 0)) := by
  intro j hj
  rw [ntI_len] at hj
  rw [Nat.zero_add, ntI_getD]
  have := h.cell (List.getElem?_eq_getElem hj)
  rw [this, List.getD_eq_getElem?_getD, List.getElem?_eq_getElem hj]
  rfl
theorem clone_nat (g cap B : Nat) (l : List Nat) (w : World) (h : Own w B 3 natf (.slice (some ⟨g, 0, none⟩) l.length cap) l) (hl : l.length ≤ 1000) :
    Calls Tryz.prog 53 #[.slice (some ⟨g, 0, none⟩) l.length cap] w fun e w' => ∃ v', e = .returned v' ∧ Own w' w.heap.size 3 natf v' l ∧ v' ≠ .slice none 0 0 ∧ Below w.heap.size w w' := by
  refine (Tryz.slices_Clone_int g 0 l.length cap (ntI l) w (by rw [ntI_len]; exact Nat.le_refl _) (by omega) (own_cells h)).mono ?_
  rintro e w' ⟨v', rfl, h1, h2, h3⟩
  refine ⟨v', rfl, ?_, h2, h3⟩
  rw [List.take_of_length_le (by rw [ntI_len]; exact Nat.le_refl _)] at h1
  unfold Own
  rw [← natf_map]
  exact h1
theorem delete_nat (g cap B : Nat) (l : List Nat) (k : Nat) (w : World) (h : Own w B 3 natf (.slice (some ⟨g, 0, none⟩) l.length cap) l) (hl : l.length ≤ 1000) (hk : k < l.length) :
    Calls Tryz.prog 52 #[.slice (some ⟨g, 0, none⟩) l.length cap, .int .i64 (k : Int), .int .i64 ((k : Int) + 1)] w fun e w' => e = .returned (.slice (some ⟨g, 0, none⟩) (l.length - 1) cap) ∧ Own w' B 3 natf (.slice (some ⟨g, 0, none⟩) (l.length - 1) cap) (l.eraseIdx k) ∧ w.grownBy w' (some g) := by
  have hcap := own_cap h
  have hmx : cap ≤ 9223372036854775807 := by
    rcases h.2 with ⟨h1, _⟩ | ⟨g', cap', cur, h1, _, _, _, hc2, _⟩
    · cases h1
    · cases h1; unfold maxLen at hc2; omega
  have := Tryz.slices_Delete_int_cells g 0 l.length cap k (k + 1) (ntI l) w (by rw [ntI_len]; exact Nat.le_refl _) hcap hmx (by omega) (by omega) (own_cells h) (fun j hj => by rw [Nat.zero_add]; exact h.free j)
  rw [show ((k + 1 : Nat) : Int) = (k : Int) + 1 by omega] at this
  refine this.mono ?_
  rintro e w' ⟨rfl, q, rfl⟩
  rw [show k + 1 - k = 1 by omega]
  refine ⟨rfl, ?_⟩
  have e1 : (((ntI l).take l.length).take k ++ ((ntI l).take l.length).drop (k + 1) ++ List.replicate 1 0).map (Value.int .i64) = (l.take k ++ l.drop (k + 1) ++ [0]).map natf := by
    rw [List.take_of_length_le (l := ntI l) (by rw [ntI_len]; exact Nat.le_refl _), ← natf_map]
    unfold ntI
    simp
  rw [e1]
  have e2 : (l.take k ++ l.drop (k + 1) ++ [0]).length = l.length := by simp; omega
  have e3 : (l.take k ++ l.drop (k + 1) ++ [0]).take (l.length - 1) = l.eraseIdx k := by
    rw [List.eraseIdx_eq_take_drop_succ, List.take_append_of_le_length (by simp; omega), List.take_of_length_le (by simp; omega)]
  rw [← e3]
  exact own_setCells h q _ _ e2 (by rw [e2]; omega)
theorem reverse_nat (g cap B : Nat) (l : List Nat) (w : World) (h : Own w B 3 natf (.slice (some ⟨g, 0, none⟩) l.length cap) l) (hl : l.length ≤ 1000) :
    Calls Tryz.prog 94 #[.slice (some ⟨g, 0, none⟩) l.length cap] w fun e w' => e = .returned (.tuple #[]) ∧ Own w' B 3 natf (.slice (some ⟨g, 0, none⟩) l.length cap) l.reverse ∧ w.grownBy w' (some g) := by
  refine (Tryz.slices_Reverse_int_cells g 0 l.length cap (ntI l) w (by rw [ntI_len]; exact Nat.le_refl _) (by omega) (own_cells h) (fun j hj => by rw [Nat.zero_add]; exact h.free j)).mono ?_
  rintro e w' ⟨rfl, q, rfl⟩
  refine ⟨rfl, ?_⟩
  have e1 : (((ntI l).take l.length).reverse).map (Value.int .i64) = l.reverse.map natf := by
    rw [List.take_of_length_le (l := ntI l) (by rw [ntI_len]; exact Nat.le_refl _)]
    unfold ntI natf
    simp
  rw [e1]
  have h2 := own_setCells h q l.reverse l.length (List.length_reverse ..) (by simp)
  rw [List.take_of_length_le (by simp)] at h2
  exact h2

/-! ### what is left, and what is picked -/
theorem erase_wo {l : List Nat} (hn : l.Nodup) : ∀ {k i : Nat}, l[k]? = some i → l.eraseIdx k = woN l i := by
  induction l with
  | nil => intro k i h; simp at h
  | cons a l ih =>
    intro k i h
    obtain ⟨h1, h2⟩ := List.nodup_cons.1 hn
    cases k with
    | zero =>
      simp at h
      subst h
      unfold woN
      rw [List.filter_cons_of_neg (by simp), List.eraseIdx_cons_zero]
      symm
      rw [List.filter_eq_self]
      intro x hx
      simp only [ne_eq, decide_not, Bool.not_eq_true', decide_eq_false_iff_not]
      intro e; subst e; exact h1 hx
    | succ k =>
      rw [List.getElem?_cons_succ] at h
      have hi := List.mem_of_getElem? h
      unfold woN
      rw [List.eraseIdx_cons_succ, List.filter_cons_of_pos (by simp only [decide_eq_true_eq]; intro e; subst e; exact h1 hi), ih h2 h]
      rfl
theorem pick_yes {L : List (List Bx)} {Z : List Int} {left pre rest : List Nat} {i : Nat} (h : left.reverse = pre ++ i :: rest) (hno : ∀ x ∈ pre, (wysF L Z left x).isEmpty = true) (hi : (wysF L Z left i).isEmpty = false) : pickF L Z left = some i := by
  unfold pickF
  rw [h, List.find?_append]
  have h1 : pre.find? (fun i => !(wysF L Z left i).isEmpty) = none := by
    rw [List.find?_eq_none]
    intro x hx
    rw [hno x hx]; simp
  rw [h1, Option.none_or, List.find?_cons_of_pos (by rw [hi]; rfl)]
theorem pick_no {L : List (List Bx)} {Z : List Int} {left : List Nat} (hno : ∀ x ∈ left, (wysF L Z left x).isEmpty = true) : pickF L Z left = none := by
  unfold pickF
  rw [List.find?_eq_none]
  intro x hx
  rw [hno x (List.mem_reverse.1 hx)]; simp
theorem step_pick {L : List (List Bx)} {Z : List Int} {s : FrS} {i : Nat} (h : pickF L Z s.left = some i) : stepF L Z s = some ⟨woN s.left i, s.ord ++ [i], s.ax.set i ((wysF L Z s.left i).headD 0)⟩ := by unfold stepF; rw [h]
theorem step_stuck {L : List (List Bx)} {Z : List Int} {s : FrS} (h : pickF L Z s.left = none) : stepF L Z s = none := by unfold stepF; rw [h]
theorem freeTo_succ {L : List (List Bx)} {Z : List Int} {n k : Nat} {s : FrS} (h : freeTo L Z n k = some s) : freeTo L Z n (k + 1) = stepF L Z s := by
  show (match freeTo L Z n k with | none => none | some s => stepF L Z s) = _
  rw [h]
/-- The others may be asked of. -/
theorem ways_ok {n i : Nat} {left : List Nat} (hn : left.Nodup) (hlt : ∀ x ∈ left, x < n) (hi : i < n) : othE (n : Int) (i : Int) 1 (ntI (woN left i)) = 0 := by
  refine othE_ok ?_ (by rfl) ?_
  · rw [List.all_eq_true]
    intro x hx
    unfold inR
    rw [decide_eq_true_eq]
    rcases List.mem_cons.1 hx with rfl | h
    · omega
    · unfold ntI at h
      obtain ⟨k, hk, rfl⟩ := List.mem_map.1 h
      have := hlt k (woN_mem.1 hk).1
      omega
  · rw [List.nodup_cons]
    constructor
    · intro h
      unfold ntI at h
      obtain ⟨k, hk, e⟩ := List.mem_map.1 h
      exact (woN_mem.1 hk).2 (by omega)
    · unfold ntI woN
      exact List.Pairwise.map _ (fun a b h e => h (by omega)) (hn.sublist List.filter_sublist)

/-! ### several ranges over functions: several marks -/
def marks (Ds : List Nat) : List Deferred := Ds.map fun D => { target := .collected D, args := #[] }
def MarksOk (B : Nat) (Ds : List Nat) (W : World) : Prop := Ds.Nodup ∧ ∀ D ∈ Ds, B ≤ D ∧ W.heap[D]? = some (.deferred (some []))
theorem MarksOk.nil (B : Nat) (W : World) : MarksOk B [] W := ⟨List.nodup_nil, fun D h => by simp at h⟩
theorem MarksOk.cons {B : Nat} {Ds : List Nat} {W : World} {D : Nat} (h : MarksOk B Ds W) (hB : B ≤ D) (hD : W.heap[D]? = some (.deferred (some []))) (hn : D ∉ Ds) : MarksOk B (D :: Ds) W :=
  ⟨List.nodup_cons.2 ⟨hn, h.1⟩, fun E hE => by
    rcases List.mem_cons.1 hE with rfl | h2
    · exact ⟨hB, hD⟩
    · exact h.2 E h2⟩
theorem MarksOk.grown {B : Nat} {Ds : List Nat} {W W' : World} {r : Option Nat} (h : MarksOk B Ds W) (hg : W.grownBy W' r) (hr : ∀ g, r = some g → ∃ o : Obj, W.heap[g]? = some o ∧ o.isCells = true) : MarksOk B Ds W' :=
  ⟨h.1, fun D hD => ⟨(h.2 D hD).1, by
    have h1 := (h.2 D hD).2
    refine (hg.block D (Array.getElem?_eq_some_iff.1 h1).1 (fun e => ?_)).trans h1
    obtain ⟨o, ho, hc⟩ := hr D e.symm
    rw [h1] at ho; cases ho; cases hc⟩⟩
theorem MarksOk.below {B : Nat} {Ds : List Nat} {W W' : World} (h : MarksOk B Ds W) (hb : Below W.heap.size W W') : MarksOk B Ds W' :=
  ⟨h.1, fun D hD => ⟨(h.2 D hD).1, (hb.block D (Array.getElem?_eq_some_iff.1 (h.2 D hD).2).1).trans (h.2 D hD).2⟩⟩
theorem MarksOk.lt {B : Nat} {Ds : List Nat} {W : World} (h : MarksOk B Ds W) {D : Nat} (hD : D ∈ Ds) : D < W.heap.size := (Array.getElem?_eq_some_iff.1 (h.2 D hD).2).1
theorem leaves_many {P : Program} {fn : Func} {R : Ending → World → Prop} {tmps : Array Value} {B : Nat} {Φ : World → Prop}
    (hΦ : ∀ W D, B ≤ D → Φ W → W.heap[D]? = some (.deferred (some [])) → Φ (W.putObj D (.deferred none)))
    (hR : ∀ W, Φ W → ∃ v, (results fn tmps).run P W = .ok v W ∧ R (.returned v) W) :
    ∀ (Ds : List Nat) (W : World), MarksOk B Ds W → Φ W → LeavesInM Fence.wide 5 P fn tmps R (marks Ds) .returning W
  | [], W, _, h => hR W h
  | D :: Ds, W, hm, h => by
    obtain ⟨h1, h2⟩ := List.nodup_cons.1 hm.1
    obtain ⟨hB, hD⟩ := hm.2 D List.mem_cons_self
    refine ⟨by simp, .inl ⟨D, _, rfl, run_takeDeferred hD, ?_⟩⟩
    refine leaves_many hΦ hR Ds _ ⟨h2, fun E hE => ⟨(hm.2 E (List.mem_cons_of_mem _ hE)).1, ?_⟩⟩ (hΦ W D hB h hD)
    exact (World.putObj_heap_other (by rintro rfl; exact h1 hE)).trans (hm.2 E (List.mem_cons_of_mem _ hE)).2
theorem marks_end {P : Program} {fn : Func} {R : Ending → World → Prop} {a : Act} {W : World} {Ds : List Nat} (B : Nat) (Φ : World → Prop) (hd : a.defers = marks Ds) (hm : MarksOk B Ds W) (h : Φ W)
    (hΦ : ∀ W D, B ≤ D → Φ W → W.heap[D]? = some (.deferred (some [])) → Φ (W.putObj D (.deferred none)))
    (hR : ∀ W, Φ W → ∃ v, (results fn a.tmps).run P W = .ok v W ∧ R (.returned v) W) : bodyPostM Fence.wide 5 P fn R .ret a W := by
  show LeavesInM Fence.wide 5 P fn a.tmps R a.defers .returning W
  rw [hd]
  exact leaves_many hΦ hR Ds W hm h
theorem own_own {α : Type} {W W' : World} {row : Option Nat} {B : Nat} {e : TypeId} {f : α → Value} {v : Value} {l : List α} (h : Own W B e f v l) (hg : W.grownBy W' row) (hr : ∀ r, row = some r → ∃ o : Obj, W.heap[r]? = some o ∧ o.isCells = false) : Own W' B e f v l := by
  refine h.only hg (fun g hgv e => ?_)
  obtain ⟨o, ho, hc⟩ := hr g e.symm
  rcases h.2 with ⟨h', _⟩ | ⟨g', cap', cur, h', hb, hh, _⟩
  · rw [h'] at hgv; cases hgv
  · rw [h'] at hgv; cases hgv
    rw [hh] at ho; cases ho; cases hc
/-- The three cells of the results. -/
structure FrO (w : World) (X : Nat) (o a : Value) (er : Int) (W : World) : Prop where
  below : Below w.heap.size w W
  b4 : BlkIs W (X + 2) 24 #[o]
  b5 : BlkIs W (X + 3) 24 #[a]
  b6 : BlkIs W (X + 4) 27 #[.int .i64 er]
theorem FrO.store3 {w W : World} {X : Nat} {o a : Value} {er : Int} (h : FrO w X o a er W) (hX : w.heap.size ≤ X) (o' a' : Value) (er' : Int) :
    FrO w X o' a' er' (((W.setCell ⟨X + 1 + 1, 0, none⟩ o').setCell ⟨X + 1 + 1 + 1, 0, none⟩ a').setCell ⟨X + 1 + 1 + 1 + 1, 0, none⟩ (.int .i64 er')) where
  below := ((h.below.setCell (by show w.heap.size ≤ X + 1 + 1; omega) _).setCell (by show w.heap.size ≤ X + 1 + 1 + 1; omega) _).setCell (by show w.heap.size ≤ X + 1 + 1 + 1 + 1; omega) _
  b4 := ((h.b4.set 0 o').far (p := ⟨X + 1 + 1 + 1, 0, none⟩) (by show X + 2 ≠ X + 1 + 1 + 1; omega) _).far (p := ⟨X + 1 + 1 + 1 + 1, 0, none⟩) (by show X + 2 ≠ X + 1 + 1 + 1 + 1; omega) _
  b5 := ((h.b5.far (p := ⟨X + 1 + 1, 0, none⟩) (by show X + 3 ≠ X + 1 + 1; omega) _).set 0 a').far (p := ⟨X + 1 + 1 + 1 + 1, 0, none⟩) (by show X + 3 ≠ X + 1 + 1 + 1 + 1; omega) _
  b6 := ((h.b6.far (p := ⟨X + 1 + 1, 0, none⟩) (by show X + 4 ≠ X + 1 + 1; omega) _).far (p := ⟨X + 1 + 1 + 1, 0, none⟩) (by show X + 4 ≠ X + 1 + 1 + 1; omega) _).set 0 _
theorem FrO.put {w W : World} {X D : Nat} {o a : Value} {er : Int} (h : FrO w X o a er W) (hB : w.heap.size ≤ D) (hD : W.heap[D]? = some (.deferred (some []))) : FrO w X o a er (W.putObj D (.deferred none)) := by
  have hr : ∀ r, some D = some r → ∃ o : Obj, W.heap[r]? = some o ∧ o.isCells = false := fun r e => by cases e; exact ⟨_, hD, rfl⟩
  have hg := grownBy_putObj' W D (Obj.deferred none)
  exact ⟨below_put h.below hB, blk_own h.b4 hg hr, blk_own h.b5 hg hr, blk_own h.b6 hg hr⟩
/-- The function's results: three cells. -/
theorem free_res {tmps : Array Value} {W : World} {R : Nat} {o a : Value} {er : Int} (h4 : tmps.getD 4 undef = .pointer (some ⟨R, 0, none⟩)) (h5 : tmps.getD 5 undef = .pointer (some ⟨R + 1, 0, none⟩)) (h6 : tmps.getD 6 undef = .pointer (some ⟨R + 2, 0, none⟩))
    (b4 : BlkIs W R 24 #[o]) (b5 : BlkIs W (R + 1) 24 #[a]) (b6 : BlkIs W (R + 2) 27 #[.int .i64 er]) : (results Tryz.f46 tmps).run Tryz.prog W = .ok (.tuple #[o, a, .int .i64 er]) W := by
  have c1 := b4.cell 0
  have c2 := b5.cell 0
  have c3 := b6.cell 0
  simp at h4 h5 h6 c1 c2 c3
  simp [results, Tryz.results46, go_sem, h4, h5, h6, c1, c2, c3]
end
section
open Go.RowKit Go.Shelf
set_option linter.unusedVariables false
set_option linter.unusedSimpArgs false
attribute [local go_sem ↓] Go.wp_at_zero Go.wp_at_succ
attribute [local go_sem] Oper.semAt_some
set_option maxRecDepth 100000 in
set_option maxHeartbeats 2000000 in
theorem sfree_bad (v vr : Value) (l : List BarD) (rs : List RunD) (w : World) (hA : SqA w v vr l rs) (h : laidOk l rs = false) :
    Calls Tryz.prog 46 #[v, vr] w fun e w' => e = .returned (.tuple #[.slice none 0 0, .slice none 0 0, .int .i64 1]) ∧ Below w.heap.size w w' := by
  have HC := Lib.hid (fun W (hW : Below w.heap.size w W) => count_bad v vr l rs W (hA.hp.below hW) (hA.hr.below hW) hA.hl hA.hlr hA.hf h)
  obtain ⟨ao, cap, rfl⟩ := hA.hp.at_
  obtain ⟨ro, rcap, rfl⟩ := hA.hr.at_
  clear hA h
  refine calls_marks Tryz.func46 rfl ?_
  simp only [Tryz.ntmps46, List.size_toArray, List.length_cons, List.length_nil, Nat.reduceAdd, Nat.reduceSub, Array.replicate_succ, Array.replicate_zero, List.push_toArray, List.append_toArray, List.nil_append, List.cons_append]
  go_wp2_with fail
  go_step3
  go_wp2_with fail
  refine (HC.out _ (by go_grown)).mono ?_
  rintro e w1 ⟨rfl, hb1⟩
  obtain ⟨hc, hf1⟩ := bcell hb1
  have hz4 : w.heap.size + 1 + 1 + 1 + 1 < w1.heap.size := by have := hb1.size; simp at this; omega
  have hz : w.heap.size + 1 + 1 < w1.heap.size := by omega
  have hz3 : w.heap.size + 1 + 1 + 1 < w1.heap.size := by omega
  have HO : Hid (FrO w w.heap.size (.slice none 0 0) (.slice none 0 0) 0 w1) := by
    have h4 := (((BlkIs.new ((w.alloc (.cells #[.slice ao l.length cap] 22)).alloc (.cells #[.slice ro rs.length rcap] 23)) #[.slice none 0 0] 24).alloc (.cells #[.slice none 0 0] 24)).alloc (.cells #[.int .i64 0] 27)).below hb1
    have h5 := ((BlkIs.new (((w.alloc (.cells #[.slice ao l.length cap] 22)).alloc (.cells #[.slice ro rs.length rcap] 23)).alloc (.cells #[.slice none 0 0] 24)) #[.slice none 0 0] 24).alloc (.cells #[.int .i64 0] 27)).below hb1
    have h6 := (BlkIs.new ((((w.alloc (.cells #[.slice ao l.length cap] 22)).alloc (.cells #[.slice ro rs.length rcap] 23)).alloc (.cells #[.slice none 0 0] 24)).alloc (.cells #[.slice none 0 0] 24)) #[.int .i64 0] 27).below hb1
    simp only [World.size_alloc] at h4 h5 h6
    exact ⟨bstep (by go_grown) hb1, h4, h5, h6⟩
  clear hb1
  go_wp2
  rw [Exit.noGoto_ret]
  first | go_big_open | refine ‹∀ (e : Exit) (a : Act) (w' : World), bodyPostM Fence.wide 5 _ _ _ e a w' → _› _ _ _ ?_
  refine marks_end (Ds := []) w.heap.size (FrO w w.heap.size (.slice none 0 0) (.slice none 0 0) 1) rfl (MarksOk.nil _ _) (FrO.store3 HO.out (Nat.le_refl _) _ _ _) (fun W D hB h hD => h.put hB hD) ?_
  rintro W h
  exact ⟨_, free_res rfl rfl rfl h.b4 h.b5 h.b6, rfl, h.below⟩
end
end Go.Proofs.YthmlejijfgbfbaaGreat
