/-
  sequence.Free: the walk (printed by wip/gen_Sqh.py).
-/
import Derived.Test.YthmlejijfgbfbaaGreatSqk
namespace Go.Proofs.YthmlejijfgbfbaaGreat
section
open Go.RowKit Go.Shelf
set_option linter.unusedVariables false
set_option linter.unusedSimpArgs false

structure FrB (w : World) (X Y Z n : Nat) (v vr : Value) (s : FrS) (vL vO : Value) (Ds : List Nat) (W : World) : Prop where
  out : FrO w X (.slice none 0 0) (.slice none 0 0) 0 W
  b2 : BlkIs W X 22 #[v]
  b3 : BlkIs W (X + 1) 23 #[vr]
  b9 : BlkIs W Y 24 #[vL]
  b10 : BlkIs W (Y + 1) 24 #[vO]
  b12 : BlkIs W (Z + 1) 24 #[.slice (some ⟨Z, 0, none⟩) n n]
  ax : Own W Z 3 intf (.slice (some ⟨Z, 0, none⟩) n n) s.ax
  ord : Own W (Z + 2) 3 natf vO s.ord
  left : Own W (Y + 2) 3 natf vL s.left
  mks : MarksOk w.heap.size Ds W
theorem FrO.keep {w W W' : World} {X : Nat} {o a : Value} {er : Int} (h : FrO w X o a er W) (hb : Below W.heap.size W W') : FrO w X o a er W' :=
  ⟨bstep h.below hb, h.b4.below hb, h.b5.below hb, h.b6.below hb⟩
theorem FrB.after {w : World} {X Y Z n : Nat} {v vr : Value} {s : FrS} {vL vO : Value} {Ds : List Nat} {W W' : World} (h : FrB w X Y Z n v vr s vL vO Ds W) (hb : Below W.heap.size W W') : FrB w X Y Z n v vr s vL vO Ds W' :=
  ⟨h.out.keep hb, h.b2.below hb, h.b3.below hb, h.b9.below hb, h.b10.below hb, h.b12.below hb, h.ax.below hb, h.ord.below hb, h.left.below hb, h.mks.below hb⟩
theorem FrB.mark {w : World} {X Y Z n : Nat} {v vr : Value} {s : FrS} {vL vO : Value} {Ds : List Nat} {W : World} {D : Nat} (h : FrB w X Y Z n v vr s vL vO Ds W) (hB : w.heap.size ≤ D) (hD : W.heap[D]? = some (.deferred (some []))) (hn : D ∉ Ds) : FrB w X Y Z n v vr s vL vO (D :: Ds) W :=
  { h with mks := h.mks.cons hB hD hn }
/-- A block of the range's own book-keeping is written. -/
theorem FrB.own {w : World} {X Y Z n : Nat} {v vr : Value} {s : FrS} {vL vO : Value} {Ds : List Nat} {W W' : World} {row : Option Nat} {N : Nat} (h : FrB w X Y Z n v vr s vL vO Ds W) (hg : W.grownBy W' row) (hX : w.heap.size ≤ N) (hD : ∀ D ∈ Ds, D < N) (hr : ∀ r, row = some r → N ≤ r ∧ ∃ o : Obj, W.heap[r]? = some o ∧ o.isCells = false) : FrB w X Y Z n v vr s vL vO Ds W' := by
  have hr' : ∀ r, row = some r → ∃ o : Obj, W.heap[r]? = some o ∧ o.isCells = false := fun r e => (hr r e).2
  refine ⟨⟨h.out.below.grown hg h.out.below.size (fun g e => by have := (hr g e).1; omega), blk_own h.out.b4 hg hr', blk_own h.out.b5 hg hr', blk_own h.out.b6 hg hr'⟩, blk_own h.b2 hg hr', blk_own h.b3 hg hr', blk_own h.b9 hg hr', blk_own h.b10 hg hr', blk_own h.b12 hg hr', own_own h.ax hg hr', own_own h.ord hg hr', own_own h.left hg hr', h.mks.1, fun D hDm => ⟨(h.mks.2 D hDm).1, (hg.block D (h.mks.lt hDm) (fun e => ?_)).trans (h.mks.2 D hDm).2⟩⟩
  have := (hr D e.symm).1
  have := hD D hDm
  omega
/-- A write into a row of cells behind the boxes. -/
theorem FrO.grown {w W W' : World} {X : Nat} {o a : Value} {er : Int} {r : Option Nat} (h : FrO w X o a er W) (hX : w.heap.size ≤ X) (hg : W.grownBy W' r) (hr : ∀ g, r = some g → X + 5 ≤ g) : FrO w X o a er W' := by
  refine ⟨h.below.grown hg h.below.size (fun g e => by have := hr g e; omega), h.b4.else_ hg ?_, h.b5.else_ hg ?_, h.b6.else_ hg ?_⟩
  all_goals (intro e; have := hr _ e.symm; omega)
theorem ntq {a b : Nat} (h : a ≠ b) : some a ≠ some b := fun e => h (Option.some.inj e)
/-- The pick: the axis is stored, and what is left. -/
theorem FrB.take {w : World} {X Y Z n : Nat} {v vr : Value} {s : FrS} {vL vL' vO : Value} {Ds : List Nat} {W : World} {left' : List Nat} (h : FrB w X Y Z n v vr s vL vO Ds W) (hX : w.heap.size = X) (hY : X + 5 ≤ Y) (hZ : Y + 2 ≤ Z)
    (hv : Own W (Z + 2) 3 natf vL' left') (q i : Nat) (x : Int) :
    FrB w X Y Z n v vr ⟨left', s.ord, s.ax.set i x⟩ vL' vO Ds (((W.drewN q).setCell ⟨Z, i, none⟩ (.int .i64 x)).setCell ⟨Y, 0, none⟩ vL') := by
  obtain ⟨W1, hW1⟩ : ∃ W1, (W.drewN q).setCell ⟨Z, i, none⟩ (.int .i64 x) = W1 := ⟨_, rfl⟩
  have g1 : W.grownBy W1 (some Z) := by rw [← hW1]; exact only_next (only_draw (only_refl W (some Z)) q) (only_set _ _ _ _) (.inl rfl)
  have g2 := only_set W1 Y 0 vL'
  have ha : Own W1 Z 3 intf (.slice (some ⟨Z, 0, none⟩) n n) (s.ax.set i x) := by rw [← hW1]; exact (h.ax.drawN q).set i x
  have k9 := h.b9.else_ g1 (ntq (by omega))
  have m1 : MarksOk w.heap.size Ds W1 := h.mks.grown g1 (fun g e => by
    cases e
    rcases h.ax.2 with ⟨h1, _⟩ | ⟨g', cap', cur, h1, _, hh, _⟩
    · cases h1
    · cases h1; exact ⟨_, hh, rfl⟩)
  rw [hW1]
  refine ⟨(h.out.grown (by omega) g1 (fun g e => by cases e; omega)).grown (by omega) g2 (fun g e => by cases e; omega), (h.b2.else_ g1 (ntq (by omega))).else_ g2 (ntq (by omega)), (h.b3.else_ g1 (ntq (by omega))).else_ g2 (ntq (by omega)), k9.set 0 vL', (h.b10.else_ g1 (ntq (by omega))).else_ g2 (ntq (by omega)), (h.b12.else_ g1 (ntq (by omega))).else_ g2 (ntq (by omega)), ha.only g2 ?_, (h.ord.only g1 ?_).only g2 ?_, ((hv.only g1 ?_).only g2 ?_).mono (by omega), m1.grown g2 (fun g e => by cases e; exact ⟨_, k9, rfl⟩)⟩
  · intro g e; obtain rfl : Z = g := Option.some.inj e; exact ntq (by omega)
  all_goals (intro g e e2; cases e2; first | (have := (h.ord.lt _ e).1; omega) | (have := (hv.lt _ e).1; omega))
/-- .. and the order's new last. -/
theorem FrB.push {w : World} {X Y Z n : Nat} {v vr : Value} {s : FrS} {vL vO v' : Value} {Ds : List Nat} {W W' : World} {ord' : List Nat} (h : FrB w X Y Z n v vr s vL vO Ds W) (hX : w.heap.size = X) (hY : X + 5 ≤ Y) (hZ : Y + 2 ≤ Z)
    (hap : ∀ g, vL.ownBlock = some g → some g ≠ vO.ownBlock) (hown : Own W' (Z + 2) 3 natf v' ord') (hg : W.grownBy W' vO.ownBlock) :
    FrB w X Y Z n v vr ⟨s.left, ord', s.ax⟩ vL v' Ds (W'.setCell ⟨Y + 1, 0, none⟩ v') := by
  have g2 := only_set W' (Y + 1) 0 v'
  have hr : ∀ g, vO.ownBlock = some g → Z + 2 ≤ g := fun g e => (h.ord.lt g e).1
  have hc : ∀ g, vO.ownBlock = some g → ∃ o : Obj, W.heap[g]? = some o ∧ o.isCells = true := fun g e => by
    rcases h.ord.2 with ⟨h1, _⟩ | ⟨g', cap', cur, h1, _, hh, _⟩
    · rw [h1] at e; cases e
    · rw [h1] at e; cases e; exact ⟨_, hh, rfl⟩
  have ne : ∀ k, k < Z + 2 → some k ≠ vO.ownBlock := fun k hk e => by have := hr k e.symm; omega
  have k10 := h.b10.else_ hg (ne _ (by omega))
  have m1 := h.mks.grown hg hc
  have nt : ∀ {k : Nat}, k ≠ Y + 1 → some k ≠ some (Y + 1) := fun hk e => by cases e; exact hk rfl
  refine ⟨(h.out.grown (by omega) hg (fun g e => by have := hr g e; omega)).grown (by omega) g2 (fun g e => by cases e; omega), (h.b2.else_ hg (ne _ (by omega))).else_ g2 (nt (by omega)), (h.b3.else_ hg (ne _ (by omega))).else_ g2 (nt (by omega)), (h.b9.else_ hg (ne _ (by omega))).else_ g2 (nt (by omega)), k10.set 0 v', (h.b12.else_ hg (ne _ (by omega))).else_ g2 (nt (by omega)), (h.ax.only hg ?_).only g2 ?_, hown.only g2 ?_, (h.left.only hg hap).only g2 ?_, m1.grown g2 (fun g e => by cases e; exact ⟨_, k10, rfl⟩)⟩
  · intro g e; obtain rfl : Z = g := Option.some.inj e; exact ne _ (by omega)
  · intro g e; obtain rfl : Z = g := Option.some.inj e; exact ntq (by omega)
  · intro g e e2; cases e2; have := (hown.lt _ e).1; omega
  · intro g e e2; cases e2; have := (h.left.lt _ e).1; omega
/-- While what is left is laid. -/
structure FrL (w : World) (X Y k : Nat) (v vr vL : Value) (W : World) : Prop where
  out : FrO w X (.slice none 0 0) (.slice none 0 0) 0 W
  b2 : BlkIs W X 22 #[v]
  b3 : BlkIs W (X + 1) 23 #[vr]
  b9 : BlkIs W Y 24 #[vL]
  b10 : BlkIs W (Y + 1) 24 #[.slice none 0 0]
  left : Own W (Y + 2) 3 natf vL (List.range k)
theorem FrL.after {w : World} {X Y k : Nat} {v vr vL : Value} {W W' : World} (h : FrL w X Y k v vr vL W) (hb : Below W.heap.size W W') : FrL w X Y k v vr vL W' :=
  ⟨h.out.keep hb, h.b2.below hb, h.b3.below hb, h.b9.below hb, h.b10.below hb, h.left.below hb⟩
theorem FrL.push {w : World} {X Y k : Nat} {v vr vL v' : Value} {W W' : World} (h : FrL w X Y k v vr vL W) (hX : w.heap.size = X) (hY : X + 5 ≤ Y) (hown : Own W' (Y + 2) 3 natf v' (List.range k ++ [k])) (hg : W.grownBy W' vL.ownBlock) :
    FrL w X Y (k + 1) v vr v' (W'.setCell ⟨Y, 0, none⟩ v') := by
  have g2 := only_set W' Y 0 v'
  have hr : ∀ g, vL.ownBlock = some g → Y + 2 ≤ g := fun g e => (h.left.lt g e).1
  have ne : ∀ k, k < Y + 2 → some k ≠ vL.ownBlock := fun k hk e => by have := hr k e.symm; omega
  have nt : ∀ {k : Nat}, k ≠ Y → some k ≠ some Y := fun hk e => by cases e; exact hk rfl
  refine ⟨(h.out.grown (by omega) hg (fun g e => by have := hr g e; omega)).grown (by omega) g2 (fun g e => by cases e; omega), (h.b2.else_ hg (ne _ (by omega))).else_ g2 (nt (by omega)), (h.b3.else_ hg (ne _ (by omega))).else_ g2 (nt (by omega)), (h.b9.else_ hg (ne _ (by omega))).set 0 v', (h.b10.else_ hg (ne _ (by omega))).else_ g2 (nt (by omega)), ?_⟩
  rw [List.range_succ]
  refine hown.only g2 (fun g e e2 => ?_)
  cases e2
  have := (hown.lt _ e).1
  omega
/-- A loop whose frame is told by a function of the slots. -/
theorem wp_loop_frame {P : Program} {Q : Exit → Act → World → Prop} {T : List Value} {ds : List Deferred} {w : World} {c : Code} (I : Nat → (Nat → Value) → Act → World → Prop) (n₀ : Nat)
    (h₀ : I n₀ (fun k => T.getD k undef) { tmps := T.toArray, defers := ds } w)
    (round : ∀ m u a w, I m u a w → ∀ (J : Nat → Act → World → Prop) (K : Act → World → Prop), (∀ k (T : List Value) ds w', I k (fun k => T.getD k undef) { tmps := T.toArray, defers := ds } w' → J k { tmps := T.toArray, defers := ds } w') → (∀ a' w', Handed J m a' w' → K a' w') → c.wp P (Exit.then K Q) a w) :
    (Code.loop c).wp P Q { tmps := T.toArray, defers := ds } w := by
  refine wp_loop_ghost_k (fun m a W => ∃ u, I m u a W) n₀ ⟨_, h₀⟩ ?_
  rintro m a W ⟨u, h⟩ J K hJ hK
  exact round m u a W h J K (fun k T ds w' h => hJ _ _ _ ⟨_, h⟩) hK
theorem upto_rev {m : Nat} {left : List Nat} {nd : Fin m → Nat} {gg : Nat → Fin m} (hm : left.length = m) (hgg : ∀ j, j < m → (gg j).1 = j) (hnd : ∀ j, left[j.1]? = some (nd j)) (k : Nat) (hk : k ≤ m) : (upto (bwf gg m) k).map nd = left.reverse.take k := by
  refine List.ext_getElem? fun i => ?_
  by_cases hi : i < k
  · rw [List.getElem?_take_of_lt hi, List.getElem?_reverse (by omega), List.getElem?_map, upto, List.getElem?_map, List.getElem?_range hi]
    have := hnd (bwf gg m i)
    unfold bwf at this ⊢
    rw [hgg _ (by omega)] at this
    simp only [Option.map_some, hm]
    exact this.symm
  · rw [List.getElem?_eq_none (by simp [upto]; omega), List.getElem?_eq_none (by simp; omega)]
theorem rev_any (v : Value) (B : Nat) (l : List Nat) (w : World) (h : Own w B 3 natf v l) (hl : l.length ≤ 1000) :
    Calls Tryz.prog 94 #[v] w fun e w' => e = .returned (.tuple #[]) ∧ Own w' B 3 natf v l.reverse ∧ w.grownBy w' v.ownBlock := by
  rcases h.2 with ⟨h1, h2⟩ | ⟨g, cap, cur, h1, _⟩
  · have hl0 : l = [] := List.eq_nil_of_length_eq_zero h2
    subst hl0
    subst h1
    refine (Tryz.slices_Reverse_int_empty none 0 w).mono ?_
    rintro e w' ⟨rfl, rfl⟩
    exact ⟨rfl, h, only_refl _ _⟩
  · subst h1
    exact reverse_nat g cap B l w h hl
/-- The end: what is read when all are out. -/
structure FrE (w : World) (X Y Z n : Nat) (A : List Int) (O : List Nat) (vO : Value) (Ds : List Nat) (W : World) : Prop where
  out : FrO w X (.slice none 0 0) (.slice none 0 0) 0 W
  b10 : BlkIs W (Y + 1) 24 #[vO]
  b12 : BlkIs W (Z + 1) 24 #[.slice (some ⟨Z, 0, none⟩) n n]
  ax : Own W Z 3 intf (.slice (some ⟨Z, 0, none⟩) n n) A
  ord : Own W (Z + 2) 3 natf vO O
  mks : MarksOk w.heap.size Ds W
theorem FrB.turn {w : World} {X Y Z n : Nat} {v vr : Value} {s : FrS} {vL vO : Value} {Ds : List Nat} {W W' : World} {ord' : List Nat} (h : FrB w X Y Z n v vr s vL vO Ds W) (hX : w.heap.size = X) (hY : X + 5 ≤ Y) (hZ : Y + 2 ≤ Z)
    (hown : Own W' (Z + 2) 3 natf vO ord') (hg : W.grownBy W' vO.ownBlock) : FrE w X Y Z n s.ax ord' vO Ds W' := by
  have hr : ∀ g, vO.ownBlock = some g → Z + 2 ≤ g := fun g e => (h.ord.lt g e).1
  have hc : ∀ g, vO.ownBlock = some g → ∃ o : Obj, W.heap[g]? = some o ∧ o.isCells = true := fun g e => by
    rcases h.ord.2 with ⟨h1, _⟩ | ⟨g', cap', cur, h1, _, hh, _⟩
    · rw [h1] at e; cases e
    · rw [h1] at e; cases e; exact ⟨_, hh, rfl⟩
  have ne : ∀ k, k < Z + 2 → some k ≠ vO.ownBlock := fun k hk e => by have := hr k e.symm; omega
  refine ⟨h.out.grown (by omega) hg (fun g e => by have := hr g e; omega), h.b10.else_ hg (ne _ (by omega)), h.b12.else_ hg (ne _ (by omega)), h.ax.only hg ?_, hown, h.mks.grown hg hc⟩
  intro g e; obtain rfl : Z = g := Option.some.inj e; exact ne _ (by omega)
theorem wpListIn_pushO {α : Type} {F : Fence} {nF : Nat} {P : Program} (w0 : World) (N : Nat) (hN : w0.heap.size = N) {ops : Array Oper} {rest : List Oper} {o : Oper} {a : Act} {Q : Exit → Act → World → Prop} (hgd : o.guard = none) (s x : Operand) (t : TypeId)
    (ho : o.op = .call { callee := .builtin .append, args := #[s, x], argTypes := #[t, t] })
    (e bytes : Nat) (he : Elem P t e bytes) (base : Nat) (f : α → Value) (v : Value) (l : List α) (y : α) (h1 : (f y).oneCell' = true)
    (hown : Own w0 base e f v l) (hs : a.eval s = v) (hx : a.eval x = .slice (some ⟨N, 0, none⟩) 1 1)
    (h63 : l.length + 1 ≤ 1099511627776) (hby : bytes ≤ 64) (hbase : base ≤ N)
    (hK : ∀ v' w', Own w' base e f v' (l ++ [y]) → w0.grownBy w' v.ownBlock → wpListIn F nF P ops Q rest (a.put o.dst v') w') :
    wpListIn F nF P ops Q (o :: rest) a (w0.alloc (.cells #[f y] e)) := by
  subst hN
  obtain ⟨ht, i, z, hi, hz, hsz, hb, hzs⟩ := he
  have hown1 : (w0.alloc (.cells #[f y] e)).ownsRow base e 1 v l.length (l.map f) := World.ownsRow.alloc hown _
  refine wpListIn_append_own (w0.alloc (.cells #[f y] e)) hgd s x t ho base e i z 1 bytes ht hi hz hsz hb hzs (by omega) v l.length (l.map f) hs hown1 ⟨w0.heap.size, 0, none⟩ 1 1 [f y] hx rfl (by
      intro j u hj
      match j, hj with
      | 0, hj =>
        cases hj
        rw [Addr.add_lit, World.cell?_alloc_at _ _ _ _ rfl]; rfl) (by
      intro u hu
      rw [List.mem_singleton.1 hu]; exact h1) (by unfold maxLen; omega) (by
      have : (l.length + 1) * bytes ≤ 1099511627776 * 64 := Nat.mul_le_mul h63 hby
      omega) (by simp; omega) ?_
  intro v' w' h2 h3 _
  refine hK v' w' ?_ (only_next (World.grownBy_alloc w0 _ v.ownBlock) h3 (.inl rfl))
  unfold Own
  rw [List.length_append, List.map_append]
  exact h2
/-- What Free returns. -/
def FreePost (w : World) (L : List (List Bx)) (Z : List Int) (n : Nat) (e : Ending) (w' : World) : Prop :=
  (∃ s o a, freeTo L Z n n = some s ∧ e = .returned (.tuple #[o, a, .int .i64 0]) ∧ Own w' w.heap.size 3 natf o s.ord.reverse ∧ Own w' w.heap.size 3 intf a s.ax ∧ Below w.heap.size w w') ∨
  (freeTo L Z n n = none ∧ e = .returned (.tuple #[.slice none 0 0, .slice none 0 0, .int .i64 23]) ∧ Below w.heap.size w w')
end

section
open Go.RowKit Go.Shelf
set_option linter.unusedVariables false
set_option linter.unusedSimpArgs false
attribute [local go_sem ↓] Go.wp_at_zero Go.wp_at_succ
attribute [local go_sem] Oper.semAt_some
set_option maxRecDepth 100000 in
set_option maxHeartbeats 4000000 in
theorem sfree_good (v vr : Value) (l : List BarD) (rs : List RunD) (w : World) (hA : SqA w v vr l rs) (h : laidOk l rs = true) :
    Calls Tryz.prog 46 #[v, vr] w (FreePost w (lgsOf l rs) (szsOf l rs) (lgsOf l rs).length) := by
  have h14 := hA.h14 h
  have HC := Lib.hid (fun W (hW : Below w.heap.size w W) => count_good v vr l rs W (hA.hp.below hW) (hA.hr.below hW) hA.hl hA.hlr hA.hf h)
  have hcn : (cumN rs : Int) = ((lgsOf l rs).length : Int) := by rw [lgsOf_len]
  rw [hcn] at HC
  obtain ⟨ao, cap, rfl⟩ := hA.hp.at_
  obtain ⟨ro, rcap, rfl⟩ := hA.hr.at_
  have HWY := Lib.hid (fun (i : Nat) (tv : Value) (T : List Int) W (hW : Below w.heap.size w W) (ht : Ints W tv T) (hT : T.length ≤ 1000000) => waysI_good _ _ (i : Int) tv T l rs W (hA.hp.below hW) (hA.hr.below hW) ht hA.hl hA.hlr hT hA.hf h)
  generalize hL : lgsOf l rs = L at *
  generalize hZ : szsOf l rs = Zs at *
  generalize hn : L.length = n at *
  clear hA h hcn hL hZ
  have HN := Lib.hid hn
  clear hn
  have k1 : decide ((60 : Int) < (n : Int)) = false := dec_no (by omega)
  have k2 : decide (60 < n) = false := dec_no (by omega)
  refine calls_marks Tryz.func46 rfl ?_
  simp only [Tryz.ntmps46, List.size_toArray, List.length_cons, List.length_nil, Nat.reduceAdd, Nat.reduceSub, Array.replicate_succ, Array.replicate_zero, List.push_toArray, List.append_toArray, List.nil_append, List.cons_append]
  go_wp2_with fail
  go_step3
  go_wp2_with fail
  refine (HC.out _ (by go_grown)).mono ?_
  rintro e w1 ⟨rfl, hb1⟩
  have HO1 : Hid (FrO w w.heap.size (.slice none 0 0) (.slice none 0 0) 0 w1 ∧ BlkIs w1 w.heap.size 22 #[.slice ao l.length cap] ∧ BlkIs w1 (w.heap.size + 1) 23 #[.slice ro rs.length rcap]) := by
    have h2 := (((((BlkIs.new w #[.slice ao l.length cap] 22).alloc (.cells #[.slice ro rs.length rcap] 23)).alloc (.cells #[.slice none 0 0] 24)).alloc (.cells #[.slice none 0 0] 24)).alloc (.cells #[.int .i64 0] 27)).below hb1
    have h3 := ((((BlkIs.new (w.alloc (.cells #[.slice ao l.length cap] 22)) #[.slice ro rs.length rcap] 23).alloc (.cells #[.slice none 0 0] 24)).alloc (.cells #[.slice none 0 0] 24)).alloc (.cells #[.int .i64 0] 27)).below hb1
    have h4 := (((BlkIs.new ((w.alloc (.cells #[.slice ao l.length cap] 22)).alloc (.cells #[.slice ro rs.length rcap] 23)) #[.slice none 0 0] 24).alloc (.cells #[.slice none 0 0] 24)).alloc (.cells #[.int .i64 0] 27)).below hb1
    have h5 := ((BlkIs.new (((w.alloc (.cells #[.slice ao l.length cap] 22)).alloc (.cells #[.slice ro rs.length rcap] 23)).alloc (.cells #[.slice none 0 0] 24)) #[.slice none 0 0] 24).alloc (.cells #[.int .i64 0] 27)).below hb1
    have h6 := (BlkIs.new ((((w.alloc (.cells #[.slice ao l.length cap] 22)).alloc (.cells #[.slice ro rs.length rcap] 23)).alloc (.cells #[.slice none 0 0] 24)).alloc (.cells #[.slice none 0 0] 24)) #[.int .i64 0] 27).below hb1
    simp only [World.size_alloc] at h3 h4 h5 h6
    exact ⟨⟨bstep (by go_grown) hb1, h4, h5, h6⟩, h2, h3⟩
  have hz1 : w.heap.size + 5 ≤ w1.heap.size := by have := hb1.size; simp at this; omega
  clear hb1 HC
  obtain ⟨X, hX⟩ : ∃ X, w.heap.size = X := ⟨_, rfl⟩
  obtain ⟨Y, hY⟩ : ∃ Y, w1.heap.size = Y := ⟨_, rfl⟩
  have HXY : Hid (w.heap.size = X ∧ w1.heap.size = Y ∧ X + 5 ≤ Y) := ⟨hX, hY, by omega⟩
  rw [hX] at HO1 hz1
  go_wp2_with fail
  have HL0 : Hid (FrL w X Y 0 (.slice ao l.length cap) (.slice ro rs.length rcap) (.slice none 0 0) ((w1.alloc (.cells #[.slice none 0 0] 24)).alloc (.cells #[.slice none 0 0] 24))) := by
    have hb : Below w1.heap.size w1 ((w1.alloc (.cells #[.slice none 0 0] 24)).alloc (.cells #[.slice none 0 0] 24)) := (below_new _ _).alloc (by simp) _
    have h9 := (BlkIs.new w1 #[.slice none 0 0] 24).alloc (.cells #[.slice none 0 0] 24)
    have h10 := BlkIs.new1 w1 (.cells #[.slice none 0 0] 24) #[.slice none 0 0] 24
    rw [hY] at h9 h10
    exact ⟨HO1.out.1.keep hb, HO1.out.2.1.below hb, HO1.out.2.2.below hb, h9, h10, Own.nil _ _ _ _⟩
  (try rw [hX]); (try rw [hY])
  clear HO1 hX hY hz1
  go_loopw [32] (fun i wr => ∃ k : Nat, k ≤ n ∧ i = .int .i64 (k : Int) ∧ ∃ vL, Hid (FrL w X Y k (.slice ao l.length cap) (.slice ro rs.length rcap) vL wr)) (fun i _ => n - (intOf i).toNat)
  case atStart => exact ⟨0, Nat.zero_le _, rfl, _, HL0⟩
  case round =>
    clear HL0
    obtain ⟨k, hk, rfl, vL, HL⟩ := hrel
    by_cases hkn : k < n
    · obtain ⟨vo, vc, hv⟩ := HL.out.left.shape
      rw [List.length_range] at hv
      subst hv
      have c9 := HL.out.b9.cell 0
      have f9 := HL.out.b9.free 0
      have l9 := HL.out.b9.lt
      have l10 := HL.out.b10.lt
      have hln : (List.range k).length + 1 ≤ 1099511627776 := by rw [List.length_range]; omega
      have HO := Lib.hid HL.out.left
      have hb0 : Y + 2 ≤ wr.heap.size := by omega
      generalize hRk : List.range k = Rk at HO hln
      have HRK := Lib.hid hRk
      clear hRk
      go_wp2_with (at_builtin; refine wpList_pushO wr wr.heap.size rfl rfl _ _ 24 rfl 3 8 elemInt (Y + 2) natf _ _ k rfl HO.out rfl rfl hln (by omega) hb0 ?_; intro v' w' hown' hg' hat'; have HW9 := Lib.hid hown'; have HG9 := Lib.hid hg'; obtain ⟨po, pc, rfl⟩ := hown'.shape; have p9 := (HL.out.b9.else_ hg' (fun e => by have := (HO.out.lt _ e.symm).1; omega)).cell 0; have q9 := (HL.out.b9.else_ hg' (fun e => by have := (HO.out.lt _ e.symm).1; omega)).free 0; clear hown' hat')
      go_roundw
      case rel => exact ⟨k + 1, by omega, by go_num, _, HL.out.push HXY.out.1 HXY.out.2.2 (by have h := HW9.out; rw [List.length_append] at h; rw [HRK.out]; exact h) HG9.out⟩
      case measure => simp [intOf]; omega
    · obtain rfl : n = k := by omega
      have hmk := fun W => run_make_one (P := Tryz.prog) 24 3 8 (.int .i64 0) Tryz.underlying24 (by kernel_rfl) (by omega) n (by omega) W
      obtain ⟨Z, hZ⟩ : ∃ Z, wr.heap.size = Z := ⟨_, rfl⟩
      have hYZ : Hid (Y + 2 ≤ Z) := by have := HL.out.b10.lt; show Y + 2 ≤ Z; omega
      go_wp2_with fail
      (try rw [hZ])
      obtain ⟨W2, hW2⟩ : ∃ W2, ((wr.alloc (.cells (madeCells #[Value.int .i64 0] n) 3)).alloc (.cells #[.slice (some ⟨Z, 0, none⟩) n n] 24)) = W2 := ⟨_, rfl⟩
      have HB0 : Hid (FrB w X Y Z n (.slice ao l.length cap) (.slice ro rs.length rcap) ⟨List.range n, [], List.replicate n 0⟩ vL (.slice none 0 0) [] W2) := by
        have hb : Below wr.heap.size wr W2 := by rw [← hW2]; exact (below_new _ _).alloc (by simp) _
        have h1 := HL.out.after hb
        have ha := (own_made wr 3 intf 0 (.int .i64 0) rfl n (by omega) Z (by omega)).alloc (.cells #[.slice (some ⟨Z, 0, none⟩) n n] 24)
        have h12 := BlkIs.new1 wr (.cells (madeCells #[Value.int .i64 0] n) 3) #[.slice (some ⟨Z, 0, none⟩) n n] 24
        rw [hZ] at ha h12
        rw [← hW2] at h1 ⊢
        exact ⟨h1.out, h1.b2, h1.b3, h1.b9, h1.b10, h12, ha, Own.nil _ _ _ _, h1.left, MarksOk.nil _ _⟩
      rw [hW2]
      clear hW2 hmk HL hk hkn
      go_step3
      go_wp2_with fail
      refine wp_loop_frame (fun m u a W => ∃ s vL vO Ds, a = { tmps := #[u 0, u 1, .pointer (some ⟨X, 0, none⟩), .pointer (some ⟨X + 1, 0, none⟩), .pointer (some ⟨X + 1 + 1, 0, none⟩), .pointer (some ⟨X + 1 + 1 + 1, 0, none⟩), .pointer (some ⟨X + 1 + 1 + 1 + 1, 0, none⟩), .int .i64 (n : Int), u 8, .pointer (some ⟨Y, 0, none⟩), .pointer (some ⟨Y + 1, 0, none⟩), u 11, .pointer (some ⟨Z + 1, 0, none⟩), u 13, u 14, u 15, u 16, u 17, u 18, u 19, u 20, u 21, u 22, u 23, u 24, u 25, u 26, u 27, u 28, u 29, u 30, u 31, u 32, u 33, u 34, u 35, u 36, u 37, u 38, u 39, u 40, u 41, u 42, u 43, u 44, u 45, u 46, u 47, u 48, u 49, u 50, u 51, u 52, u 53, u 54, u 55, u 56, u 57, u 58, u 59, u 60, u 61, u 62, u 63, u 64, u 65, u 66, u 67, u 68, u 69, u 70, u 71, u 72, u 73, u 74, u 75, u 76, u 77, u 78, u 79, u 80, u 81, u 82, u 83], defers := marks Ds } ∧ Hid (s.left.length = m ∧ FrB w X Y Z n (.slice ao l.length cap) (.slice ro rs.length rcap) s vL vO Ds W ∧ ∃ k, freeTo L Zs n k = some s)) n ⟨_, _, _, [], rfl, by simp, HB0.out, 0, rfl⟩ ?_
      rintro m u a W ⟨s, vL, vO, Ds, rfl, HR⟩ J K hJ hK
      clear HB0
      obtain ⟨hm, hB, k0, hF⟩ := HR.out
      have HI := Lib.hid (frI_all k0 s hF)
      have HB := Lib.hid hB
      have HF := Lib.hid hF
      have c9 := hB.b9.cell 0
      have f9 := hB.b9.free 0
      have l9 := hB.b9.lt
      have hmn : m ≤ 14 := by have := HI.out.llen; omega
      clear HR hB hF
      by_cases hm0 : m = 0
      · subst hm0
        obtain ⟨go_, gc, hv⟩ := HB.out.left.shape
        rw [hm] at hv
        subst hv
        have a10 := HB.out.b10.cell 0
        have b10 := HB.out.b10.free 0
        have e10 := HB.out.b10.lt
        have HOL : Hid (s.ord.length ≤ 1000) := by have := HI.out.olen; have := HI.out.llen; show _ ≤ _; omega
        obtain ⟨oo, oc, hvo⟩ := HB.out.ord.shape
        subst hvo
        have HRV := Lib.hid (rev_any _ _ _ W HB.out.ord HOL.out)
        go_wp2_with fail
        refine HRV.out.mono ?_
        rintro e W7 ⟨rfl, hown, hg⟩
        have HE := Lib.hid (HB.out.turn HXY.out.1 HXY.out.2.2 hYZ.out hown hg)
        have a10 := HE.out.b10.cell 0
        have e10 := HE.out.b10.lt
        have a12 := HE.out.b12.cell 0
        have e12 := HE.out.b12.lt
        have a4 := HE.out.out.b4.cell 0
        have b4 := HE.out.out.b4.free 0
        have e4 := HE.out.out.b4.lt
        have a5 := HE.out.out.b5.cell 0
        have b5 := HE.out.out.b5.free 0
        have e5 := HE.out.out.b5.lt
        have a6 := HE.out.out.b6.cell 0
        have b6 := HE.out.out.b6.free 0
        have e6 := HE.out.out.b6.lt
        clear hown hg
        have hxz : X + 5 ≤ Y ∧ Y + 2 ≤ Z := ⟨HXY.out.2.2, hYZ.out⟩
        have z1 : ¬ Z = X + 1 := by omega
        have z2 : ¬ Z = X + 1 + 1 := by omega
        have z3 : ¬ Z = X + 1 + 1 + 1 := by omega
        have y1 : ¬ Y = X + 1 := by omega
        have y2 : ¬ Y = X + 1 + 1 := by omega
        have y3 : ¬ Y = X + 1 + 1 + 1 := by omega
        clear hxz
        go_wp2_with fail
        go_region
        go_wp2
        rw [Exit.noGoto_ret]
        have hB0 : w.heap.size ≤ X := by have := HXY.out.1; omega
        have hnn : n = k0 := by have := HI.out.llen; omega
        have hrow : s.ord.reverse.length = s.ord.length := List.length_reverse
        obtain ⟨W8, hW8⟩ : ∃ W8, (((W7.setCell ⟨X + 1 + 1, 0, none⟩ (.slice oo s.ord.length oc)).setCell ⟨X + 1 + 1 + 1, 0, none⟩ (.slice (some ⟨Z, 0, none⟩) n n)).setCell ⟨X + 1 + 1 + 1 + 1, 0, none⟩ (.int .i64 0)) = W8 := ⟨_, rfl⟩
        have HF8 : FrO w X (.slice oo s.ord.length oc) (.slice (some ⟨Z, 0, none⟩) n n) 0 W8 := by rw [← hW8]; exact FrO.store3 HE.out.out hB0 _ _ _
        have h8 : MarksOk w.heap.size Ds W8 ∧ Own W8 (Z + 2) 3 natf (.slice oo s.ord.length oc) s.ord.reverse ∧ Own W8 Z 3 intf (.slice (some ⟨Z, 0, none⟩) n n) s.ax := by
          rw [← hW8]
          have hzx : X + 7 ≤ Z := by have := HXY.out.2.2; have := hYZ.out; omega
          have m1 := ((HE.out.mks.grown (only_set W7 (X + 1 + 1) 0 (.slice oo s.ord.length oc)) (fun g e => by cases e; exact ⟨_, HE.out.out.b4, rfl⟩)).grown (only_set _ (X + 1 + 1 + 1) 0 (.slice (some ⟨Z, 0, none⟩) n n)) (fun g e => by cases e; exact ⟨_, HE.out.out.b5.far (p := ⟨X + 1 + 1, 0, none⟩) (by show X + 3 ≠ X + 1 + 1; omega) _, rfl⟩)).grown (only_set _ (X + 1 + 1 + 1 + 1) 0 (.int .i64 0)) (fun g e => by cases e; exact ⟨_, (HE.out.out.b6.far (p := ⟨X + 1 + 1, 0, none⟩) (by show X + 4 ≠ X + 1 + 1; omega) _).far (p := ⟨X + 1 + 1 + 1, 0, none⟩) (by show X + 4 ≠ X + 1 + 1 + 1; omega) _, rfl⟩)
          refine ⟨m1, ((HE.out.ord.only (only_set _ _ _ _) ?_).only (only_set _ _ _ _) ?_).only (only_set _ _ _ _) ?_, ((HE.out.ax.only (only_set _ _ _ _) ?_).only (only_set _ _ _ _) ?_).only (only_set _ _ _ _) ?_⟩
          all_goals (intro g e e2; cases e2; first | (have := (HE.out.ord.lt _ e).1; omega) | (have := (HE.out.ax.lt _ e).1; omega))
        rw [hW8]
        have hd : W8.grownBy W8.drew none := only_draw (only_refl W8 none) 1
        refine marks_end (Ds := Ds) w.heap.size (fun V => FrO w X (.slice oo s.ord.length oc) (.slice (some ⟨Z, 0, none⟩) n n) 0 V ∧ Own V (Z + 2) 3 natf (.slice oo s.ord.length oc) s.ord.reverse ∧ Own V Z 3 intf (.slice (some ⟨Z, 0, none⟩) n n) s.ax) rfl (h8.1.grown hd (fun g e => by cases e)) ⟨HF8.grown hB0 hd (fun g e => by cases e), h8.2.1.only hd (fun g e e2 => by cases e2), h8.2.2.only hd (fun g e e2 => by cases e2)⟩ ?_ ?_
        · rintro V D hB ⟨h1, h2, h3⟩ hD
          have hr : ∀ r, some D = some r → ∃ o : Obj, V.heap[r]? = some o ∧ o.isCells = false := fun r e => by cases e; exact ⟨_, hD, rfl⟩
          have hg := grownBy_putObj' V D (Obj.deferred none)
          exact ⟨h1.put hB hD, own_own h2 hg hr, own_own h3 hg hr⟩
        · rintro V ⟨h1, h2, h3⟩
          have hxz : w.heap.size ≤ Z := by have := HXY.out.2.2; have := hYZ.out; omega
          exact ⟨_, free_res rfl rfl rfl h1.b4 h1.b5 h1.b6, .inl ⟨s, _, _, by rw [hnn]; have := HF.out; rw [hnn] at this; exact this, rfl, h2.mono (by omega), h3.mono hxz, h1.below⟩⟩
      · obtain ⟨g, lc, hv, hg1, hg2, hgb⟩ := HB.out.left.form (by omega)
        rw [hm] at hv
        subst hv
        have d1 : decide ((0 : Int) < (m : Int)) = true := dec_yes (by omega)
        have d2 : decide (0 < m) = true := dec_yes (by omega)
        have HM := Lib.hid hm
        have HBK := Lib.hid (callsIn_wide.1 (bw_in Fence.wide 5 trivial rfl (some ⟨g, 0, none⟩) m lc W))
        clear hm
        go_wp2_with fail
        refine HBK.out.mono ?_
        rintro e W6 ⟨rfl, hW6⟩
        obtain ⟨Bs, hBs⟩ : ∃ Bs, W.heap.size = Bs := ⟨_, rfl⟩
        have hs6 : W6.heap.size = Bs + 1 := by rw [hW6, ← hBs]; simp
        have hb6 : Below W.heap.size W W6 := by rw [hW6]; exact below_new _ _
        have HB6 := Lib.hid (HB.out.after hb6)
        have hgm := HM.out
        have hG : ∃ gg : Nat → Fin m, ∀ j, j < m → (gg j).1 = j := ⟨fun j => if h : j < m then ⟨j, h⟩ else ⟨0, by omega⟩, fun j hj => by simp [hj]⟩
        obtain ⟨gg, hgg⟩ := hG
        obtain ⟨nd, hnd⟩ : ∃ nd : Fin m → Nat, ∀ j, s.left[j.1]? = some (nd j) := ⟨fun j => s.left.getD j.1 0, fun j => by show s.left[j.1]? = some (s.left.getD j.1 0); rw [List.getD_eq_getElem?_getD, List.getElem?_eq_getElem (by have := j.2; omega)]; rfl⟩
        have hzs : ∀ j, j < m → (ntI s.left)[j]?.getD 0 = (nd (gg j) : Int) := fun j hj => by
          unfold ntI
          rw [List.getElem?_map]
          have := hnd (gg j)
          rw [hgg j hj] at this
          rw [this]; rfl
        have hst := bw_stops (fun j : Fin m => #[.int .i64 (j.1 : Int), .int .i64 (nd j : Int)]) gg Fence.wide 4 trivial rfl (by decide) Bs g 0 m lc (ntI s.left) (by omega) W6 (by omega) (by omega) (fun j hj => by rw [hgg j hj, hzs j hj]) (by
          rw [hW6]
          rw [World.cell?_alloc_at _ _ _ _ (by rw [hBs])]; rfl) (fun j hj => by
          rw [hzs j hj, Nat.zero_add]
          have := hnd (gg j)
          rw [hgg j hj] at this
          exact HB6.out.left.cell this)
        have HH := Lib.hid (And.intro hgg (And.intro hnd hW6))
        have HS := Lib.hid (And.intro hBs (And.intro hs6 (And.intro hb6 (And.intro hg1 (And.intro hg2 hgb)))))
        clear hW6 HBK hzs
        go_wp2_with fail
        refine (wpIn_wide (n := 5)).1 ?_
        refine wpIn_rangeFunc_ownG (F := Fence.wide) (n := 5) rfl (by decide) (gf := 128) (lb := #[.pointer (some ⟨Bs, 0, none⟩)]) (by rw [← hBs]; rfl) trivial (enters_of Tryz.func128 (by kernel_rfl) rfl)
          hst (fun h k => h.t k) (fun V l' o o' hl _ _ _ => Kp2.b_ (N := W6.heap.size) (by omega) (by omega) V l' o o' hl) (Below.refl _ _) (fun _ => rfl)
          (fun pre V => Below W6.heap.size W6 V ∧ ∀ y ∈ pre, (wysF L Zs s.left (nd y)).isEmpty = true)
          (fun c pre V => c = .exit 4 ∧ ∃ p x, pre = p ++ [x] ∧ (∀ y ∈ p, (wysF L Zs s.left (nd y)).isEmpty = true) ∧ (wysF L Zs s.left (nd x)).isEmpty = false ∧ ∃ vL' vO', FrB w X Y Z n (.slice ao l.length cap) (.slice ro rs.length rcap) ⟨woN s.left (nd x), s.ord ++ [nd x], s.ax.set (nd x) ((wysF L Zs s.left (nd x)).headD 0)⟩ vL' vO' Ds V)
          ?hI ?hIx ⟨Below.refl _ _, by simp⟩ ?a1 ?assign ?body ?done ?stop
        case hI =>
          rintro pre V V' row ⟨h1, h2⟩ hg hr
          exact ⟨h1.grown hg h1.size (fun g e => (hr g e).1), h2⟩
        case hIx =>
          rintro c pre V V' row ⟨h1, p, x, h2, h3, h4, vL', vO', h5⟩ hg hr
          have hwX := HB.out.out.below.size
          exact ⟨h1, p, x, h2, h3, h4, vL', vO', h5.own hg (N := W6.heap.size) (by omega) (fun D hD => by have := HB.out.mks.lt hD; omega) hr⟩
        case assign =>
          intro l x V K hK
          gi_wp2
          exact hK
        case body =>
          rintro l' pre x V ⟨hb7, hno⟩ hpl
          have HB7 := Lib.hid (HB6.out.after hb7)
          have hx := HH.out.2.1 x
          obtain ⟨at_, hat⟩ : ∃ a : Nat, x.1 = a := ⟨_, rfl⟩
          obtain ⟨i, hi⟩ : ∃ i, nd x = i := ⟨_, rfl⟩
          have ham : at_ < m := by have := x.2; omega
          rw [hat, hi] at hx
          have hin : i < n := HI.out.llt i (List.mem_of_getElem? hx)
          have hns := Lib.hid (And.intro hb7 (And.intro hno (And.intro hpl (And.intro hx (And.intro hat hi)))))
          have a9 := HB7.out.b9.cell 0
          have b9 := HB7.out.b9.free 0
          have e9 := HB7.out.b9.lt
          have HCL : Hid (Calls Tryz.prog 53 #[.slice (some ⟨g, 0, none⟩) m lc] V fun e w' => ∃ v', e = .returned v' ∧ Own w' V.heap.size 3 natf v' s.left ∧ v' ≠ .slice none 0 0 ∧ Below V.heap.size V w') := by
            have h := clone_nat g lc (Y + 2) s.left V (by have h := HB7.out.left; rw [← HM.out] at h; exact h) (by have := HM.out; omega)
            rw [HM.out] at h
            exact h
          clear hno hb7 hx
          rw [hat, hi]
          clear hat hi
          gi_wp2_with (fail)
          refine ⟨trivial, callsIn_wide.2 (HCL.out.mono ?_)⟩
          rintro e V1 ⟨v', rfl, ho1, hv1, hb1⟩
          have hlm := HM.out
          obtain ⟨g1, lc1, hv', hgb1, hga, _⟩ := ho1.form (by omega)
          subst hv'
          obtain ⟨q, hq⟩ : ∃ q, m - 1 = q := ⟨_, rfl⟩
          have hgx := hns.out.2.2.2.1
          have hbv := Lib.hid hb1
          have HDL : Hid (Calls Tryz.prog 52 #[.slice (some ⟨g1, 0, none⟩) m lc1, .int .i64 (at_ : Int), .int .i64 ((at_ : Int) + 1)] V1 fun e w' => e = .returned (.slice (some ⟨g1, 0, none⟩) q lc1) ∧ Own w' V.heap.size 3 natf (.slice (some ⟨g1, 0, none⟩) q lc1) (woN s.left i) ∧ Below V.heap.size V w') := by
            have h := delete_nat g1 lc1 V.heap.size s.left at_ V1 ho1 (by omega) (by omega)
            rw [hlm, hq, erase_wo HI.out.lnd hgx] at h
            refine h.mono ?_
            rintro e w' ⟨rfl, h2, h3⟩
            exact ⟨rfl, h2, below_grown hbv.out h3 hbv.out.size (fun g e => by cases e; exact hga)⟩
          rw [hlm]
          clear ho1 hv1 hgx hlm hb1 hq hgb1 HCL a9 b9 e9
          gi_wp2_with (fail)
          refine ⟨trivial, callsIn_wide.2 (HDL.out.mono ?_)⟩
          rintro e V2 ⟨rfl, ho2, hb2⟩
          have HO2 := Lib.hid ho2
          have HB2 := Lib.hid (HB7.out.after hb2)
          have HV2 := Lib.hid hb2
          have a2 := HB2.out.b2.cell 0
          have e2 := HB2.out.b2.lt
          have a3 := HB2.out.b3.cell 0
          have e3 := HB2.out.b3.lt
          have HWA : Hid (Calls Tryz.prog 93 #[.slice ao l.length cap, .slice ro rs.length rcap, .int .i64 (i : Int), .slice (some ⟨g1, 0, none⟩) q lc1] V2 fun e w' => ∃ o, e = .returned (.tuple #[o, .int .i64 0]) ∧ Own w' V2.heap.size 3 intf o (wysF L Zs s.left i) ∧ Below V2.heap.size V2 w') := by
            have hz := ways_ok (n := n) (i := i) HI.out.lnd HI.out.llt hin
            have h := HWY.out i _ (ntI (woN s.left i)) V2 HB2.out.out.below HO2.out.sl.ints' (by
              rw [ntI_len]
              have := (List.length_filter_le (fun x => decide (x ≠ i)) s.left)
              have := HM.out
              show (woN s.left i).length ≤ 1000000
              unfold woN
              omega)
            rw [hz] at h
            refine h.mono ?_
            rintro e w' ⟨o, rfl, h1, _, h2⟩
            exact ⟨o, rfl, h1 rfl, h2⟩
          clear ho2 hb2 HDL
          gi_wp2_with (fail)
          refine ⟨trivial, callsIn_wide.2 (HWA.out.mono ?_)⟩
          rintro e V3 ⟨o, rfl, ho3, hb3⟩
          obtain ⟨oo, oc, hoo⟩ := ho3.shape
          subst hoo
          have HO3 := Lib.hid ho3
          have HB3 := Lib.hid (HB2.out.after hb3)
          have HV3 : Hid (Below V.heap.size V V3) := HV2.out.trans (hb3.mono HV2.out.size)
          have HO23 := Lib.hid (HO2.out.below hb3)
          clear ho3 hb3 HWA a2 e2 a3 e3
          by_cases hR : wysF L Zs s.left i = []
          · rw [hR] at HO3
            rw [hR]
            gi_wp2
            obtain ⟨h1, h2, h3, h4, h5, h6⟩ := hns.out
            have hbs := HS.out.1
            have hs6' := HS.out.2.1
            have hg2' := HS.out.2.2.2.2.1
            have hvs := h1.size
            refine ⟨KeepsFrom.of_grownBy (only_below HV3.out none) (fun j e => by cases e), ⟨HV3.out.block _ (by omega), HV3.out.block _ (by omega)⟩, bstep h1 HV3.out, fun y hy => ?_⟩
            rcases List.mem_append.1 hy with hy | hy
            · exact h2 y hy
            · rw [List.mem_singleton.1 hy, h6, hR]; rfl
          · obtain ⟨x0, R', hx0⟩ : ∃ x0 R', wysF L Zs s.left i = x0 :: R' := by
              cases hw : wysF L Zs s.left i with
              | nil => exact absurd hw hR
              | cons a b => exact ⟨a, b, rfl⟩
            obtain ⟨gw, gc, hgw, hgw1, hgw2, _⟩ := HO3.out.form (by rw [hx0]; simp)
            cases hgw
            have c72 := HO3.out.cell (show (wysF L Zs s.left i)[0]? = some x0 by rw [hx0]; rfl)
            unfold intf at c72
            obtain ⟨rl, hrl⟩ : ∃ r, (wysF L Zs s.left i).length = r := ⟨_, rfl⟩
            have hrl0 : 0 < rl := by rw [← hrl, hx0]; simp
            have hh := Lib.hid (show (wysF L Zs s.left i).headD 0 = x0 by rw [hx0]; rfl)
            have hne := Lib.hid (show (wysF L Zs s.left i).isEmpty = false by rw [hx0]; rfl)
            rw [hrl]
            clear hR hx0 hrl HO3
            have d3 : decide ((0 : Int) < (rl : Int)) = true := dec_yes (by omega)
            have d4 : decide (0 < rl) = true := dec_yes (by omega)
            have a12 := HB3.out.b12.cell 0
            have e12 := HB3.out.b12.lt
            have a9 := HB3.out.b9.cell 0
            have b9 := HB3.out.b9.free 0
            have e9 := HB3.out.b9.lt
            obtain ⟨zo, hzo⟩ : ∃ z, s.ax[i]? = some z := ⟨_, List.getElem?_eq_getElem (by have := HI.out.alen; omega)⟩
            have aZ := HB3.out.ax.cell hzo
            have bZ := HB3.out.ax.free i
            unfold intf at aZ
            have eZ : Z < V3.heap.size := by omega
            have i0 : (0 : Int) ≤ (i : Int) := Int.natCast_nonneg _
            have i1 : (i : Int) < (n : Int) := by omega
            have r1 : (0 : Int) < (rl : Int) := by omega
            have hyz : Y + 2 ≤ Z := hYZ.out
            have z1 : ¬ Z = Y := by omega
            have z2 : ¬ Y = Z := by omega
            obtain ⟨vo, vc, hvo⟩ := HB3.out.ord.shape
            subst hvo
            obtain ⟨V4, hV4⟩ : ∃ V4, (V3.drew.setCell ⟨Z, i, none⟩ (.int .i64 x0)).setCell ⟨Y, 0, none⟩ (.slice (some ⟨g1, 0, none⟩) q lc1) = V4 := ⟨_, rfl⟩
            have hvs := hns.out.1.size
            have hbs6 := HS.out.2.1
            have hbsW := HS.out.1
            have hzW := HB.out.b12.lt
            have hB4 : FrB w X Y Z n (.slice ao l.length cap) (.slice ro rs.length rcap) ⟨woN s.left i, s.ord, s.ax.set i x0⟩ (.slice (some ⟨g1, 0, none⟩) q lc1) (.slice vo s.ord.length vc) Ds V4 := by
              rw [← hV4]
              exact HB3.out.take HXY.out.1 HXY.out.2.2 hYZ.out (HO23.out.mono (by omega)) 1 i x0
            have hK4 : KeepsFrom W6.heap.size V V4 := by
              rw [← hV4]
              have hd : V3.grownBy V3.drew none := only_draw (only_refl V3 none) 1
              exact (((KeepsFrom.of_grownBy (only_below HV3.out none) (fun j e => by cases e)).trans (KeepsFrom.of_grownBy hd (fun j e => by cases e))).trans (KeepsFrom.of_grownBy (only_set V3.drew Z i (.int .i64 x0)) (fun j e => by cases e; omega))).trans (KeepsFrom.of_grownBy (only_set _ Y 0 (.slice (some ⟨g1, 0, none⟩) q lc1)) (fun j e => by cases e; omega))
            have HB4 := Lib.hid hB4
            have HK4 := Lib.hid hK4
            have t10 := hB4.b10.cell 0
            have u10 := hB4.b10.free 0
            have v10 := hB4.b10.lt
            have HOW := Lib.hid hB4.ord
            have hln : s.ord.length + 1 ≤ 1099511627776 := by have := HI.out.olen; have := HI.out.llen; omega
            have hb0 : Z + 2 ≤ V4.heap.size := by have := hB4.b12.lt; have := hB4.b10.lt; have : V3.heap.size ≤ V4.heap.size := by { rw [← hV4]; simp }; omega
            have HVG : Hid (∀ g, (Value.slice (some ⟨g1, 0, none⟩) q lc1).ownBlock = some g → some g ≠ (Value.slice vo s.ord.length vc).ownBlock) := by
              intro g' e e2
              have h1 := (HO23.out.lt g' e).1
              have h2 := (HB.out.ord.lt g' e2.symm).2
              omega
            have HVB : Hid (∀ g, (Value.slice vo s.ord.length vc).ownBlock = some g → g < W6.heap.size) := by
              intro g' e
              have h2 := (HB.out.ord.lt g' e).2
              omega
            have hz2 : Z + 2 ≤ W6.heap.size := by omega
            have HZW : Hid (Y + 1 < W6.heap.size) := by show Y + 1 < W6.heap.size; omega
            have hgz : gw ≠ Z := by have := HV2.out.size; omega
            have hgy : gw ≠ Y := by have := HV2.out.size; omega
            clear hyz hvs hbs6 hbsW hzW hB4 hK4 hz2
            gi_wp2_with (fail)
            refine region_round_H (fun W => W.cell? ⟨Z + 1, 0, none⟩ = some (.slice (some ⟨Z, 0, none⟩) n n) ∧ W.cell? ⟨gw, 0, none⟩ = some (.int .i64 x0)) (by kernel_rfl) (by kernel_rfl) ⟨a12, c72⟩ (fun hS => ?_)
            refine wpAnyH_takeV (i := 0) (some 69) (.slice (some ⟨Z, 0, none⟩) n n) rfl rfl (by kernel_rfl) (fun _ _ _ h => h) (Or.inl ⟨by rfl, (by intro W hW; obtain ⟨s1, s2⟩ := hW; go_simp)⟩) hS ?_
            simp only [Act.put, List.setIfInBounds_toArray, List.set_cons_zero, List.set_cons_succ]
            refine wpAnyH_takeV (i := 1) (some 70) (.int .i64 (i : Int)) rfl rfl (by kernel_rfl) (fun _ _ _ h => h) (Or.inl ⟨by rfl, (fun W _ => by rfl)⟩) hS ?_
            simp only [Act.put, List.setIfInBounds_toArray, List.set_cons_zero, List.set_cons_succ]
            refine wpAnyH_takeV (i := 2) (some 71) (.slice (some ⟨gw, 0, none⟩) rl oc) rfl rfl (by kernel_rfl) (fun _ _ _ h => h) (Or.inl ⟨by rfl, (fun W _ => by rfl)⟩) hS ?_
            simp only [Act.put, List.setIfInBounds_toArray, List.set_cons_zero, List.set_cons_succ]
            refine wpAnyH_takeV (i := 3) (some 72) (.pointer (some ⟨gw, 0, none⟩)) rfl rfl (by kernel_rfl) (fun _ _ _ h => h) (Or.inl ⟨by rfl, (by intro W hW; obtain ⟨s1, s2⟩ := hW; go_simp)⟩) hS ?_
            simp only [Act.put, List.setIfInBounds_toArray, List.set_cons_zero, List.set_cons_succ]
            refine wpAnyH_takeV (i := 4) (some 73) (.int .i64 x0) rfl rfl (by kernel_rfl) (fun _ _ _ h => h) (Or.inl ⟨by rfl, (by intro W hW; obtain ⟨s1, s2⟩ := hW; go_simp)⟩) hS ?_
            simp only [Act.put, List.setIfInBounds_toArray, List.set_cons_zero, List.set_cons_succ]
            refine wpAnyH_takeV (i := 5) (some 74) (.slice (some ⟨g1, 0, none⟩) q lc1) rfl rfl (by kernel_rfl) (fun _ _ _ h => h) (Or.inl ⟨by rfl, (fun W _ => by rfl)⟩) hS ?_
            simp only [Act.put, List.setIfInBounds_toArray, List.set_cons_zero, List.set_cons_succ]
            refine wpAnyH_takeV (i := 6) (some 75) (.pointer (some ⟨Z, i, none⟩)) rfl rfl (by kernel_rfl) (fun _ _ _ h => h) (Or.inl ⟨by rfl, (by intro W hW; obtain ⟨s1, s2⟩ := hW; go_simp)⟩) hS ?_
            simp only [Act.put, List.setIfInBounds_toArray, List.set_cons_zero, List.set_cons_succ]
            refine wpAnyH_ready (rs := [7]) (by kernel_rfl) (by simp) ?_
            refine (AllReadyH.cons (o := _) rfl (fun K' HK => ?_) AllReadyH.nil)
            refine step_store1 rfl (.int .i64 x0) ⟨Z, i, none⟩ rfl (by go_simp) ?_
            have hS : ((V3.drew.setCell ⟨Z, i, none⟩ (.int .i64 x0)).cell? ⟨Z + 1, 0, none⟩ = some (.slice (some ⟨Z, 0, none⟩) n n) ∧ (V3.drew.setCell ⟨Z, i, none⟩ (.int .i64 x0)).cell? ⟨gw, 0, none⟩ = some (.int .i64 x0)) := by
              exact ⟨(World.cell?_of_block (a := ⟨Z + 1, 0, none⟩) (heap_setCell_other _ _ _ _ (by show Z + 1 ≠ Z; omega))).trans a12, (World.cell?_of_block (a := ⟨gw, 0, none⟩) (heap_setCell_other _ _ _ _ hgz)).trans c72⟩
            refine HK _ _ hS (fun hS => ?_)
            clear HK K'
            simp only [Act.put, List.setIfInBounds_toArray, List.set_cons_zero, List.set_cons_succ]
            refine wpAnyH_ready (rs := [8]) (by kernel_rfl) (by simp) ?_
            refine (AllReadyH.cons (o := _) rfl (fun K' HK => ?_) AllReadyH.nil)
            refine step_store1 rfl (.slice (some ⟨g1, 0, none⟩) q lc1) ⟨Y, 0, none⟩ rfl (by go_simp) ?_
            have hS2 : ((V3.drew.setCell ⟨Z, i, none⟩ (.int .i64 x0)).setCell ⟨Y, 0, none⟩ (.slice (some ⟨g1, 0, none⟩) q lc1)).cell? ⟨Z + 1, 0, none⟩ = some (.slice (some ⟨Z, 0, none⟩) n n) ∧ ((V3.drew.setCell ⟨Z, i, none⟩ (.int .i64 x0)).setCell ⟨Y, 0, none⟩ (.slice (some ⟨g1, 0, none⟩) q lc1)).cell? ⟨gw, 0, none⟩ = some (.int .i64 x0) := by
              exact ⟨(World.cell?_of_block (a := ⟨Z + 1, 0, none⟩) (heap_setCell_other _ _ _ _ (by have h : Y + 2 ≤ Z := hYZ.out; show Z + 1 ≠ Y; omega))).trans hS.1, (World.cell?_of_block (a := ⟨gw, 0, none⟩) (heap_setCell_other _ _ _ _ hgy)).trans hS.2⟩
            refine HK _ _ hS2 (fun hS2 => ?_)
            clear HK K' hS hS2
            simp only [Act.put, List.setIfInBounds_toArray, List.set_cons_zero, List.set_cons_succ]
            refine wpAnyH_done (by kernel_rfl) ?_ _
            rw [hV4]
            simp only [noOut]
            clear hV4
            gi_wp2_with (gi_at_builtin; refine wpListIn_pushO V4 V4.heap.size rfl rfl _ _ 24 rfl 3 8 elemInt (Z + 2) natf _ _ i rfl HOW.out rfl rfl hln (by omega) hb0 ?_; intro v' w' hown' hg'; have HW9 := Lib.hid hown'; have HG9 := Lib.hid hg'; obtain ⟨po, pc, rfl⟩ := hown'.shape; have p10 := (HB4.out.b10.else_ hg' (fun e => by have h1 := (HOW.out.lt _ e.symm).1; have h2 : Y + 2 ≤ Z := hYZ.out; omega)).cell 0; have q10 := (HB4.out.b10.else_ hg' (fun e => by have h1 := (HOW.out.lt _ e.symm).1; have h2 : Y + 2 ≤ Z := hYZ.out; omega)).free 0; have r10 := (HB4.out.b10.else_ hg' (fun e => by have h1 := (HOW.out.lt _ e.symm).1; have h2 : Y + 2 ≤ Z := hYZ.out; omega)).lt; clear hown' hg')
            obtain ⟨h1, h2, h3, h4, h5, h6⟩ := hns.out
            refine ⟨(HK4.out.trans (KeepsFrom.of_grownBy HG9.out HVB.out)).trans (KeepsFrom.of_grownBy (only_set w' (Y + 1) 0 _) (fun j e => by cases e; exact HZW.out)), rfl, pre, x, rfl, h2, by rw [h6]; exact hne.out, .slice (some ⟨g1, 0, none⟩) q lc1, .slice po (s.ord.length + 1) pc, ?_⟩
            rw [h6, hh.out]
            have hpush := HB4.out.push HXY.out.1 HXY.out.2.2 hYZ.out HVG.out HW9.out HG9.out
            simp only [List.length_append, List.length_cons, List.length_nil, Nat.zero_add] at hpush
            exact hpush
        case done =>
          rintro D ys V hD rfl ⟨hb7, hno⟩ hK2
          have HB7 := Lib.hid (HB6.out.after hb7)
          have hnone : freeTo L Zs n n = none := by
            have h1 : stepF L Zs s = none := step_stuck (pick_no fun y hy => by
              have h2 := upto_rev HM.out HH.out.1 HH.out.2.1 m (Nat.le_refl _)
              rw [List.take_of_length_le (by rw [List.length_reverse]; exact Nat.le_of_eq HM.out)] at h2
              have h3 : y ∈ (upto (bwf gg m) m).map nd := by rw [h2]; exact List.mem_reverse.2 hy
              obtain ⟨z, hz, rfl⟩ := List.mem_map.1 h3
              exact hno z hz)
            have h2 := (freeTo_succ HF.out).trans h1
            refine freeTo_none h2 n ?_
            have := HI.out.llen
            have := HM.out
            omega
          have a4 := HB7.out.out.b4.cell 0
          have b4 := HB7.out.out.b4.free 0
          have e4 := HB7.out.out.b4.lt
          have a5 := HB7.out.out.b5.cell 0
          have b5 := HB7.out.out.b5.free 0
          have e5 := HB7.out.out.b5.lt
          have a6 := HB7.out.out.b6.cell 0
          have b6 := HB7.out.out.b6.free 0
          have e6 := HB7.out.out.b6.lt
          have HNO := Lib.hid hnone
          have HKK := Lib.hid hK2
          have HBV := Lib.hid hb7
          clear hb7 hno hnone hK2
          go_wp2
          rw [Exit.noGoto_ret]
          refine marks_end (Ds := D :: Ds) w.heap.size (FrO w X (.slice none 0 0) (.slice none 0 0) 23) rfl ?_ (FrO.store3 HB7.out.out (by have := HXY.out.1; omega) _ _ _) (fun V D hB h hD => h.put hB hD) ?_
          · have hwX := HB.out.out.below.size
            have hm1 : MarksOk w.heap.size (D :: Ds) V := HB7.out.mks.cons (by have := HS.out.1; have := HS.out.2.1; omega) HKK.out (fun h => by have := HB.out.mks.lt h; have := HS.out.1; have := HS.out.2.1; omega)
            exact ((hm1.grown (only_set V _ 0 _) (fun g e => by cases e; exact ⟨_, HB7.out.out.b4, rfl⟩)).grown (only_set _ _ 0 _) (fun g e => by cases e; exact ⟨_, HB7.out.out.b5.far (p := ⟨X + 1 + 1, 0, none⟩) (by show X + 3 ≠ X + 1 + 1; omega) _, rfl⟩)).grown (only_set _ _ 0 _) (fun g e => by cases e; exact ⟨_, (HB7.out.out.b6.far (p := ⟨X + 1 + 1, 0, none⟩) (by show X + 4 ≠ X + 1 + 1; omega) _).far (p := ⟨X + 1 + 1 + 1, 0, none⟩) (by show X + 4 ≠ X + 1 + 1 + 1; omega) _, rfl⟩)
          · rintro V h
            exact ⟨_, free_res rfl rfl rfl h.b4 h.b5 h.b6, .inr ⟨HNO.out, rfl, h.below⟩⟩
        case stop =>
          rintro D c pre V hD hSp ⟨rfl, p, x, hpre, hp, hx, vL', vO', hB7⟩ hK2
          refine wpIn_exit ?_
          have hwX := HB.out.out.below.size
          have hpick : pickF L Zs s.left = some (nd x) := by
            obtain ⟨k, hk, e⟩ := hSp
            have h2 := upto_rev HM.out HH.out.1 HH.out.2.1 k hk
            rw [← e, hpre, List.map_append] at h2
            have h3 := List.take_append_drop k s.left.reverse
            rw [← h2, List.append_assoc] at h3
            exact pick_yes h3.symm (fun y hy => by obtain ⟨z, hz, rfl⟩ := List.mem_map.1 hy; exact hp z hz) hx
          have hnx := pickF_some hpick
          have hlen := woN_len HI.out.lnd hnx.1
          simp only [Exit.inBlock, Exit.then]
          rw [if_pos trivial]
          refine hK _ _ (Handed.intro (m - 1) (by omega) (hJ _ _ _ _ ⟨_, vL', vO', D :: Ds, rfl, ?_, hB7.mark (by omega) hK2 (fun h => by have := HB.out.mks.lt h; omega), k0 + 1, (freeTo_succ HF.out).trans (step_pick hpick)⟩))
          show (woN s.left (nd x)).length = m - 1
          have := HM.out
          omega
end
end Go.Proofs.YthmlejijfgbfbaaGreat
