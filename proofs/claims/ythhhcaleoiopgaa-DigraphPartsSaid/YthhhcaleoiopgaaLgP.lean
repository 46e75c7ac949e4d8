/-
  Directed graphs: the longest path, plain; the function's opening.
-/
import Derived.Test.YthhhcaleoiopgaaBwI
namespace Go.Proofs.Ythhhcaleoiopgaa
open Go.RowKit Go.Shelf
set_option linter.unusedVariables false

/-- A function whose body holds a range over a function, opened for the plain walk. -/
theorem calls_of_wp_marks {P : Program} {f : FuncId} {fn : Func} {c : Code} {args : Array Value} {w : World} {R : Ending → World → Prop}
    (hf : P.funcs[f]? = some fn) (hb : fn.body = some c)
    (h : c.wp P (bodyPostM Fence.wide 5 P fn R) { tmps := args ++ Array.replicate (fn.ntmps - args.size) undef, defers := [] } w) : Calls P f args w R :=
  callsIn_wide.1 (callsIn_of_wp_marks hf hb trivial (wpIn_wide.2 h) rfl)

/-- It leaves with three results, no loop over a function having been entered. -/
theorem marks_ret3 {P : Program} {fn : Func} {R : Ending → World → Prop} {a : Act} {w : World} {t u v : Tmp} (h : fn.results = #[.tmp t, .tmp u, .tmp v]) (hd : a.defers = [])
    (hR : R (.returned (.tuple #[a.tmps.getD t undef, a.tmps.getD u undef, a.tmps.getD v undef])) w) : bodyPostM Fence.wide 5 P fn R .ret a w := by
  show LeavesInM Fence.wide 5 P fn a.tmps R a.defers .returning w
  rw [hd]
  exact ⟨_, results_tmp3 h _ _ _, hR⟩
/-- .. behind one such loop. -/
theorem marks_ret3_one {P : Program} {fn : Func} {R : Ending → World → Prop} {a : Act} {w : World} {t u v : Tmp} {D : Nat} {ex : Exit} (hex : ex = .ret ∨ ex = .normal) (h : fn.results = #[.tmp t, .tmp u, .tmp v]) (hd : a.defers = [{ target := .collected D, args := #[] }])
    (hK : w.heap[D]? = some (.deferred (some []))) (hR : ∀ w', (Instr.takeDeferred D).run P w = .ok [] w' → R (.returned (.tuple #[a.tmps.getD t undef, a.tmps.getD u undef, a.tmps.getD v undef])) w') : bodyPostM Fence.wide 5 P fn R ex a w := by
  have h0 : LeavesInM Fence.wide 5 P fn a.tmps R a.defers .returning w := by
    rw [hd]
    refine ⟨by simp, .inl ⟨D, _, rfl, run_takeDeferred hK, ?_⟩⟩
    exact ⟨_, results_tmp3 h _ _ _, hR _ (run_takeDeferred hK)⟩
  rcases hex with rfl | rfl
  · exact h0
  · exact h0

/-- What the loop over the nodes keeps: but for the block of the sums all lies as it lay. -/
structure LI (W6 : World) (GF n : Nat) (A : List Int) (W : World) : Prop where
  base : W6.grownBy W (some GF)
  own : Own W GF 3 intf (.slice (some ⟨GF, 0, none⟩) n n) A
theorem LI.own_from {W6 : World} {GF n : Nat} {β : Type} (f : β → List Int) (hG : GF < W6.heap.size) : OwnFrom W6.heap.size (fun (s : β) W => LI W6 GF n (f s) W) := by
  intro s W W' row h hg hr
  refine ⟨only_next h.base hg (.inr fun g e => (hr g e).1), h.own.only hg fun g e e2 => ?_⟩
  cases e
  have := (hr _ e2.symm).1
  simp at this
  omega
theorem LI.set {W6 : World} {GF n : Nat} {A : List Int} {W : World} (h : LI W6 GF n A W) (i : Nat) (x : Int) : LI W6 GF n (A.set i x) (W.setCell ⟨GF, i, none⟩ (.int .i64 x)) :=
  ⟨only_trans h.base (only_set W GF i _), h.own.set i x⟩
theorem LI.draw {W6 : World} {GF n : Nat} {A : List Int} {W : World} (h : LI W6 GF n A W) (q : Nat) : LI W6 GF n A (W.drewN q) := ⟨only_draw h.base q, h.own.drawN q⟩

/-! ### the greatest sums from each node on -/
def relax (i : Nat) (A : List Int) (k : Nat) : List Int := A.set i (max (A.getD i 0) (A.getD k 0))
def relaxAll (i : Nat) (A : List Int) (l : List Nat) : List Int := l.foldl (relax i) A
def bestStep (n : Nat) (es : List (Nat × Nat)) (ws : List Int) (A : List Int) (i : Nat) : List Int :=
  (relaxAll i A (nextsS n es i)).set i ((relaxAll i A (nextsS n es i)).getD i 0 + ws.getD i 0)
/-- What has been reckoned when the nodes of l have come. -/
def bestTo (n : Nat) (es : List (Nat × Nat)) (ws : List Int) (l : List Nat) : List Int := l.foldl (bestStep n es ws) (List.replicate n 0)
theorem bestTo_snoc (n : Nat) (es : List (Nat × Nat)) (ws : List Int) (l : List Nat) (i : Nat) : bestTo n es ws (l ++ [i]) = bestStep n es ws (bestTo n es ws l) i := by
  unfold bestTo
  rw [List.foldl_append]; rfl
theorem relaxAll_snoc (i : Nat) (A : List Int) (l : List Nat) (k : Nat) : relaxAll i A (l ++ [k]) = relax i (relaxAll i A l) k := by
  unfold relaxAll
  rw [List.foldl_append]; rfl
theorem relaxAll_len (i : Nat) (A : List Int) (l : List Nat) : (relaxAll i A l).length = A.length := by
  refine snoc_ind (p := fun l => (relaxAll i A l).length = A.length) rfl (fun l k h => ?_) l
  rw [relaxAll_snoc, relax, List.length_set, h]
theorem bestTo_len (n : Nat) (es : List (Nat × Nat)) (ws : List Int) (l : List Nat) : (bestTo n es ws l).length = n := by
  refine snoc_ind (p := fun l => (bestTo n es ws l).length = n) (by simp [bestTo]) (fun l i h => ?_) l
  rw [bestTo_snoc, bestStep, List.length_set, relaxAll_len, h]
theorem set_bd {A : List Int} {c y : Int} (hc : 0 ≤ c) (h : ∀ k, 0 ≤ A.getD k 0 ∧ A.getD k 0 ≤ c) (hy : 0 ≤ y ∧ y ≤ c) (i : Nat) : ∀ k, 0 ≤ (A.set i y).getD k 0 ∧ (A.set i y).getD k 0 ≤ c := by
  intro k
  have hk := h k
  rw [List.getD_eq_getElem?_getD] at hk ⊢
  rw [List.getElem?_set]
  split
  · split
    · simpa using hy
    · simpa using hc
  · exact hk
theorem relaxAll_bd {A : List Int} {c : Int} (hc : 0 ≤ c) (h : ∀ k, 0 ≤ A.getD k 0 ∧ A.getD k 0 ≤ c) (i : Nat) (l : List Nat) : ∀ k, 0 ≤ (relaxAll i A l).getD k 0 ∧ (relaxAll i A l).getD k 0 ≤ c := by
  refine snoc_ind (p := fun l => ∀ k, 0 ≤ (relaxAll i A l).getD k 0 ∧ (relaxAll i A l).getD k 0 ≤ c) h (fun l k ih => ?_) l
  rw [relaxAll_snoc]
  exact set_bd hc ih (by have := ih i; have := ih k; omega) i
theorem bestTo_bd {n : Nat} {es : List (Nat × Nat)} {ws : List Int} (hw : ∀ k, 0 ≤ ws.getD k 0 ∧ ws.getD k 0 ≤ 1073741824) (l : List Nat) : ∀ k, 0 ≤ (bestTo n es ws l).getD k 0 ∧ (bestTo n es ws l).getD k 0 ≤ (l.length : Int) * 1073741824 := by
  refine snoc_ind (p := fun l => ∀ k, 0 ≤ (bestTo n es ws l).getD k 0 ∧ (bestTo n es ws l).getD k 0 ≤ (l.length : Int) * 1073741824) (fun k => ?_) (fun l i ih => ?_) l
  · simp only [bestTo, List.foldl_nil, List.getD_eq_getElem?_getD]
    cases hr : (List.replicate n (0 : Int))[k]? with
    | none => simp
    | some x =>
      have := (List.getElem?_eq_some_iff.1 hr).2
      simp at this
      simp [← this]
  · rw [bestTo_snoc]
    unfold bestStep
    have hr := relaxAll_bd (by omega) ih i (nextsS n es i)
    have hwi := hw i
    rw [List.length_append, List.length_singleton]
    have e : ((l.length + 1 : Nat) : Int) * 1073741824 = (l.length : Int) * 1073741824 + 1073741824 := by omega
    rw [e]
    exact set_bd (by omega) (fun k => by have := hr k; omega) (by have := hr i; omega) i
end Go.Proofs.Ythhhcaleoiopgaa
