/-
  Base texts, shaken by wip/shake.py: Alp.
-/
import Derived.RangeFuncNested
import Derived.RangeFuncBound
import Derived.RangeFuncCalls
import Derived.RangeFuncLeaves
import Derived.RangeFuncBox
import Derived.Shelf.Abstract
import Derived.Shelf.RegionOpen
import Derived.WalkKit
import Derived.OwnWalkIn
import Derived.TacticsInMore
import Derived.LoopNIn
import Derived.LoopIn
import Derived.Laws.MakeOwn
import Derived.Deep.RegionHeld3
import Derived.Deep.DrawnRows
import Derived.StillTailTactics
import Derived.Test.YtamogedpgkofjaaGreatKld
import Derived.Test.YtamogedpgkofjaaGreatKsc
namespace Go.Proofs.YtamogedpgkofjaaGreat
section
section
open Go.RowKit Go.Shelf
set_option linter.unusedVariables false
attribute [local go_sem] Oper.semAt_some

/-- The iterator's contract: each time it hands x over, Y x holds of the world. -/
def Tells {α : Type} (F : Fence) (n : Nat) (P : Program) (g : Nat) (lb : Array Value) (encs : α → Array Value) (Kp : World → World → Prop) (Y : α → World → Prop) (S Sp : List α → Prop) (w : World) : Prop :=
  ∀ (l : Nat) (J Jx : List α → World → Prop) (W : World), Below w.heap.size w W → AbidesFrom W.heap.size J →
    (∀ pre x W1, J pre W1 → Y x W1 → YieldAt F (n - 1) P l (encs x) W1 fun e W' => (e = .returned (.bool true) ∧ J (pre ++ [x]) W' ∧ Kp W1 W') ∨ (e = .returned (.bool false) ∧ Jx (pre ++ [x]) W')) →
    J [] W →
    CallsIn F n P g (#[.func (.yield l) #[] #[]] ++ lb) W fun e W' => (∃ v, e = .returned v) ∧ ((∃ xs, S xs ∧ J xs W') ∨ (∃ pre, Sp pre ∧ Jx pre W'))

/-- How a round ends: it goes on, or the function returns. -/
def roundPost {α : Type} (B : Nat) (Kp : World → World → Prop) (I Ix : List α → World → Prop) (xs : List α) (W : World) : Exit → Act → World → Prop
  | .normal, _, W' => KeepsFrom B W W' ∧ Kp W W' ∧ I xs W'
  | .ret, _, W' => KeepsFrom B W W' ∧ Ix xs W'
  | _, _, _ => False

theorem wpIn_told {α : Type} {F : Fence} {n : Nat} {P : Program} {g : Operand} {ps : Array Tmp} {assign body : Code} {Q : Exit → Act → World → Prop} {a : Act} {w : World}
    (hro : F.round = none) (h1 : 1 ≤ n) {gf : Nat} {lb : Array Value} (hg : a.eval g = .func (.func gf) #[] lb) (hFg : F.fn gf) (eg : ∀ args w, (callFunc gf args).run P w = .ok (.enter gf args) w)
    {encs : α → Array Value} {Kp : World → World → Prop} {Y : α → World → Prop} {S Sp : List α → Prop} (hseq : Tells F (n - 1) P gf lb encs Kp Y S Sp w)
    (hKt : ∀ {A B C : World}, Kp A B → Kp B C → Kp A C) (hKb : ∀ (W : World) (l : Nat) (o o' : Obj), w.heap.size ≤ l → W.heap[l]? = some o → o.isCells = false → o.isWalk = false → Kp W (W.putObj l o')) (hps : ∀ x, (encs x).size = ps.size)
    (I Ix : List α → World → Prop) (hI : OwnFrom w.heap.size I) (hIx : OwnFrom w.heap.size Ix) (hY : OwnFrom w.heap.size Y) (h0 : I [] w) (a₁ : α → Act)
    (hassign : ∀ (l : Nat) (x : α) (W : World) (K : Act → World → Prop), K (a₁ x) W →
      assign.wpIn (F.inRound l) (n - 1 - 1) P (Exit.then K (fun _ _ _ => False)) { tmps := (ps.zip (encs x)).foldl (fun t (p, v) => t.setIfInBounds p v) a.tmps, defers := [] } W)
    (hbody : ∀ (l : Nat) (pre : List α) (x : α) (W : World), I pre W → Y x W → body.wpIn (F.inRound l) (n - 1 - 1) P (roundPost w.heap.size Kp I Ix (pre ++ [x]) W) (a₁ x) W)
    (hdone : ∀ (D : Nat) (xs : List α) (W : World), w.heap.size ≤ D → S xs → I xs W → W.heap[D]? = some (.deferred (some [])) → Q .normal { a with defers := { target := .collected D, args := #[] } :: a.defers } W)
    (hstop : ∀ (D : Nat) (pre : List α) (W : World), w.heap.size ≤ D → Sp pre → Ix pre W → W.heap[D]? = some (.deferred (some [])) → Code.ret.wpIn F n P Q { a with defers := { target := .collected D, args := #[] } :: a.defers } W) :
    (Code.rangeFunc g ps assign body).wpIn F n P Q a w := by
  refine wpIn_rangeFunc ?_
  intro fn hfn
  rw [hro]
  -- the loop's record in its states; the world in which the iterator is called
  obtain ⟨R, hR⟩ : ∃ R : LoopState → Option Code → Loop, R = fun st pe => { state := st, pending := pe, fn, tmps := a.tmps, params := ps, assign, body, defers := w.heap.size } := ⟨_, rfl⟩
  have hW1h : ((w.alloc (.deferred (some []))).alloc (.loop (R .ready none))).heap[w.heap.size + 1]? = some (.loop (R .ready none)) ∧ ((w.alloc (.deferred (some []))).alloc (.loop (R .ready none))).heap[w.heap.size]? = some (.deferred (some [])) :=
    ⟨heap_alloc2_new w _ _, heap_alloc2_old w _ _⟩
  have hb : Below w.heap.size w ((w.alloc (.deferred (some []))).alloc (.loop (R .ready none))) := ((Below.refl _ w).alloc (Nat.le_refl _) _).alloc (by simp) _
  have hsz : w.heap.size + 2 = ((w.alloc (.deferred (some []))).alloc (.loop (R .ready none))).heap.size := by simp
  have hI1 : I [] ((w.alloc (.deferred (some []))).alloc (.loop (R .ready none))) := hI.alloc _ (hI.alloc _ h0)
  have hent := run_enterLoop_outer (P := P) (w := w) fn a.tmps ps assign body
  obtain ⟨V, hV⟩ : ∃ V, (w.alloc (.deferred (some []))).alloc (.loop (R .ready none)) = V := ⟨_, rfl⟩
  rw [hV] at hW1h hb hsz hI1
  generalize hL : w.heap.size + 1 = L at *
  have hDL : w.heap.size < L := by omega
  refine ⟨L, [{ target := .collected w.heap.size, args := #[] }], V, { target := .fn (.func gf) lb, args := #[.func (.yield L) #[] #[]] }, V, gf, #[.func (.yield L) #[] #[]] ++ lb, V, ?_, ?_, ?_, ?_, fun _ => h1, ?_⟩
  · rw [← hV, hR]; exact hent
  · simp only [resolve, hg]
    simp [go_sem]
  · intro f' hf'; simp [Target.leads] at hf'; subst hf'; exact hFg
  · simp [invoke, go_sem, eg]
  have far : ∀ {A : World} {row : Option Nat}, (∀ r, row = some r → V.heap.size ≤ r ∧ ∃ o : Obj, A.heap[r]? = some o ∧ o.isWalk = true) → ∀ r, row = some r → w.heap.size ≤ r ∧ ∃ o : Obj, A.heap[r]? = some o ∧ o.isCells = false :=
    fun h r e => by obtain ⟨q, o, ho, hw⟩ := h r e; exact ⟨by omega, o, ho, Obj.not_cells_of_walk hw⟩
  refine (hseq L (fun pre W => I pre W ∧ W.heap[L]? = some (.loop (R .ready none)) ∧ W.heap[w.heap.size]? = some (.deferred (some [])))
    (fun pre W => Ix pre W ∧ W.heap[L]? = some (.loop (R .done (some .ret))) ∧ W.heap[w.heap.size]? = some (.deferred (some []))) V hb ?keep ?round ⟨hI1, hW1h⟩).mono ?back
  case keep =>
    rintro s A B row ⟨q1, q2, q3⟩ hg' hr
    exact ⟨hI s A B row q1 hg' (far hr), (grownBy_keeps hg' (fun r e => (hr r e).2) q2 rfl).trans q2, (grownBy_keeps hg' (fun r e => (hr r e).2) q3 rfl).trans q3⟩
  case round =>
    rintro pre x W ⟨hi, hl, hk⟩ hy
    have hlt : L < W.heap.size := (Array.getElem?_eq_some_iff.1 hl).1
    have hrun := run_yield (P := P) (args := encs x) hl (by rw [hR]; exact hps x)
    rw [hR] at hrun
    refine ⟨fn, _, assign, body, hrun, roundIn_of_wpIn hfn (hassign _ x W _ ⟨_, run_beginRound hl (by rw [hR]), ?_⟩)⟩
    obtain ⟨X, hX⟩ : ∃ X, W.putObj L (.loop { R .ready none with state := .busy }) = X := ⟨_, rfl⟩
    have hlX : X.heap[L]? = some (.loop { R .ready none with state := .busy }) := by rw [← hX]; exact World.putObj_heap_same hlt
    have hkX : X.heap[w.heap.size]? = some (.deferred (some [])) := by rw [← hX]; exact (World.putObj_heap_other (by omega)).trans hk
    have hKX : Kp W X := by rw [← hX]; exact hKb _ _ _ _ (by omega) hl rfl rfl
    have hIX : I pre X := by rw [← hX]; exact hI.putObj _ hi (by omega) hl rfl
    have hYX : Y x X := by rw [← hX]; exact hY.putObj _ hy (by omega) hl rfl
    show body.wpIn _ _ _ _ _ _
    rw [hX]
    refine wpIn_mono (hbody _ pre x _ hIX hYX) ?_
    have ends : ∀ (jump : Option Code) (Z : World), KeepsFrom w.heap.size X Z →
        (Instr.endRound L jump).run P Z = .ok (.bool jump.isNone) (Z.putObj L (.loop (R (if jump.isNone then .ready else .done) jump))) ∧ Z.heap[L]? = some (.loop { R .ready none with state := .busy }) ∧
        (Z.putObj L (.loop (R (if jump.isNone then .ready else .done) jump))).heap[L]? = some (.loop (R (if jump.isNone then .ready else .done) jump)) ∧
        (Z.putObj L (.loop (R (if jump.isNone then .ready else .done) jump))).heap[w.heap.size]? = some (.deferred (some [])) := fun jump Z hZ => by
      have hlZ := hZ.same _ _ (by omega) hlX rfl
      have h3 := run_endRound (P := P) jump hlZ
      rw [hR] at h3 hlZ ⊢
      exact ⟨h3, hlZ, World.putObj_heap_same (Array.getElem?_eq_some_iff.1 hlZ).1, (World.putObj_heap_other (by omega)).trans (hZ.same _ _ (Nat.le_refl _) hkX rfl)⟩
    rintro e a3 Z hp
    cases e with
    | normal =>
      obtain ⟨hZ, hKZ, hIZ⟩ := hp
      obtain ⟨r1, r2, r3, r4⟩ := ends none Z hZ
      exact ⟨_, _, r1, .inl ⟨rfl, ⟨hI.putObj _ hIZ (by omega) r2 rfl, r3, r4⟩, hKt (hKt hKX hKZ) (hKb _ _ _ _ (by omega) r2 rfl rfl)⟩⟩
    | ret =>
      obtain ⟨hZ, hIZ⟩ := hp
      obtain ⟨r1, r2, r3, r4⟩ := ends (some .ret) Z hZ
      exact ⟨_, _, r1, .inr ⟨rfl, hIx.putObj _ hIZ (by omega) r2 rfl, r3, r4⟩⟩
    | exit id => exact hp.elim
    | goto t => exact hp.elim
    | panic ch => exact hp.elim
    | outgrown => exact hp.elim
  case back =>
    rintro e W2 ⟨⟨v, rfl⟩, (⟨xs, hS, hi, hl, hk⟩ | ⟨pre, hSp, hi, hl, hk⟩)⟩
    · have h3 := run_endLoop (P := P) hl (by rw [hR]; simp)
      rw [hR] at h3
      exact ⟨none, _, h3, hdone _ xs _ (Nat.le_refl _) hS (hI.putObj _ hi (by omega) hl rfl) ((World.putObj_heap_other (by omega)).trans hk)⟩
    · have h3 := run_endLoop (P := P) hl (by rw [hR]; simp)
      rw [hR] at h3
      exact ⟨some .ret, _, h3, hstop _ pre _ (Nat.le_refl _) hSp (hIx.putObj _ hi (by omega) hl rfl) ((World.putObj_heap_other (by omega)).trans hk)⟩
end

section
open Go.RowKit
set_option linter.unusedVariables false
set_option linter.unusedSimpArgs false

theorem made_zeros (n : Nat) : (madeCells #[.int .i64 0, .int .i64 0, .int .i64 0] n).toList = List.replicate n (.int .i64 0) := by
  apply List.ext_getElem?
  intro j
  by_cases hj : j < n
  · have h3 : j % 3 = 0 ∨ j % 3 = 1 ∨ j % 3 = 2 := by omega
    rcases h3 with h | h | h <;> simp [madeCells, hj, h]
  · simp [madeCells, hj]
theorem zeros_flat (n : Nat) : (List.replicate n (⟨0, 0, 0⟩ : Pt)).flatMap ptCells = List.replicate (n * 3) (.int .i64 0) := by
  induction n with
  | zero => rfl
  | succ n ih =>
    rw [List.replicate_succ, List.flatMap_cons, ih, Nat.succ_mul, Nat.add_comm (n * 3) 3, ← List.replicate_append_replicate]
    rfl
theorem run_make_pts (n : Nat) (hn : n ≤ 1099511627776) (w : World) : (Instr.makeSlice 130 (.int .i64 (n : Int)) (.int .i64 (n : Int))).run Tryz.prog w = .ok (.slice (some ⟨w.heap.size, 0, none⟩) n n) (w.alloc (.cells (madeCells #[.int .i64 0, .int .i64 0, .int .i64 0] (n * 3)) 88)) := by
  obtain ⟨ht, i, z, h1, h2, h3, h4, h5, h6⟩ := elemPt
  have hz : z = .agg #[.int .i64 0, .int .i64 0, .int .i64 0] := by
    have e : (Tryz.prog.info? 88).map (fun i => i.zero) = some (some (.agg #[.int .i64 0, .int .i64 0, .int .i64 0])) := by kernel_rfl
    rw [h1] at e
    simp only [Option.map_some, Option.some.injEq] at e
    rw [h2] at e
    simpa using e
  subst hz
  have hr := run_make (P := Tryz.prog) w 130 88 i _ ht h1 h2 .i64 .i64 n n (by omega) (by omega) (by rw [h4]; omega) (by omega)
  simp only [Int.toNat_natCast, h3] at hr
  exact hr
theorem own_made_pts (w : World) (n base : Nat) (hn : n ≤ 1099511627776) (hb : base ≤ w.heap.size) : OwnPts (w.alloc (.cells (madeCells #[.int .i64 0, .int .i64 0, .int .i64 0] (n * 3)) 88)) base (.slice (some ⟨w.heap.size, 0, none⟩) n n) (List.replicate n ⟨0, 0, 0⟩) := by
  have hs : (madeCells #[.int .i64 0, .int .i64 0, .int .i64 0] (n * 3)).size = n * 3 := by simp [madeCells]
  have h := World.ownsRow_lit (base := base) (e := 88) (size := 3) w (madeCells #[.int .i64 0, .int .i64 0, .int .i64 0] (n * 3)) n hb (by unfold maxLen; omega) hs
  unfold OwnPts OwnN
  rw [List.length_replicate, zeros_flat, ← made_zeros]
  exact h
theorem flat_set (ps : List Pt) : ∀ (j : Nat) (q : Pt), j < ps.length → (((ps.flatMap ptCells).set (j * 3) (.int .i64 q.x)).set (j * 3 + 1) (.int .i64 q.y)).set (j * 3 + 2) (.int .i64 q.z) = (ps.set j q).flatMap ptCells := by
  induction ps with
  | nil => intro j q h; simp at h
  | cons a ps ih =>
    intro j q h
    have e : (a :: ps).flatMap ptCells = .int .i64 a.x :: .int .i64 a.y :: .int .i64 a.z :: ps.flatMap ptCells := rfl
    cases j with
    | zero => rw [e]; rfl
    | succ j =>
      rw [e]
      have h2 := ih j q (by simpa using h)
      rw [show (j + 1) * 3 = j * 3 + 1 + 1 + 1 by omega]
      simp only [List.set_cons_succ]
      rw [h2]; rfl
theorem own_set3 {w : World} {base g n cap : Nat} {ps : List Pt} (h : OwnPts w base (.slice (some ⟨g, 0, none⟩) n cap) ps) (j : Nat) (q : Pt) (hj : j < ps.length) :
    OwnPts (((w.setCell ⟨g, j * 3, none⟩ (.int .i64 q.x)).setCell ⟨g, j * 3 + 1, none⟩ (.int .i64 q.y)).setCell ⟨g, j * 3 + 2, none⟩ (.int .i64 q.z)) base (.slice (some ⟨g, 0, none⟩) n cap) (ps.set j q) := by
  have hn : n = ps.length := by
    rcases h.2 with ⟨h', _⟩ | ⟨g', cap', cur, h', _⟩
    · cases h'
    · cases h'; rfl
  subst hn
  have h1 := (World.ownsRow.stored h (j * 3) (.int .i64 q.x)).1
  have h2 := (World.ownsRow.stored h1 (j * 3 + 1) (.int .i64 q.y)).1
  have h3 := (World.ownsRow.stored h2 (j * 3 + 2) (.int .i64 q.z)).1
  rw [flat_set ps j q hj] at h3
  unfold OwnPts OwnN
  rw [List.length_set]
  exact h3
theorem grown_set3 (w : World) (g j : Nat) (a b c : Value) : w.grownBy (((w.setCell ⟨g, j * 3, none⟩ a).setCell ⟨g, j * 3 + 1, none⟩ b).setCell ⟨g, j * 3 + 2, none⟩ c) (some g) :=
  only_trans (only_trans (only_set w g _ a) (only_set _ g _ b)) (only_set _ g _ c)
/-- The cells of a point of the call's own, and that they may be written. -/
theorem own_at3 {w : World} {base g n cap : Nat} {ps : List Pt} (h : OwnPts w base (.slice (some ⟨g, 0, none⟩) n cap) ps) {j : Nat} {p : Pt} (hj : ps[j]? = some p) :
    w.cell? ⟨g, j * 3, none⟩ = some (.int .i64 p.x) ∧ w.cell? ⟨g, j * 3 + 1, none⟩ = some (.int .i64 p.y) ∧ w.cell? ⟨g, j * 3 + 2, none⟩ = some (.int .i64 p.z) ∧ (∀ o, w.frozen? ⟨g, o, none⟩ = false) ∧ g < w.heap.size := by
  obtain ⟨ao, cp, hv, hc⟩ := OwnN.fl pt_len h
  cases hv
  obtain ⟨b, off, e, hlt, hcell⟩ := hc (by have := (List.getElem?_eq_some_iff.1 hj).1; omega)
  cases e
  have c0 := hcell j p hj 0 _ rfl
  have c1 := hcell j p hj 1 _ rfl
  have c2 := hcell j p hj 2 _ rfl
  rw [Nat.zero_add] at c0 c1 c2
  refine ⟨c0, c1, c2, fun o => ?_, hlt⟩
  rcases h.2 with ⟨h', _⟩ | ⟨g', cap', cur, h', hb, hg, _⟩
  · cases h'
  · cases h'
    exact frozen_of_row _ _ _ _ _ hg
end

section
open Go.RowKit Go.Shelf
set_option linter.unusedVariables false
set_option linter.unusedSimpArgs false
attribute [local go_sem ↓] Go.wp_at_zero Go.wp_at_succ
attribute [local go_sem] Oper.semAt_some

structure Kc (W W' : World) : Prop where
  size : W.heap.size ≤ W'.heap.size
  cell : ∀ p u, W.cell? p = some u → W'.cell? p = some u
theorem Kc.refl (W : World) : Kc W W := ⟨Nat.le_refl _, fun _ _ h => h⟩
theorem Kc.trans {A B C : World} (h : Kc A B) (k : Kc B C) : Kc A C := ⟨Nat.le_trans h.size k.size, fun p u e => k.cell p u (h.cell p u e)⟩
theorem Kc.below {A B : World} (h : Below A.heap.size A B) : Kc A B := ⟨h.size, fun p u e => (h.cell (block_lt_of_cell e)).trans e⟩
theorem Kc.put (W : World) (l : Nat) (o o' : Obj) (hl : W.heap[l]? = some o) (ho : o.isCells = false) : Kc W (W.putObj l o') := by
  have hg := grownBy_putObj' W l o'
  refine ⟨hg.size, fun p u e => ?_⟩
  have hb := block_lt_of_cell e
  refine (World.cell?_of_block (hg.block p.block hb (fun e1 => ?_))).trans e
  have e2 : p.block = l := by injection e1
  unfold World.cell? at e
  rw [e2, hl] at e
  cases o <;> simp_all [Obj.isCells]
theorem Fl.kc {α : Type} {n : Nat} {enc : α → List Value} {w w1 : World} {v : Value} {l : List α} (h : Fl n enc w v l) (hk : Kc w w1) : Fl n enc w1 v l := by
  obtain ⟨ao, cap, rfl, h⟩ := h
  refine ⟨ao, cap, rfl, fun hl => ?_⟩
  obtain ⟨b, off, rfl, hlt, hc⟩ := h hl
  exact ⟨b, off, rfl, Nat.lt_of_lt_of_le hlt hk.size, fun k x hx j u hu => hk.cell _ _ (hc k x hx j u hu)⟩
theorem Sl.kc {α : Type} {w w1 : World} {f : α → Value} {v : Value} {l : List α} (h : Sl w f v l) (hk : Kc w w1) : Sl w1 f v l := by
  obtain ⟨ao, cap, rfl, h⟩ := h
  refine ⟨ao, cap, rfl, fun hl => ?_⟩
  obtain ⟨b, off, rfl, hlt, hc⟩ := h hl
  exact ⟨b, off, rfl, Nat.lt_of_lt_of_le hlt hk.size, fun k x hx => hk.cell _ _ (hc k x hx)⟩
theorem Bars.kc {w w1 : World} {v : Value} {l : List BarD} (h : Bars w v l) (hk : Kc w w1) : Bars w1 v l := by
  obtain ⟨ao, cap, rfl, h⟩ := h
  refine ⟨ao, cap, rfl, fun hl => ?_⟩
  obtain ⟨b, off, rfl, hlt, hc⟩ := h hl
  refine ⟨b, off, rfl, Nat.lt_of_lt_of_le hlt hk.size, fun k x hx => ?_⟩
  obtain ⟨h1, h2, h3, h4, uo, uc, h5, h6⟩ := hc k x hx
  exact ⟨hk.cell _ _ h1, hk.cell _ _ h2, hk.cell _ _ h3, hk.cell _ _ h4, uo, uc, hk.cell _ _ h5, Sl.kc h6 hk⟩

def ptsOf (l : List BarD) (r : RunD) : List Pt := match lineOf l r.mark with | some b => turnedOf b r | none => []
def barPts (l : List BarD) (r : RunD) (k : Nat) : List Pt := (ptsOf l r).map (shiftP r (k : Int))
def laidPts (l : List BarD) (rs : List RunD) : List (List Pt) := rs.flatMap fun r => (List.range r.count.toNat).map (barPts l r)
def cumN (rs : List RunD) : Nat := (rs.map fun r => r.count.toNat).sum
theorem laidPts_len (l : List BarD) (rs : List RunD) : (laidPts l rs).length = cumN rs := by
  induction rs with
  | nil => rfl
  | cons r rs ih =>
    have e : laidPts l (r :: rs) = (List.range r.count.toNat).map (barPts l r) ++ laidPts l rs := rfl
    have e2 : cumN (r :: rs) = r.count.toNat + cumN rs := by simp [cumN]
    rw [e, List.length_append, ih, e2]; simp
theorem laidPts_at {l : List BarD} {rs : List RunD} {i k : Nat} {r : RunD} (hr : rs[i]? = some r) (hk : k < r.count.toNat) : (laidPts l rs)[cumN (rs.take i) + k]? = some (barPts l r k) := by
  have hi := (List.getElem?_eq_some_iff.1 hr).1
  have e : laidPts l rs = laidPts l (rs.take i) ++ laidPts l (rs.drop i) := by
    unfold laidPts
    rw [← List.flatMap_append, List.take_append_drop]
  have e2 : rs.drop i = r :: rs.drop (i + 1) := by rw [List.drop_eq_getElem_cons hi, (List.getElem?_eq_some_iff.1 hr).2]
  have e3 : laidPts l (rs.drop i) = (List.range r.count.toNat).map (barPts l r) ++ laidPts l (rs.drop (i + 1)) := by rw [e2]; rfl
  rw [e, List.getElem?_append_right (by rw [laidPts_len]; omega), laidPts_len, e3, List.getElem?_append_left (by simp; omega)]
  simp [hk]
theorem cumN_snoc {rs : List RunD} {k : Nat} {r : RunD} (h : rs[k]? = some r) : cumN (rs.take (k + 1)) = cumN (rs.take k) + r.count.toNat := by
  have hk := (List.getElem?_eq_some_iff.1 h).1
  unfold cumN
  rw [List.take_succ_eq_append_getElem hk, List.map_append, List.sum_append, (List.getElem?_eq_some_iff.1 h).2]
  simp
theorem cumN_sum {rs : List RunD} (h : ∀ r ∈ rs, 1 ≤ r.count) : (cumN rs : Int) = sumC rs := by
  have key : ∀ (l : List Int) (m : Int), l.foldl (· + ·) m = m + l.foldl (· + ·) 0 := by
    intro l
    induction l with
    | nil => intro m; simp
    | cons a l ih => intro m; simp only [List.foldl_cons]; rw [ih (m + a), ih (0 + a)]; omega
  induction rs with
  | nil => rfl
  | cons r rs ih =>
    have h1 := h r (List.mem_cons_self ..)
    have h2 := ih (fun x hx => h x (List.mem_cons_of_mem _ hx))
    have e : sumC (r :: rs) = r.count + sumC rs := by
      unfold sumC sumI
      simp only [List.map_cons, List.foldl_cons]
      rw [key]; omega
    have e2 : cumN (r :: rs) = r.count.toNat + cumN rs := by simp [cumN]
    rw [e, e2]; omega
theorem cumN_take_le (rs : List RunD) (k : Nat) : cumN (rs.take k) ≤ cumN rs := by
  have e : cumN rs = cumN (rs.take k) + cumN (rs.drop k) := by
    unfold cumN
    rw [← List.sum_append, ← List.map_append, List.take_append_drop]
  omega

/-- A run that is right: its line, and what bounds its points. -/
theorem right_parts {l : List BarD} {r : RunD} (hs : schedOk l = true) (h : rightB l r = true) :
    ∃ b, lineOf l r.mark = some b ∧ barOk b = true ∧ turnB r.tx r.ty = true ∧ ptIn 1048576 r.at_ = true ∧ 1 ≤ r.count ∧ r.count ≤ 1000 ∧ (1 < r.count → ptIn 2097152 r.step = true) ∧ chkB (turnedOf b r) r 0 = true ∧ chkB (turnedOf b r) r 1 = true := by
  cases hl : lineOf l r.mark with
  | none => rw [rightB_none hl] at h; cases h
  | some b =>
    rw [rightB_some hl] at h
    obtain ⟨i, hi1, hi2, _⟩ := lineOf_some hl
    simp only [Bool.and_eq_true, decide_eq_true_eq] at h
    obtain ⟨⟨⟨⟨⟨h1, h2⟩, h3⟩, h4⟩, h5⟩, h6, h7⟩ := h
    refine ⟨b, rfl, (sched_line hs hi2).1, h1, h4, h2, h3, fun h8 => ?_, h6, h7⟩
    unfold stepB at h5
    rw [dec_no (p := r.count ≤ 1) (by omega)] at h5
    simp only [Bool.false_or, Bool.and_eq_true] at h5
    exact h5.2

/-- What the iterator hands over, of the x.1-th laid bar. -/
def Told (l : List BarD) (rs : List RunD) (B : Nat) (x : Nat × Value) (W : World) : Prop := ∃ q, (laidPts l rs)[x.1]? = some q ∧ OwnPts W B x.2 q
theorem told_own (l : List BarD) (rs : List RunD) (B N : Nat) : OwnFrom N (Told l rs B) := by
  rintro x W W' row ⟨q, h1, h2⟩ hg hr
  refine ⟨q, h1, OwnN.only h2 hg (fun g hgv e => ?_)⟩
  obtain ⟨_, o, ho, hc⟩ := hr g e.symm
  rcases h2.2 with ⟨h', _⟩ | ⟨g', cap', cur, h', hb, hh, _⟩
  · rw [h'] at hgv; cases hgv
  · rw [h'] at hgv; cases hgv
    rw [hh] at ho; cases ho; cases hc
end

section
open Go.RowKit Go.Shelf
set_option linter.unusedVariables false
set_option linter.unusedSimpArgs false
attribute [local go_sem ↓] Go.wp_at_zero Go.wp_at_succ
attribute [local go_sem] Oper.semAt_some

theorem set_next1 {T ps : List Pt} {f : Pt → Pt} {j : Nat} {p q : Pt} (hl : ps.length = T.length) (h : ∀ (t : Nat) p, t < j → T[t]? = some p → ps[t]? = some (f p)) (hy : T[j]? = some p) (hq : f p = q) :
    (ps.set j q).length = T.length ∧ ∀ (t : Nat) p, t < j + 1 → T[t]? = some p → (ps.set j q)[t]? = some (f p) := by
  refine ⟨by rw [List.length_set]; exact hl, fun t z ht hz => ?_⟩
  by_cases e : t = j
  · subst e
    rw [hy] at hz; cases hz
    rw [List.getElem?_set_self (by have := (List.getElem?_eq_some_iff.1 hy).1; omega), hq]
  · rw [List.getElem?_set_ne (by omega)]
    exact h t z (by omega) hz
theorem set_next {T ps : List Pt} {f : Pt → Pt} {j : Nat} {p q : Pt} (hl : ps.length = T.length) (h : ∀ (t : Nat) p, t < j → T[t]? = some p → ps[t]? = some (f p)) (hy : T[j]? = some p) (q1 : Pt) (hq : f p = q) :
    ((ps.set j q1).set j q).length = T.length ∧ ∀ (t : Nat) p, t < j + 1 → T[t]? = some p → ((ps.set j q1).set j q)[t]? = some (f p) := by
  rw [List.set_set]
  exact set_next1 hl h hy hq
theorem eq_map {T ps : List Pt} {f : Pt → Pt} (hl : ps.length = T.length) (h : ∀ (t : Nat) p, T[t]? = some p → ps[t]? = some (f p)) : ps = T.map f := by
  apply List.ext_getElem?
  intro t
  rw [List.getElem?_map]
  rcases Nat.lt_or_ge t T.length with ht | ht
  · rw [List.getElem?_eq_getElem ht, h t _ (List.getElem?_eq_getElem ht)]; rfl
  · rw [List.getElem?_eq_none (by omega), List.getElem?_eq_none ht]; rfl
set_option maxRecDepth 100000 in
set_option maxHeartbeats 8000000 in
theorem all1_told (n : Nat) (hn : 1 ≤ n) (l : List BarD) (rs : List RunD) (v vr : Value) (w : World) (RB BB : Nat) (hRB : BlkIs w RB 23 #[vr]) (hBB : BlkIs w BB 22 #[v]) (hp : Bars w v l) (hr : Runs w vr rs)
    (hl : l.length ≤ 140737488355328) (hlr : rs.length ≤ 60) (hf : FitB l) (hs : schedOk l = true) (hall : ∀ r ∈ rs, rightB l r = true) :
    Tells Fence.wide n Tryz.prog 144 #[.pointer (some ⟨RB, 0, none⟩), .pointer (some ⟨BB, 0, none⟩)] (fun x : Nat × Value => #[.int .i64 (x.1 : Int), x.2]) Kc (Told l rs w.heap.size) (fun xs => xs.map Prod.fst = List.range (cumN rs)) (fun _ => True) w := by
  intro L J Jx W hW hJ hY h0
  refine callsIn_wide.2 ?_
  have HJ : Hid (∀ s A B, J s A → Below A.heap.size A B → J s B) := fun s A B h hb => hJ s A B none h ⟨hb.os, hb.tape, hb.output, hb.size, fun i hi _ => hb.block i hi⟩ (fun r e => by cases e)
  have HY := Lib.hid hY
  have HP := Lib.hid (hp.below hW)
  have HR := Lib.hid (hr.below hW)
  have k1 := (hRB.below hW).cell 0
  have k2 := (hBB.below hW).cell 0
  have HWS : Hid (w.heap.size ≤ W.heap.size) := hW.size
  have HF := Lib.hid hf
  have HS := Lib.hid hs
  have HA := Lib.hid hall
  have HB0 : Hid (W.cell? ⟨RB, 0, none⟩ = some vr ∧ W.cell? ⟨BB, 0, none⟩ = some v) := ⟨k1, k2⟩
  have HC : Hid (∀ k, cumN (rs.take k) ≤ cumN rs) := cumN_take_le rs
  have H0 : Hid (J [] W) := h0
  have HN : Hid (cumN rs ≤ 60000) := by
    have key : ∀ (l' : List RunD), (∀ r ∈ l', r.count.toNat ≤ 1000) → cumN l' ≤ l'.length * 1000 := by
      intro l'
      induction l' with
      | nil => intro _; simp [cumN]
      | cons a t ih =>
        intro h
        have h1 := h a (List.mem_cons_self ..)
        have h2 := ih (fun x hx => h x (List.mem_cons_of_mem _ hx))
        have e : cumN (a :: t) = a.count.toNat + cumN t := by simp [cumN]
        rw [e, List.length_cons]; omega
    have := key rs (fun r hr => by have := (right_count (hall r hr)).2; omega)
    show _ ≤ _
    omega
  obtain ⟨ro, rcap, rfl⟩ := hr.at_
  obtain ⟨ao, cap, rfl⟩ := hp.at_
  clear hJ hY hp hr hRB hBB hW hf hs hall h0
  show Calls Tryz.prog 144 #[.func (.yield L) #[] #[], .pointer (some ⟨RB, 0, none⟩), .pointer (some ⟨BB, 0, none⟩)] W _
  go_enter Tryz.func144, Tryz.ntmps144
  go_wp2
  go_loopw [4, 14] (fun s4 s14 wr => ∃ k : Nat, k ≤ rs.length ∧ s14 = .int .i64 k ∧ s4 = .int .i64 (cumN (rs.take k)) ∧ Hid (∃ xs, xs.map Prod.fst = List.range (cumN (rs.take k)) ∧ J xs wr ∧ Kc W wr)) (fun _ i _ => rs.length - (intOf i).toNat)
  case atStart => exact ⟨0, Nat.zero_le _, rfl, by rw [List.take_zero]; rfl, [], by rw [List.take_zero]; rfl, H0.out, Kc.refl _⟩
  case round =>
    obtain ⟨k, hk, rfl, rfl, HX⟩ := hrel
    by_cases hk2 : k < rs.length
    · obtain ⟨r, hy⟩ : ∃ y, rs[k]? = some y := ⟨_, List.getElem?_eq_getElem hk2⟩
      obtain ⟨xs, hx1, hx2, hx3⟩ := HX.out
      obtain ⟨b, off, rfl, hbl, c0, c1, c2, c3, c4, c5, c6, c7, c8, c9⟩ := runs_get (HR.out.kc hx3) hy
      have HRT := Lib.hid (HA.out r (List.mem_of_getElem? hy))
      obtain ⟨bd, r1, r2, r3, r4, r5, r6, r7, _, _⟩ := right_parts HS.out HRT.out
      have g2 := hx3.cell _ _ HB0.out.2
      have hgz := block_lt_of_cell g2
      have hcn := HC.out k
      have hnn := HN.out
      have HSN := Lib.hid (cumN_snoc hy)
      have HLA : Hid (∀ j, j < r.count.toNat → (laidPts l rs)[cumN (rs.take k) + j]? = some (barPts l r j)) := fun j hj => laidPts_at hy hj
      generalize hq : cumN (rs.take k) = cn at *
      have HQ := Lib.hid hq
      have HTU := Lib.hid (turned_any (.slice ao l.length cap) l r bd _ ((HP.out.kc hx3).below (below_new _ (.cells #[.string r.mark, .int .i64 r.tx, .int .i64 r.ty, .int .i64 r.at_.x, .int .i64 r.at_.y, .int .i64 r.at_.z, .int .i64 r.step.x, .int .i64 r.step.y, .int .i64 r.step.z, .int .i64 r.count] 90))) hl HF.out r1 r2 r3)
      have HPO : Hid (ptsOf l r = turnedOf bd r) := by show ptsOf l r = _; unfold ptsOf; rw [r1]
      have HTB := Lib.hid (turned_bd (r := r) r2 r3)
      have HTL : Hid ((turnedOf bd r).length ≤ 7) := by show (turnedOf bd r).length ≤ 7; unfold turnedOf; rw [List.length_map]; exact path_len
      have HAT : Hid (PtIn 1048576 (pmul 1 r.at_)) := by rw [pmul_one]; exact ptIn_iff.1 r4
      have HST : Hid (1 < r.count → ∀ k : Int, 0 ≤ k → k ≤ 999 → PtIn 4294967296 (pmul k r.step)) := fun h k h0 h1 => pstep_bd (ptIn_iff.1 (r7 h)) h0 h1
      have HBP : Hid (∀ j : Nat, barPts l r j = (turnedOf bd r).map (shiftP r (j : Int))) := fun j => by show barPts l r j = _; unfold barPts; rw [HPO.out]
      have HXX : Hid (xs.map Prod.fst = List.range cn ∧ J xs wr ∧ Kc W wr) := ⟨hx1, hx2, hx3⟩
      clear hy hq hx1 hx2 hx3 HX HPO r1 r2 r3 r4 r7 HRT
      obtain ⟨wo, rfl⟩ : ∃ wo : World, wo = wr := ⟨_, rfl⟩
      go_wp2_with fail
      refine HTU.out.mono ?_
      rintro e w5 ⟨o, rfl, HOW, hb5⟩
      obtain ⟨oo, oc, rfl⟩ := HOW.out.shape
      have HK5 : Hid (Kc wo w5 ∧ wo.heap.size < w5.heap.size) := ⟨(Kc.below (below_new _ _)).trans (Kc.below hb5), by have := hb5.size; simp at this; omega⟩
      have HB5 : Hid (Below wo.heap.size wo w5) := bstep (below_new _ _) hb5
      have BX5 : Hid (BlkIs w5 wo.heap.size 90 #[.string r.mark, .int .i64 r.tx, .int .i64 r.ty, .int .i64 r.at_.x, .int .i64 r.at_.y, .int .i64 r.at_.z, .int .i64 r.step.x, .int .i64 r.step.y, .int .i64 r.step.z, .int .i64 r.count]) := (BlkIs.new wo _ _).below hb5
      have HO5 := Lib.hid (OwnN.fl pt_len HOW.out)
      have k9 := BX5.out.cell 9
      clear hb5 c0 c1 c2 c3 c4 c5 c6 c7 c8 c9 g2 hgz HOW HTU
      go_wp2_with fail
      have dk : decide ((0 : Int) < 0) = false := rfl
      go_loopw [4, 23] (fun s4 s23 wr => ∃ m : Nat, (m : Int) ≤ r.count ∧ s23 = .int .i64 m ∧ s4 = .int .i64 ((cn + m : Nat) : Int) ∧ Hid (∃ xs, xs.map Prod.fst = List.range (cn + m) ∧ J xs wr ∧ Kc w5 wr)) (fun _ i _ => (r.count - intOf i).toNat)
      case atStart => exact ⟨0, by omega, rfl, by rw [Nat.add_zero], xs, by rw [Nat.add_zero]; exact HXX.out.1, HJ.out _ _ _ HXX.out.2.1 HB5.out, Kc.refl _⟩
      case round =>
        obtain ⟨m, hm, rfl, rfl, HZ⟩ := hrel
        by_cases hm2 : (m : Int) < r.count
        · obtain ⟨ys, hy1, hy2, hy3⟩ := HZ.out
          have HYS : Hid (ys.map Prod.fst = List.range (cn + m) ∧ J ys wr ∧ Kc w5 wr) := ⟨hy1, hy2, hy3⟩
          have HOr := Lib.hid (HO5.out.kc hy3)
          have k3 := hy3.cell _ _ (BX5.out.cell 3)
          have k4 := hy3.cell _ _ (BX5.out.cell 4)
          have k5 := hy3.cell _ _ (BX5.out.cell 5)
          have k6 := hy3.cell _ _ (BX5.out.cell 6)
          have k7 := hy3.cell _ _ (BX5.out.cell 7)
          have k8 := hy3.cell _ _ (BX5.out.cell 8)
          have HKK : Hid (wr.cell? ⟨wo.heap.size, 3, none⟩ = some (.int .i64 r.at_.x) ∧ wr.cell? ⟨wo.heap.size, 4, none⟩ = some (.int .i64 r.at_.y) ∧ wr.cell? ⟨wo.heap.size, 5, none⟩ = some (.int .i64 r.at_.z) ∧ wr.cell? ⟨wo.heap.size, 6, none⟩ = some (.int .i64 r.step.x) ∧ wr.cell? ⟨wo.heap.size, 7, none⟩ = some (.int .i64 r.step.y) ∧ wr.cell? ⟨wo.heap.size, 8, none⟩ = some (.int .i64 r.step.z)) := ⟨k3, k4, k5, k6, k7, k8⟩
          have hbz := block_lt_of_cell k3
          have HBZ := Lib.hid hbz
          have htl := HTL.out
          have hmk := run_make_pts (turnedOf bd r).length (by omega)
          clear hy1 hy2 hy3 HZ k3 k4 k5 k6 k7 k8 hbz
          obtain ⟨wp, rfl⟩ : ∃ wp : World, wp = wr := ⟨_, rfl⟩
          go_wp2_with fail
          obtain ⟨w6, hw6⟩ : ∃ w6, wp.alloc (.cells (madeCells #[.int .i64 0, .int .i64 0, .int .i64 0] ((turnedOf bd r).length * 3)) 88) = w6 := ⟨_, rfl⟩
          have HI6 : Hid (Below wp.heap.size wp w6 ∧ OwnPts w6 wp.heap.size (.slice (some ⟨wp.heap.size, 0, none⟩) (turnedOf bd r).length (turnedOf bd r).length) (List.replicate (turnedOf bd r).length ⟨0, 0, 0⟩)) := by rw [← hw6]; exact ⟨below_new _ _, own_made_pts wp _ _ (by omega) (Nat.le_refl _)⟩
          rw [hw6]
          clear hw6 hmk
          go_loopw [31] (fun i wq => ∃ j : Nat, j ≤ (turnedOf bd r).length ∧ i = .int .i64 j ∧ Below wp.heap.size wp wq ∧ Hid (∃ ps, OwnPts wq wp.heap.size (.slice (some ⟨wp.heap.size, 0, none⟩) (turnedOf bd r).length (turnedOf bd r).length) ps ∧ ps.length = (turnedOf bd r).length ∧ ∀ (t : Nat) p, t < j → (turnedOf bd r)[t]? = some p → ps[t]? = some (shiftP r (m : Int) p))) (fun i _ => (turnedOf bd r).length - (intOf i).toNat)
          case atStart => exact ⟨0, Nat.zero_le _, rfl, HI6.out.1, _, HI6.out.2, by simp, fun t p ht => by omega⟩
          case round =>
            obtain ⟨j, hj, rfl, hBq, HPS⟩ := hrel
            by_cases hj2 : j < (turnedOf bd r).length
            · obtain ⟨p, hy⟩ : ∃ y, (turnedOf bd r)[j]? = some y := ⟨_, List.getElem?_eq_getElem hj2⟩
              obtain ⟨bb, boff, rfl, hbl2, c0, c1, c2⟩ := pts_get (HOr.out.below hBq) hy
              obtain ⟨ps, hp1, hp2, hp3⟩ := HPS.out
              have HPP := Lib.hid (And.intro hp1 (And.intro hp2 hp3))
              have HYP := Lib.hid hy
              have hpb := HTB.out p (List.mem_of_getElem? hy)
              have hat := HAT.out
              have HP1 := Lib.hid (fun W => lplus_any p r.at_ 1 W (hpb.mono (by omega)) (hat.mono (by omega)))
              have hq1 := padd_bd hpb hat
              have HQ1 := Lib.hid hq1
              have HBQ := Lib.hid hBq
              have hbw := HBZ.out
              have k3 := (hBq.cell (p := ⟨wo.heap.size, 3, none⟩) hbw).trans HKK.out.1
              have k4 := (hBq.cell (p := ⟨wo.heap.size, 4, none⟩) hbw).trans HKK.out.2.1
              have k5 := (hBq.cell (p := ⟨wo.heap.size, 5, none⟩) hbw).trans HKK.out.2.2.1
              have hzq : wo.heap.size < wr.heap.size := Nat.lt_of_lt_of_le hbw hBq.size
              have HHJ : Hid (∃ p0, ps[j]? = some p0) := ⟨_, List.getElem?_eq_getElem (by omega)⟩
              clear hy hBq hp1 hp2 hp3 HPS hpb hat hq1 hbw
              go_wp2_with fail
              refine (HP1.out _).mono ?_
              rintro e w7 ⟨rfl, hb7⟩
              obtain ⟨p0, hp0⟩ := HHJ.out
              have HO7 : Hid (OwnPts w7 wp.heap.size (.slice (some ⟨wp.heap.size, 0, none⟩) (turnedOf bd r).length (turnedOf bd r).length) ps) := OwnN.below (HPP.out.1.alloc _) hb7
              have HB7 : Hid (Below wp.heap.size wp w7) := bstep (HBQ.out.alloc HBQ.out.size _) hb7
              obtain ⟨g0, g1, g2, gf, glt⟩ := own_at3 HO7.out hp0
              have g0' : w7.cell? ⟨wp.heap.size, 0 + j * 3, none⟩ = some (.int .i64 p0.x) := by rw [Nat.zero_add]; exact g0
              have g1' : w7.cell? ⟨wp.heap.size, 0 + j * 3 + 1, none⟩ = some (.int .i64 p0.y) := by rw [Nat.zero_add]; exact g1
              have g2' : w7.cell? ⟨wp.heap.size, 0 + j * 3 + 2, none⟩ = some (.int .i64 p0.z) := by rw [Nat.zero_add]; exact g2
              clear hb7 hp0 k3 k4 k5 c0 c1 c2
              generalize hq1 : padd p (pmul 1 r.at_) = q1 at *
              have hjps : j < ps.length := by rw [HPP.out.2.1]; exact hj2
              have HO8 : Hid (OwnPts (((w7.setCell ⟨wp.heap.size, j * 3, none⟩ (.int .i64 q1.x)).setCell ⟨wp.heap.size, j * 3 + 1, none⟩ (.int .i64 q1.y)).setCell ⟨wp.heap.size, j * 3 + 2, none⟩ (.int .i64 q1.z)) wp.heap.size (.slice (some ⟨wp.heap.size, 0, none⟩) (turnedOf bd r).length (turnedOf bd r).length) (ps.set j q1)) := own_set3 HO7.out j q1 hjps
              have HB8 : Hid (Below wp.heap.size wp (((w7.setCell ⟨wp.heap.size, j * 3, none⟩ (.int .i64 q1.x)).setCell ⟨wp.heap.size, j * 3 + 1, none⟩ (.int .i64 q1.y)).setCell ⟨wp.heap.size, j * 3 + 2, none⟩ (.int .i64 q1.z))) := HB7.out.grown (grown_set3 _ _ _ _ _ _) HB7.out.size (fun g hg => by cases hg; exact Nat.le_refl _)
              have HQE := Lib.hid hq1
              clear hq1
              by_cases hm0 : 0 < m
              · have hm1 : (0 : Int) < (m : Int) := by omega
                go_wp2_with fail
                obtain ⟨w8, hw8⟩ : ∃ w8, (((w7.setCell ⟨wp.heap.size, j * 3, none⟩ (.int .i64 q1.x)).setCell ⟨wp.heap.size, j * 3 + 1, none⟩ (.int .i64 q1.y)).setCell ⟨wp.heap.size, j * 3 + 2, none⟩ (.int .i64 q1.z)) = w8 := ⟨_, rfl⟩
                rw [hw8] at HO8 HB8 ⊢
                clear hw8 g0 g1 g2 gf g0' g1' g2' glt
                have hgetq : (ps.set j q1)[j]? = some q1 := by rw [List.getElem?_set_self hjps]
                obtain ⟨s0, s1, s2, sf, slt⟩ := own_at3 HO8.out hgetq
                have hbw := HBZ.out
                have k6 := (HB8.out.cell (p := ⟨wo.heap.size, 6, none⟩) hbw).trans HKK.out.2.2.2.1
                have k7 := (HB8.out.cell (p := ⟨wo.heap.size, 7, none⟩) hbw).trans HKK.out.2.2.2.2.1
                have k8 := (HB8.out.cell (p := ⟨wo.heap.size, 8, none⟩) hbw).trans HKK.out.2.2.2.2.2
                have hzq8 : wo.heap.size < w8.heap.size := Nat.lt_of_lt_of_le hbw HB8.out.size
                have j0 : (0 : Int) ≤ (j : Int) := Int.natCast_nonneg _
                have j1 : (j : Int) < ((turnedOf bd r).length : Int) := by omega
                clear hgetq hbw
                have HP2 := Lib.hid (fun W => lplus_any q1 r.step (m : Int) W (HQ1.out.mono (by omega)) ((HST.out (by omega) m (by omega) (by omega)).mono (by omega)))
                have HGQ : Hid (∃ z, (ps.set j q1)[j]? = some z) := ⟨q1, by rw [List.getElem?_set_self hjps]⟩
                go_region_with ((go_at_call 106; (with_reducible refine (HP2.out _).mono ?_); rintro e w9 ⟨rfl, hb9⟩; have HO9 := Lib.hid (OwnN.below HO8.out (below_drawn hb9) : OwnPts w9 wp.heap.size _ _); have HB9 := Lib.hid (bstep HB8.out (below_drawn hb9)); clear hb9; obtain ⟨z0, hz0⟩ := HGQ.out; obtain ⟨t0, t1, t2, tf, tlt⟩ := own_at3 HO9.out hz0; clear hz0))
                all_goals
                  have HSH : Hid (shiftP r (m : Int) p = padd q1 (pmul (m : Int) r.step)) := by show shiftP r (m : Int) p = _; unfold shiftP; rw [if_pos hm1, HQE.out]
                  generalize hq2 : padd q1 (pmul (m : Int) r.step) = q2 at *
                  have HQ2 := Lib.hid hq2
                  clear hq2
                  have HO10 : Hid (OwnPts (((w9.setCell ⟨wp.heap.size, j * 3, none⟩ (.int .i64 q2.x)).setCell ⟨wp.heap.size, j * 3 + 1, none⟩ (.int .i64 q2.y)).setCell ⟨wp.heap.size, j * 3 + 2, none⟩ (.int .i64 q2.z)) wp.heap.size (.slice (some ⟨wp.heap.size, 0, none⟩) (turnedOf bd r).length (turnedOf bd r).length) ((ps.set j q1).set j q2)) := own_set3 HO9.out j q2 (by rw [List.length_set]; exact hjps)
                  have HB10 : Hid (Below wp.heap.size wp (((w9.setCell ⟨wp.heap.size, j * 3, none⟩ (.int .i64 q2.x)).setCell ⟨wp.heap.size, j * 3 + 1, none⟩ (.int .i64 q2.y)).setCell ⟨wp.heap.size, j * 3 + 2, none⟩ (.int .i64 q2.z))) := HB9.out.grown (grown_set3 _ _ _ _ _ _) HB9.out.size (fun g hg => by cases hg; exact Nat.le_refl _)
                  have HNX := Lib.hid (set_next (f := shiftP r (m : Int)) HPP.out.2.1 HPP.out.2.2 HYP.out q1 (show shiftP r (m : Int) p = q2 from HSH.out))
                  go_wp2
                  go_roundw
                  case rel =>
                    first
                      | exact ⟨j + 1, by omega, by go_num, HB10.out, _, HO10.out, HNX.out⟩
                      | ((repeat apply Exists.intro); refine ⟨?_, rfl⟩; exact ⟨j + 1, by omega, by go_num, HB10.out, _, HO10.out, HNX.out⟩)
                  case measure => simp [intOf]; omega
              · have hm1 : ¬ (0 : Int) < (m : Int) := by omega
                have HSH : Hid (shiftP r (m : Int) p = q1) := by show shiftP r (m : Int) p = _; unfold shiftP; rw [if_neg hm1, HQE.out]
                have HNX := Lib.hid (set_next1 (f := shiftP r (m : Int)) HPP.out.2.1 HPP.out.2.2 HYP.out (show shiftP r (m : Int) p = q1 from HSH.out))
                go_wp2
                go_roundw
                case rel =>
                  first
                    | exact ⟨j + 1, by omega, by go_num, HB8.out, _, HO8.out, HNX.out⟩
                    | ((repeat apply Exists.intro); refine ⟨?_, rfl⟩; exact ⟨j + 1, by omega, by go_num, HB8.out, _, HO8.out, HNX.out⟩)
                case measure => simp [intOf]; omega
            · obtain rfl : j = (turnedOf bd r).length := by omega
              have HYIN : Hid (∃ ps, OwnPts wr wp.heap.size (.slice (some ⟨wp.heap.size, 0, none⟩) (turnedOf bd r).length (turnedOf bd r).length) ps ∧ ps = barPts l r m) := by
                obtain ⟨ps, hp1, hp2, hp3⟩ := HPS.out
                refine ⟨ps, hp1, ?_⟩
                rw [HBP.out]
                exact eq_map hp2 (fun t p ht => hp3 t p ((List.getElem?_eq_some_iff.1 ht).1) ht)
              have HJW : Hid (J ys wr) := HJ.out _ _ _ HYS.out.2.1 hBq
              have HKW : Hid (Kc w5 wr) := HYS.out.2.2.trans (Kc.below hBq)
              have HTD : Hid (Told l rs w.heap.size (cn + m, .slice (some ⟨wp.heap.size, 0, none⟩) (turnedOf bd r).length (turnedOf bd r).length) wr) := by
                obtain ⟨ps, hp1, hp2⟩ := HYIN.out
                refine ⟨barPts l r m, HLA.out m (by omega), ?_⟩
                rw [← hp2]
                exact OwnN.mono hp1 (Nat.le_trans HWS.out (Nat.le_trans HXX.out.2.2.size (Nat.le_trans HK5.out.1.size HYS.out.2.2.size)))
              clear hBq HPS HYIN
              go_upto_region 16 with fail
              obtain ⟨fn, tmps, assign, body, hy, hR⟩ := HY.out ys (cn + m, .slice (some ⟨wp.heap.size, 0, none⟩) (turnedOf bd r).length (turnedOf bd r).length) wr HJW.out HTD.out
              simp only [Int.natCast_add] at hy
              refine (wpIn_wide (n := n)).1 ?_
              gi_wp2
              refine hR.mono ?_
              rintro e w9 (⟨rfl, hJ9, hk9⟩ | ⟨rfl, hJx9⟩)
              · have HN9 : Hid (∃ xs, xs.map Prod.fst = List.range (cn + (m + 1)) ∧ J xs w9 ∧ Kc w5 w9) := ⟨_, by rw [List.map_append, HYS.out.1, ← Nat.add_assoc, List.range_succ]; rfl, hJ9, HKW.out.trans hk9⟩
                clear hJ9 hk9
                gi_wp2_with fail
                go_wp2
                go_roundw
                case rel => exact ⟨m + 1, by omega, by go_num, by exact val_int (by omega), HN9.out⟩
                case measure => simp [intOf]; omega
              · gi_wp2_with fail
                go_wp2
                refine bodyPost_ret (results_none rfl _ _ _) rfl ?_
                exact ⟨⟨_, rfl⟩, .inr ⟨_, trivial, hJx9⟩⟩
        · have hme : m = r.count.toNat := by omega
          have HN9 : Hid (∃ xs, xs.map Prod.fst = List.range (cumN (rs.take (k + 1))) ∧ J xs wr ∧ Kc W wr) := by
            obtain ⟨ys, h1, h2, h3⟩ := HZ.out
            exact ⟨ys, by rw [HSN.out, ← hme]; exact h1, h2, HXX.out.2.2.trans (HK5.out.1.trans h3)⟩
          have HCN : Hid (cn + m = cumN (rs.take (k + 1))) := by show _ = _; rw [HSN.out, ← hme]
          clear HZ
          go_wp2
          go_roundw
          case rel => exact ⟨k + 1, by omega, by go_num, by exact val_int (by have := HCN.out; omega), HN9.out⟩
          case measure => simp [intOf]; omega
    · obtain rfl : k = rs.length := by omega
      rw [List.take_length] at *
      go_wp2
      go_end0
      obtain ⟨xs, h1, h2, _⟩ := HX.out
      exact ⟨⟨_, rfl⟩, .inl ⟨xs, h1, h2⟩⟩
end

section
open Go.RowKit Go.Shelf
set_option linter.unusedVariables false
set_option linter.unusedSimpArgs false
attribute [local go_sem] Oper.semAt_some

/-- A function whose body holds a range over a function, opened for the plain walk. -/
theorem calls_marks {P : Program} {f : FuncId} {fn : Func} {c : Code} {args : Array Value} {w : World} {R : Ending → World → Prop}
    (hf : P.funcs[f]? = some fn) (hb : fn.body = some c)
    (h : c.wp P (bodyPostM Fence.wide 5 P fn R) { tmps := args ++ Array.replicate (fn.ntmps - args.size) undef, defers := [] } w) : Calls P f args w R :=
  callsIn_wide.1 (callsIn_of_wp_marks hf hb trivial (wpIn_wide.2 h) rfl)
theorem marks_one {P : Program} {fn : Func} {R : Ending → World → Prop} {a : Act} {w : World} {D : Nat} {v : Value} (hd : a.defers = [{ target := .collected D, args := #[] }]) (hK : w.heap[D]? = some (.deferred (some [])))
    (h : (results fn a.tmps).run P (w.putObj D (.deferred none)) = .ok v (w.putObj D (.deferred none))) (hR : R (.returned v) (w.putObj D (.deferred none))) : bodyPostM Fence.wide 5 P fn R .ret a w := by
  show LeavesInM Fence.wide 5 P fn a.tmps R a.defers .returning w
  rw [hd]
  exact ⟨by simp, .inl ⟨D, _, rfl, run_takeDeferred hK, ⟨_, h, hR⟩⟩⟩

theorem all_any (ao ro : Option Addr) (al rl ac rc : Nat) (w : World) : Calls Tryz.prog 113 #[.slice ao al ac, .slice ro rl rc] w fun e w' => e = .returned (.func (.func 144) #[] #[.pointer (some ⟨w.heap.size + 1, 0, none⟩), .pointer (some ⟨w.heap.size, 0, none⟩)]) ∧ (w.alloc (.cells #[.slice ao al ac] 22)).alloc (.cells #[.slice ro rl rc] 23) = w' := by
  go_enter Tryz.func113, Tryz.ntmps113
  go_wp2
  go_ret
  exact ⟨rfl, rfl⟩

/-- The world of the loop: nothing old has changed; no bar so far was the one. -/
def PathI (W5 : World) (i : Int) (pre : List (Nat × Value)) (W : World) : Prop := Below W5.heap.size W5 W ∧ ∀ x ∈ pre, (x.1 : Int) ≠ i
/-- The bar is found: its points lie in both cells of the results. -/
def PathX (w : World) (l : List BarD) (rs : List RunD) (i : Int) (W : World) : Prop :=
  Below w.heap.size w W ∧ w.heap.size + 1 + 1 < W.heap.size ∧ ∃ (q : List Pt) (v : Value), 0 ≤ i ∧ (laidPts l rs)[i.toNat]? = some q ∧ OwnPts W w.heap.size v q ∧ BlkIs W (w.heap.size + 1) 130 #[v] ∧ BlkIs W (w.heap.size + 1 + 1) 28 #[.int .i64 0]
theorem pathI_own (W5 : World) (i : Int) : OwnFrom W5.heap.size (PathI W5 i) := by
  rintro pre W W' row ⟨h1, h2⟩ hg hr
  exact ⟨h1.grown hg h1.size (fun g e => (hr g e).1), h2⟩
theorem blk_own {W W' : World} {row : Option Nat} {g : Nat} {t : TypeId} {cs : Array Value} (h : BlkIs W g t cs) (hg : W.grownBy W' row) (hr : ∀ r, row = some r → ∃ o : Obj, W.heap[r]? = some o ∧ o.isCells = false) : BlkIs W' g t cs :=
  (hg.block g h.lt (fun e => by
    obtain ⟨o, ho, hc⟩ := hr g e.symm
    have h' : W.heap[g]? = _ := h
    rw [h'] at ho; cases ho; cases hc)).trans h
theorem ownpts_own {W W' : World} {row : Option Nat} {B : Nat} {v : Value} {q : List Pt} (h : OwnPts W B v q) (hg : W.grownBy W' row) (hr : ∀ r, row = some r → ∃ o : Obj, W.heap[r]? = some o ∧ o.isCells = false) : OwnPts W' B v q := by
  refine OwnN.only h hg (fun g hgv e => ?_)
  obtain ⟨o, ho, hc⟩ := hr g e.symm
  rcases h.2 with ⟨h', _⟩ | ⟨g', cap', cur, h', hb, hh, _⟩
  · rw [h'] at hgv; cases hgv
  · rw [h'] at hgv; cases hgv
    rw [hh] at ho; cases ho; cases hc
theorem pathX_own (w : World) (l : List BarD) (rs : List RunD) (i : Int) (B : Nat) (hB : w.heap.size ≤ B) : OwnFrom B (fun (_ : List (Nat × Value)) W => PathX w l rs i W) := by
  rintro pre W W' row ⟨h1, h2, q, v, h3, h4, h5, h6, h7⟩ hg hr
  have hr' : ∀ r, row = some r → ∃ o : Obj, W.heap[r]? = some o ∧ o.isCells = false := fun r e => (hr r e).2
  exact ⟨h1.grown hg h1.size (fun g e => Nat.le_trans hB (hr g e).1), Nat.lt_of_lt_of_le h2 hg.size, q, v, h3, h4, ownpts_own h5 hg hr', blk_own h6 hg hr', blk_own h7 hg hr'⟩

def PathPost (w : World) (l : List BarD) (rs : List RunD) (i : Int) (e : Ending) (w' : World) : Prop :=
  (∃ (q : List Pt) (v : Value), 0 ≤ i ∧ (laidPts l rs)[i.toNat]? = some q ∧ e = .returned (.tuple #[v, .int .i64 0]) ∧ OwnPts w' w.heap.size v q ∧ Below w.heap.size w w') ∨
  ((i < 0 ∨ (cumN rs : Int) ≤ i) ∧ e = .returned (.tuple #[.slice none 0 0, .int .i64 2]) ∧ Below w.heap.size w w')

theorem below_put {w W : World} {D : Nat} {o : Obj} (h : Below w.heap.size w W) (hD : w.heap.size ≤ D) : Below w.heap.size w (W.putObj D o) := h.grown (grownBy_putObj' W D o) h.size (fun g e => by cases e; exact hD)
theorem path_end {a : Act} {W : World} {D R : Nat} {v : Value} {er : Int} {Rr : Ending → World → Prop} (hd : a.defers = [{ target := .collected D, args := #[] }]) (h6 : a.tmps.getD 6 undef = .pointer (some ⟨R, 0, none⟩)) (h7 : a.tmps.getD 7 undef = .pointer (some ⟨R + 1, 0, none⟩))
    (hK : W.heap[D]? = some (.deferred (some []))) (b1 : BlkIs W R 130 #[v]) (b2 : BlkIs W (R + 1) 28 #[.int .i64 er]) (hR : Rr (.returned (.tuple #[v, .int .i64 er])) (W.putObj D (.deferred none))) :
    bodyPostM Fence.wide 5 Tryz.prog Tryz.f91 Rr .ret a W := by
  have hr : ∀ r, some D = some r → ∃ o : Obj, W.heap[r]? = some o ∧ o.isCells = false := fun r e => by cases e; exact ⟨_, hK, rfl⟩
  have c1 := (blk_own b1 (grownBy_putObj' W D (.deferred none)) hr).cell 0
  have c2 := (blk_own b2 (grownBy_putObj' W D (.deferred none)) hr).cell 0
  refine marks_one hd hK ?_ hR
  generalize W.putObj D (.deferred none) = Z at *
  simp at h6 h7 c1 c2
  simp [results, Tryz.results91, go_sem, h6, h7, c1, c2]
set_option maxRecDepth 100000 in
set_option maxHeartbeats 4000000 in
theorem path_good (v vr : Value) (i : Int) (l : List BarD) (rs : List RunD) (w : World) (hp : Bars w v l) (hr : Runs w vr rs) (hl : l.length ≤ 140737488355328) (hlr : rs.length ≤ 140737488355328) (hf : FitB l) (h : laidOk l rs = true) :
    Calls Tryz.prog 91 #[v, vr, .int .i64 i] w (PathPost w l rs i) := by
  obtain ⟨q1, q2, q3, q4⟩ := laidOk_parts h
  have HV := Lib.hid (fun W (hW : Below w.heap.size w W) => lvalid_any v vr l rs W (hp.below hW) (hr.below hW) hl hlr hf)
  rw [h] at HV
  obtain ⟨ao, cap, rfl⟩ := hp.at_
  obtain ⟨ro, rcap, rfl⟩ := hr.at_
  have HP := Lib.hid hp
  have HR := Lib.hid hr
  have HA := Lib.hid (fun W => all_any ao ro l.length rs.length cap rcap W)
  have HT := Lib.hid (fun W5 RB BB (b1 : BlkIs W5 RB 23 #[.slice ro rs.length rcap]) (b2 : BlkIs W5 BB 22 #[.slice ao l.length cap]) (b3 : Below w.heap.size w W5) => all1_told 4 (by omega) l rs (.slice ao l.length cap) (.slice ro rs.length rcap) W5 RB BB b1 b2 (hp.below b3) (hr.below b3) hl q2 hf q1 q3)
  clear hp hr h q1 q2 q3 q4
  refine calls_marks Tryz.func91 rfl ?_
  simp only [Tryz.ntmps91, List.size_toArray, List.length_cons, List.length_nil, Nat.reduceAdd, Nat.reduceSub, Array.replicate_succ, Array.replicate_zero, List.push_toArray, List.append_toArray, List.nil_append, List.cons_append]
  go_wp2_with fail
  refine (HV.out _ (by go_grown)).mono ?_
  rintro e w1 ⟨rfl, hb1⟩
  have HB1 := Lib.hid (bstep (by go_grown) hb1 : Below w.heap.size w w1)
  have BI1 : Hid (BlkIs w1 w.heap.size 3 #[.int .i64 i]) := (((BlkIs.new w _ _).alloc _).alloc _).below hb1
  have BP1 : Hid (BlkIs w1 (w.heap.size + 1) 130 #[.slice none 0 0]) := ((BlkIs.new1 w _ _ _).alloc _).below hb1
  have BE1 : Hid (BlkIs w1 (w.heap.size + 1 + 1) 28 #[.int .i64 0]) := BlkIs.below (by have h := BlkIs.new1 (w.alloc (.cells #[.int .i64 i] 3)) (.cells #[.slice none 0 0] 130) #[.int .i64 0] 28; rw [World.size_alloc] at h; exact h) hb1
  clear hb1
  go_wp2_with fail
  refine (HA.out _).mono ?_
  rintro e w5 ⟨rfl, hw5⟩
  have HB5 : Hid (Below w.heap.size w w5) := by rw [← hw5]; exact (HB1.out.alloc HB1.out.size _).alloc (by have := HB1.out.size; simp; omega) _
  have BI5 : Hid (BlkIs w5 w.heap.size 3 #[.int .i64 i]) := by rw [← hw5]; exact (BI1.out.alloc _).alloc _
  have BP5 : Hid (BlkIs w5 (w.heap.size + 1) 130 #[.slice none 0 0]) := by rw [← hw5]; exact (BP1.out.alloc _).alloc _
  have BE5 : Hid (BlkIs w5 (w.heap.size + 1 + 1) 28 #[.int .i64 0]) := by rw [← hw5]; exact (BE1.out.alloc _).alloc _
  have hTD := HT.out w5 (w1.heap.size + 1) w1.heap.size (by rw [← hw5]; exact BlkIs.new1 _ _ _ _) (by rw [← hw5]; exact (BlkIs.new _ _ _).alloc _) HB5.out
  have hz5 := BE5.out.lt
  clear hw5
  go_wp2_with fail
  refine (wpIn_wide (n := 5)).1 ?_
  refine wpIn_told (F := Fence.wide) (n := 5) rfl (by decide) (gf := 144) (lb := #[.pointer (some ⟨w1.heap.size + 1, 0, none⟩), .pointer (some ⟨w1.heap.size, 0, none⟩)]) rfl trivial (enters_of Tryz.func144 (by kernel_rfl) rfl)
    hTD (fun h k => h.trans k) (fun W l' o o' _ hl ho _ => Kc.put W l' o o' hl ho) (fun _ => rfl)
    (PathI w5 i) (fun _ W => PathX w l rs i W) (pathI_own w5 i) (pathX_own w l rs i _ (by omega)) (told_own l rs _ _) ⟨Below.refl _ _, by simp⟩ ?a1 ?assign ?body ?done ?stop
  case assign =>
    intro l x W K hK
    gi_wp2
    exact hK
  case body =>
    rintro L pre ⟨j, sv⟩ W hI ⟨q, hq, ho⟩
    obtain ⟨so, sc, rfl⟩ := OwnN.shape ho
    have c0 := (BI5.out.below hI.1).cell 0
    have d0 := (BP5.out.below hI.1).cell 0
    have d1 := (BP5.out.below hI.1).free 0
    have e0 := (BE5.out.below hI.1).cell 0
    have e1 := (BE5.out.below hI.1).free 0
    have BP := Lib.hid (BP5.out.below hI.1)
    have BE := Lib.hid (BE5.out.below hI.1)
    have HII := Lib.hid hI
    have HYY := Lib.hid (And.intro hq ho)
    clear hI hq ho
    by_cases hji : (j : Int) = i
    · have hb : ((j : Int) == i) = true := beq_yes hji
      have HJI := Lib.hid hji
      clear hji
      gi_wp2
      have hg : W.grownBy ((W.setCell ⟨w.heap.size + 1, 0, none⟩ (.slice so q.length sc)).setCell ⟨w.heap.size + 1 + 1, 0, none⟩ (.int .i64 0)) (some (w.heap.size + 1)) ∨ True := .inr trivial
      refine ⟨(KeepsFrom.of_grownBy (only_set W (w.heap.size + 1) 0 _) (fun j hj => by cases hj; omega)).trans (KeepsFrom.of_grownBy (only_set _ (w.heap.size + 1 + 1) 0 _) (fun j hj => by cases hj; omega)), ?_⟩
      have hsz := HII.out.1.size
      refine ⟨((bstep HB5.out HII.out.1).setCell (by first | (simp; done) | (simp; omega)) _).setCell (by first | (simp; done) | (simp; omega)) _, by simp; omega, q, .slice so q.length sc, by have := HJI.out; omega, ?_, ?_, ?_, ?_⟩
      · rw [← HJI.out]; exact HYY.out.1
      · exact (OwnN.far (OwnN.far HYY.out.2 (by omega)) (by omega)).mono HB5.out.size
      · exact ((BP.out.set 0 _).far (by simp) _)
      · exact (BE.out.far (by simp) _).set 0 _
    · have hb : ((j : Int) == i) = false := beq_no hji
      have HJI := Lib.hid hji
      clear hji
      gi_wp2
      refine ⟨KeepsFrom.refl _ _, Kc.refl _, HII.out.1, fun x hx => ?_⟩
      rcases List.mem_append.1 hx with hx | hx
      · exact HII.out.2 x hx
      · rw [List.mem_singleton.1 hx]; exact HJI.out
  case done =>
    rintro D xs W hD hS hI hK
    have d0 := (BP5.out.below hI.1).cell 0
    have d1 := (BP5.out.below hI.1).free 0
    have e0 := (BE5.out.below hI.1).cell 0
    have e1 := (BE5.out.below hI.1).free 0
    have HII := Lib.hid hI
    have HSS := Lib.hid hS
    have HKK := Lib.hid hK
    clear hI hS hK
    go_wp2
    have hsz := HII.out.1.size
    have hge : D ≠ w.heap.size + 1 ∧ D ≠ w.heap.size + 1 + 1 := by constructor <;> omega
    refine path_end (D := D) (R := w.heap.size + 1) (v := .slice none 0 0) (er := 2) rfl rfl rfl ?_ ?_ ?_ ?_
    · rw [heap_setCell_other _ _ _ _ (by simp; omega), heap_setCell_other _ _ _ _ (by simp; omega)]; exact HKK.out
    · exact ((BP5.out.below HII.out.1).set 0 _).far (by simp) _
    · exact ((BE5.out.below HII.out.1).far (by simp) _).set 0 _
    · refine .inr ⟨?_, rfl, ?_⟩
      · have h1 := HSS.out
        have h2 := HII.out.2
        by_cases hi : i < 0
        · exact .inl hi
        · right
          rcases Int.lt_or_le i (cumN rs : Int) with hlt | hge
          · exfalso
            have hm : i.toNat ∈ xs.map Prod.fst := by rw [h1]; exact List.mem_range.2 (by omega)
            obtain ⟨x, hx, hxe⟩ := List.mem_map.1 hm
            exact h2 x hx (by omega)
          · exact hge
      · exact below_put ((((bstep HB5.out HII.out.1).setCell (by first | (simp; done) | (simp; omega)) _).setCell (by first | (simp; done) | (simp; omega)) _)) (by omega)
  case stop =>
    rintro D pre W hD _ hX hK
    refine wpIn_ret ?_
    obtain ⟨h1, h2, q, v, h3, h4, h5, h6, h7⟩ := hX
    show bodyPostM _ _ _ _ _ .ret _ _
    refine path_end (D := D) (R := w.heap.size + 1) (v := v) (er := 0) rfl rfl rfl hK h6 h7 ?_
    have hr : ∀ r, some D = some r → ∃ o : Obj, W.heap[r]? = some o ∧ o.isCells = false := fun r e => by cases e; exact ⟨_, hK, rfl⟩
    exact .inl ⟨q, v, h3, h4, rfl, ownpts_own h5 (grownBy_putObj' W D _) hr, below_put h1 (by omega)⟩
end
end
end Go.Proofs.YtamogedpgkofjaaGreat
