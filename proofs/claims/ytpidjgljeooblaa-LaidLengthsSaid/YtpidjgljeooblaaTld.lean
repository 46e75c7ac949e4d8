/-
  A range over a function whose iterator promises something of what it hands over, in the world in which it does so; the body goes on or returns.
-/
import Derived.RangeFuncNested
import Derived.RangeFuncBound
import Derived.RangeFuncCalls
import Derived.RangeFuncLeaves
import Derived.RangeFuncBox
import Derived.Shelf.Abstract
import Derived.Shelf.RegionOpen
import Derived.WalkKit
import Derived.OwnWalkIn
import Derived.TacticsInMore
import Derived.LoopNIn
import Derived.LoopIn
import Derived.Test.YtpidjgljeooblaaLdF
namespace Go.Proofs.Ytpidjgljeooblaa
open Go.RowKit Go.Shelf
set_option linter.unusedVariables false
attribute [local go_sem] Oper.semAt_some

/-- The iterator's contract: each time it hands x over, Y x holds of the world. -/
def Tells {α : Type} (F : Fence) (n : Nat) (P : Program) (g : Nat) (lb : Array Value) (encs : α → Array Value) (Kp : World → World → Prop) (Y : α → World → Prop) (S Sp : List α → Prop) (w : World) : Prop :=
  ∀ (l : Nat) (J Jx : List α → World → Prop) (W : World), Below w.heap.size w W → AbidesFrom W.heap.size J →
    (∀ pre x W1, J pre W1 → Y x W1 → YieldAt F (n - 1) P l (encs x) W1 fun e W' => (e = .returned (.bool true) ∧ J (pre ++ [x]) W' ∧ Kp W1 W') ∨ (e = .returned (.bool false) ∧ Jx (pre ++ [x]) W')) →
    J [] W →
    CallsIn F n P g (#[.func (.yield l) #[] #[]] ++ lb) W fun e W' => (∃ v, e = .returned v) ∧ ((∃ xs, S xs ∧ J xs W') ∨ (∃ pre, Sp pre ∧ Jx pre W'))

/-- How a round ends: it goes on, or the function returns. -/
def roundPost {α : Type} (B : Nat) (Kp : World → World → Prop) (I Ix : List α → World → Prop) (xs : List α) (W : World) : Exit → Act → World → Prop
  | .normal, _, W' => KeepsFrom B W W' ∧ Kp W W' ∧ I xs W'
  | .ret, _, W' => KeepsFrom B W W' ∧ Ix xs W'
  | _, _, _ => False

theorem wpIn_told {α : Type} {F : Fence} {n : Nat} {P : Program} {g : Operand} {ps : Array Tmp} {assign body : Code} {Q : Exit → Act → World → Prop} {a : Act} {w : World}
    (hro : F.round = none) (h1 : 1 ≤ n) {gf : Nat} {lb : Array Value} (hg : a.eval g = .func (.func gf) #[] lb) (hFg : F.fn gf) (eg : ∀ args w, (callFunc gf args).run P w = .ok (.enter gf args) w)
    {encs : α → Array Value} {Kp : World → World → Prop} {Y : α → World → Prop} {S Sp : List α → Prop} (hseq : Tells F (n - 1) P gf lb encs Kp Y S Sp w)
    (hKt : ∀ {A B C : World}, Kp A B → Kp B C → Kp A C) (hKb : ∀ (W : World) (l : Nat) (o o' : Obj), w.heap.size ≤ l → W.heap[l]? = some o → o.isCells = false → o.isWalk = false → Kp W (W.putObj l o')) (hps : ∀ x, (encs x).size = ps.size)
    (I Ix : List α → World → Prop) (hI : OwnFrom w.heap.size I) (hIx : OwnFrom w.heap.size Ix) (hY : OwnFrom w.heap.size Y) (h0 : I [] w) (a₁ : α → Act)
    (hassign : ∀ (l : Nat) (x : α) (W : World) (K : Act → World → Prop), K (a₁ x) W →
      assign.wpIn (F.inRound l) (n - 1 - 1) P (Exit.then K (fun _ _ _ => False)) { tmps := (ps.zip (encs x)).foldl (fun t (p, v) => t.setIfInBounds p v) a.tmps, defers := [] } W)
    (hbody : ∀ (l : Nat) (pre : List α) (x : α) (W : World), I pre W → Y x W → body.wpIn (F.inRound l) (n - 1 - 1) P (roundPost w.heap.size Kp I Ix (pre ++ [x]) W) (a₁ x) W)
    (hdone : ∀ (D : Nat) (xs : List α) (W : World), w.heap.size ≤ D → S xs → I xs W → W.heap[D]? = some (.deferred (some [])) → Q .normal { a with defers := { target := .collected D, args := #[] } :: a.defers } W)
    (hstop : ∀ (D : Nat) (pre : List α) (W : World), w.heap.size ≤ D → Sp pre → Ix pre W → W.heap[D]? = some (.deferred (some [])) → Code.ret.wpIn F n P Q { a with defers := { target := .collected D, args := #[] } :: a.defers } W) :
    (Code.rangeFunc g ps assign body).wpIn F n P Q a w := by
  refine wpIn_rangeFunc ?_
  intro fn hfn
  rw [hro]
  -- the loop's record in its states; the world in which the iterator is called
  obtain ⟨R, hR⟩ : ∃ R : LoopState → Option Code → Loop, R = fun st pe => { state := st, pending := pe, fn, tmps := a.tmps, params := ps, assign, body, defers := w.heap.size } := ⟨_, rfl⟩
  have hW1h : ((w.alloc (.deferred (some []))).alloc (.loop (R .ready none))).heap[w.heap.size + 1]? = some (.loop (R .ready none)) ∧ ((w.alloc (.deferred (some []))).alloc (.loop (R .ready none))).heap[w.heap.size]? = some (.deferred (some [])) :=
    ⟨heap_alloc2_new w _ _, heap_alloc2_old w _ _⟩
  have hb : Below w.heap.size w ((w.alloc (.deferred (some []))).alloc (.loop (R .ready none))) := ((Below.refl _ w).alloc (Nat.le_refl _) _).alloc (by simp) _
  have hsz : w.heap.size + 2 = ((w.alloc (.deferred (some []))).alloc (.loop (R .ready none))).heap.size := by simp
  have hI1 : I [] ((w.alloc (.deferred (some []))).alloc (.loop (R .ready none))) := hI.alloc _ (hI.alloc _ h0)
  have hent := run_enterLoop_outer (P := P) (w := w) fn a.tmps ps assign body
  obtain ⟨V, hV⟩ : ∃ V, (w.alloc (.deferred (some []))).alloc (.loop (R .ready none)) = V := ⟨_, rfl⟩
  rw [hV] at hW1h hb hsz hI1
  generalize hL : w.heap.size + 1 = L at *
  have hDL : w.heap.size < L := by omega
  refine ⟨L, [{ target := .collected w.heap.size, args := #[] }], V, { target := .fn (.func gf) lb, args := #[.func (.yield L) #[] #[]] }, V, gf, #[.func (.yield L) #[] #[]] ++ lb, V, ?_, ?_, ?_, ?_, fun _ => h1, ?_⟩
  · rw [← hV, hR]; exact hent
  · simp only [resolve, hg]
    simp [go_sem]
  · intro f' hf'; simp [Target.leads] at hf'; subst hf'; exact hFg
  · simp [invoke, go_sem, eg]
  have far : ∀ {A : World} {row : Option Nat}, (∀ r, row = some r → V.heap.size ≤ r ∧ ∃ o : Obj, A.heap[r]? = some o ∧ o.isWalk = true) → ∀ r, row = some r → w.heap.size ≤ r ∧ ∃ o : Obj, A.heap[r]? = some o ∧ o.isCells = false :=
    fun h r e => by obtain ⟨q, o, ho, hw⟩ := h r e; exact ⟨by omega, o, ho, Obj.not_cells_of_walk hw⟩
  refine (hseq L (fun pre W => I pre W ∧ W.heap[L]? = some (.loop (R .ready none)) ∧ W.heap[w.heap.size]? = some (.deferred (some [])))
    (fun pre W => Ix pre W ∧ W.heap[L]? = some (.loop (R .done (some .ret))) ∧ W.heap[w.heap.size]? = some (.deferred (some []))) V hb ?keep ?round ⟨hI1, hW1h⟩).mono ?back
  case keep =>
    rintro s A B row ⟨q1, q2, q3⟩ hg' hr
    exact ⟨hI s A B row q1 hg' (far hr), (grownBy_keeps hg' (fun r e => (hr r e).2) q2 rfl).trans q2, (grownBy_keeps hg' (fun r e => (hr r e).2) q3 rfl).trans q3⟩
  case round =>
    rintro pre x W ⟨hi, hl, hk⟩ hy
    have hlt : L < W.heap.size := (Array.getElem?_eq_some_iff.1 hl).1
    have hrun := run_yield (P := P) (args := encs x) hl (by rw [hR]; exact hps x)
    rw [hR] at hrun
    refine ⟨fn, _, assign, body, hrun, roundIn_of_wpIn hfn (hassign _ x W _ ⟨_, run_beginRound hl (by rw [hR]), ?_⟩)⟩
    obtain ⟨X, hX⟩ : ∃ X, W.putObj L (.loop { R .ready none with state := .busy }) = X := ⟨_, rfl⟩
    have hlX : X.heap[L]? = some (.loop { R .ready none with state := .busy }) := by rw [← hX]; exact World.putObj_heap_same hlt
    have hkX : X.heap[w.heap.size]? = some (.deferred (some [])) := by rw [← hX]; exact (World.putObj_heap_other (by omega)).trans hk
    have hKX : Kp W X := by rw [← hX]; exact hKb _ _ _ _ (by omega) hl rfl rfl
    have hIX : I pre X := by rw [← hX]; exact hI.putObj _ hi (by omega) hl rfl
    have hYX : Y x X := by rw [← hX]; exact hY.putObj _ hy (by omega) hl rfl
    show body.wpIn _ _ _ _ _ _
    rw [hX]
    refine wpIn_mono (hbody _ pre x _ hIX hYX) ?_
    have ends : ∀ (jump : Option Code) (Z : World), KeepsFrom w.heap.size X Z →
        (Instr.endRound L jump).run P Z = .ok (.bool jump.isNone) (Z.putObj L (.loop (R (if jump.isNone then .ready else .done) jump))) ∧ Z.heap[L]? = some (.loop { R .ready none with state := .busy }) ∧
        (Z.putObj L (.loop (R (if jump.isNone then .ready else .done) jump))).heap[L]? = some (.loop (R (if jump.isNone then .ready else .done) jump)) ∧
        (Z.putObj L (.loop (R (if jump.isNone then .ready else .done) jump))).heap[w.heap.size]? = some (.deferred (some [])) := fun jump Z hZ => by
      have hlZ := hZ.same _ _ (by omega) hlX rfl
      have h3 := run_endRound (P := P) jump hlZ
      rw [hR] at h3 hlZ ⊢
      exact ⟨h3, hlZ, World.putObj_heap_same (Array.getElem?_eq_some_iff.1 hlZ).1, (World.putObj_heap_other (by omega)).trans (hZ.same _ _ (Nat.le_refl _) hkX rfl)⟩
    rintro e a3 Z hp
    cases e with
    | normal =>
      obtain ⟨hZ, hKZ, hIZ⟩ := hp
      obtain ⟨r1, r2, r3, r4⟩ := ends none Z hZ
      exact ⟨_, _, r1, .inl ⟨rfl, ⟨hI.putObj _ hIZ (by omega) r2 rfl, r3, r4⟩, hKt (hKt hKX hKZ) (hKb _ _ _ _ (by omega) r2 rfl rfl)⟩⟩
    | ret =>
      obtain ⟨hZ, hIZ⟩ := hp
      obtain ⟨r1, r2, r3, r4⟩ := ends (some .ret) Z hZ
      exact ⟨_, _, r1, .inr ⟨rfl, hIx.putObj _ hIZ (by omega) r2 rfl, r3, r4⟩⟩
    | exit id => exact hp.elim
    | goto t => exact hp.elim
    | panic ch => exact hp.elim
    | outgrown => exact hp.elim
  case back =>
    rintro e W2 ⟨⟨v, rfl⟩, (⟨xs, hS, hi, hl, hk⟩ | ⟨pre, hSp, hi, hl, hk⟩)⟩
    · have h3 := run_endLoop (P := P) hl (by rw [hR]; simp)
      rw [hR] at h3
      exact ⟨none, _, h3, hdone _ xs _ (Nat.le_refl _) hS (hI.putObj _ hi (by omega) hl rfl) ((World.putObj_heap_other (by omega)).trans hk)⟩
    · have h3 := run_endLoop (P := P) hl (by rw [hR]; simp)
      rw [hR] at h3
      exact ⟨some .ret, _, h3, hstop _ pre _ (Nat.le_refl _) hSp (hIx.putObj _ hi (by omega) hl rfl) ((World.putObj_heap_other (by omega)).trans hk)⟩
end Go.Proofs.Ytpidjgljeooblaa
