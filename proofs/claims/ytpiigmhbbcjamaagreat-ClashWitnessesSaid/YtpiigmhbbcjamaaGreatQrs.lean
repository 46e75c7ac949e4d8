/-
  Regions that draw, walked by a printed script: laws for each step, the outcome named and known by its facts alone.
-/
import Derived.Test.YtpiigmhbbcjamaaGreatLda
import Derived.Deep.RegionHeld3
namespace Go.Proofs.YtpiigmhbbcjamaaGreat
open Go Go.RowKit
set_option linter.unusedVariables false

section
variable {P : Program} {ops : Array Oper} {md : Region.Mode} {Q : Exit → Act → World → Prop} {S : World → Prop}
theorem wpAnyH_takeV {i : Nat} (d : Option Tmp) (v : Value) {oi : Oper} {fuel : Nat} {listed : Array Bool} {a : Act} {w : World} (hi : ops[i]? = some oi) (hd : oi.dst = d)
    (hB : (Region.noSelect ops && Region.free md ops listed i && (Region.ready md ops listed).contains i) = true)
    (hQ : ∀ c a w, Q (.panic c) (a.put d v) w → Q (.panic c) a w) (hy : YieldsIf P ops S oi v a) (hS : S w)
    (h : wpAnyH P md ops Q S fuel (listed.setIfInBounds i true) (a.put d v) w) : wpAnyH P md ops Q S (fuel + 1) listed a w := by
  subst hd
  simp only [Bool.and_eq_true] at hB
  exact wpAnyH_take hi hB.1.1 hB.1.2 hB.2 hQ hy hS h
variable {o : Oper} {a : Act} {K : Act → World → Prop} {E : Prop}
theorem step_allocA {W : World} (hgd : o.guard = none) (t : TypeId) (ho : o.op = .alloc t) (d : Option Tmp) (hd : o.dst = d) (zs : Array Value)
    (hrun : (Instr.alloc t true (.tuple #[])).run P W = .ok (.pointer (some ⟨W.heap.size, 0, none⟩)) (W.alloc (.cells zs t)))
    (hK : ∀ g w', W.heap.size ≤ g → BlkIs w' g t zs → Below W.heap.size W w' → K (a.put d (.pointer (some ⟨g, 0, none⟩))) w') :
    if Region.wanted o (yielded ops a.tmps) = true then Oper.wp P o a W K Q else E := by
  subst hd
  have hw : Region.wanted o (yielded ops a.tmps) = true := by simp [Region.wanted, hgd]
  rw [if_pos hw]
  unfold Oper.wp execOp
  simp only [ho, Sem.run_bind, hrun, Result.andThen_ok, Sem.run_pure]
  exact hK _ _ (Nat.le_refl _) (BlkIs.new _ _ _) (below_new _ _)
theorem step_storeA {W : World} (hgd : o.guard = none) (ty : TypeId) (x y : Operand) (ho : o.op = .store ty x y) (hd : o.dst = none)
    (g : Nat) (t : TypeId) (old cs : Array Value) (hg : BlkIs W g t old) (hsz : old.size = cs.size) (hx : a.eval x = .pointer (some ⟨g, 0, none⟩)) (hy : a.eval y = .agg cs)
    (hi : (P.info? ty).map (·.size) = some cs.size) (h1 : cs.all (·.oneCell') = true)
    (hK : ∀ w', BlkIs w' g t cs → W.grownBy w' (some g) → K a w') :
    if Region.wanted o (yielded ops a.tmps) = true then Oper.wp P o a W K Q else E := by
  have hw : Region.wanted o (yielded ops a.tmps) = true := by simp [Region.wanted, hgd]
  rw [if_pos hw]
  refine wp_store_row ty x y ho g t old cs hg hsz hx hy hi h1 (fun w' h1 h2 _ => ?_)
  rw [hd]
  exact hK w' h1 h2
theorem step_callA {W : World} (hgd : o.guard = none) (d : Option Tmp) (hd : o.dst = d) (f : FuncId) (args : Array Value) (hx : (execOp a.eval o).run P W = .ok (.enter f args) W) (R : Value → World → Prop)
    (hC : Calls P f args W fun e w' => ∃ v, e = .returned v ∧ R v w') (hK : ∀ v w', R v w' → K (a.put d v) w') :
    if Region.wanted o (yielded ops a.tmps) = true then Oper.wp P o a W K Q else E := by
  subst hd
  have hw : Region.wanted o (yielded ops a.tmps) = true := by simp [Region.wanted, hgd]
  rw [if_pos hw]
  unfold Oper.wp
  rw [hx]
  exact hC.mono fun e w' ⟨v, he, hr⟩ => by subst he; exact hK v w' hr
end
/-- A block is as it was if something else has grown. -/
theorem BlkIs.else_ {w w' : World} {g : Nat} {t : TypeId} {cs : Array Value} {r : Option Nat} (h : BlkIs w g t cs) (hg : w.grownBy w' r) (hne : some g ≠ r) : BlkIs w' g t cs := (hg.block g h.lt hne).trans h
/-- Three cells of a block are stored. -/
abbrev wset3 (w : World) (g : Nat) (P : Pt) : World := ((w.setCell ⟨g, 0, none⟩ (.int .i64 P.x)).setCell ⟨g, 1, none⟩ (.int .i64 P.y)).setCell ⟨g, 2, none⟩ (.int .i64 P.z)
theorem wblk_set3 {w : World} {g : Nat} {t : TypeId} {a b c : Value} (h : BlkIs w g t #[a, b, c]) (P : Pt) : BlkIs (wset3 w g P) g t #[.int .i64 P.x, .int .i64 P.y, .int .i64 P.z] := ((h.set 0 _).set 1 _).set 2 _
theorem wblk_far3 {w : World} {g G : Nat} {t : TypeId} {cs : Array Value} (h : BlkIs w g t cs) (hne : g ≠ G) (P : Pt) : BlkIs (wset3 w G P) g t cs := ((h.far (p := ⟨G, 0, none⟩) hne _).far (p := ⟨G, 1, none⟩) hne _).far (p := ⟨G, 2, none⟩) hne _
theorem wbelow_set3 {w0 w : World} {B g : Nat} (h : Below B w0 w) (hg : B ≤ g) (P : Pt) : Below B w0 (wset3 w g P) := ((h.setCell (p := ⟨g, 0, none⟩) hg _).setCell (p := ⟨g, 1, none⟩) hg _).setCell (p := ⟨g, 2, none⟩) hg _
theorem wblk_drew {w : World} {g : Nat} {t : TypeId} {cs : Array Value} (h : BlkIs w g t cs) : BlkIs w.drew g t cs := h
theorem run_alloc_pt (W : World) : (Instr.alloc 43 true (.tuple #[])).run Tryz.prog W = .ok (.pointer (some ⟨W.heap.size, 0, none⟩)) (W.alloc (.cells #[.int .i64 0, .int .i64 0, .int .i64 0] 43)) := by go_simp
end Go.Proofs.YtpiigmhbbcjamaaGreat
