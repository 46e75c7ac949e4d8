/-
  Couplers: an append that keeps what the old slice reads; steps of drawn regions.
-/
import Derived.Test.YtamogedpgkofjaaGreatCpm
namespace Go.Proofs.YtamogedpgkofjaaGreat
section
open Go.RowKit
set_option linter.unusedVariables false
set_option linter.unusedSimpArgs false

theorem own_prefix {α : Type} {w : World} {B : Nat} {e : TypeId} {f : α → Value} {g k cap : Nat} {l : List α} {y : α} (h : Own w B e f (.slice (some ⟨g, 0, none⟩) (k + 1) cap) (l ++ [y])) (hk : l.length = k) : Own w B e f (.slice (some ⟨g, 0, none⟩) k cap) l := by
  unfold Own at h ⊢
  rcases h.2 with ⟨h1, _⟩ | ⟨g', cap', cur, h1, hb, hh, hn, hm, hs, ht⟩
  · cases h1
  · injection h1 with e1 e2 e3
    injection e1 with e1
    injection e1 with e1
    subst e1
    subst e3
    simp only [List.length_append, List.length_cons, List.length_nil] at hn hs ht
    refine ⟨by simp, .inr ⟨g, cap, cur, by rw [hk], hb, hh, by omega, hm, hs, ?_⟩⟩
    have h2 := congrArg (List.take (l.length * 1)) ht
    rw [List.take_take, List.map_append, List.take_append_of_le_length (by simp), List.take_of_length_le (l := l.map f) (by simp)] at h2
    rw [← h2]
    congr 1
    omega
/-- Where an append leaves the old slice and the new one. -/
structure PushK {α : Type} (w w' : World) (base : Nat) (e : TypeId) (f : α → Value) (v v' : Value) (l : List α) (y : α) : Prop where
  own : Own w' base e f v' (l ++ [y])
  grown : w.grownBy w' v.ownBlock
  old : Own w' base e f v l
  at_ : (∃ g cap, v = .slice (some ⟨g, 0, none⟩) l.length cap ∧ v' = .slice (some ⟨g, 0, none⟩) (l.length + 1) cap) ∨ ∃ g, w.heap.size ≤ g ∧ v'.ownBlock = some g
theorem PushK.back {α : Type} {w w' W : World} {base : Nat} {e : TypeId} {f : α → Value} {v v' : Value} {l : List α} {y : α} (h : PushK w w' base e f v v' l y) (hg : w'.grownBy W v'.ownBlock) (ho : Own W base e f v' (l ++ [y])) (hv : ∀ g, v.ownBlock = some g → g < w.heap.size) : w.grownBy W v.ownBlock ∧ Own W base e f v l := by
  rcases h.at_ with ⟨g, cap, h1, h2⟩ | ⟨g, hgs, h2⟩
  · refine ⟨only_next h.grown hg (.inl (by rw [h1, h2]; rfl)), ?_⟩
    rw [h2] at ho
    rw [h1]
    exact own_prefix ho rfl
  · refine ⟨only_next h.grown hg (.inr (fun g' e => by rw [h2] at e; cases e; exact hgs)), h.old.only hg (fun g' e e2 => ?_)⟩
    rw [h2] at e2
    cases e2
    have := hv g e
    omega
theorem push_keep {α : Type} {P : Program} (w : World) (ty t e bytes : Nat) (he : Elem P t e bytes) (base : Nat) (f : α → Value) (v : Value) (l : List α) (y : α) (B : Nat) (h1 : (f y).oneCell' = true)
    (hown : Own w base e f v l) (hlit : w.cell? ⟨B, 0, none⟩ = some (f y))
    (h63 : l.length + 1 ≤ 1099511627776) (hby : bytes ≤ 64) (hbase : base ≤ w.heap.size) :
    ∃ v' w', (Builtin.append_ #[t, t] ty #[v, .slice (some ⟨B, 0, none⟩) 1 1]).run P w = .ok v' w' ∧ PushK w w' base e f v v' l y := by
  obtain ⟨ht, i, z, hi, hz, hsz, hb, hzs⟩ := he
  have hmul : (l.length + 1) * bytes ≤ 1099511627776 * 64 := Nat.mul_le_mul h63 hby
  have hnews : ∀ (j : Nat) u, [f y][j]? = some u → w.cell? ((⟨B, 0, none⟩ : Addr).add j) = some u := by
    intro j u hj
    match j, hj with
    | 0, hj =>
      cases hj
      rw [Addr.add_lit]; exact hlit
  have hone : ∀ u ∈ [f y], u.oneCell' = true := fun u hu => by rw [List.mem_singleton.1 hu]; exact h1
  obtain ⟨v', w', hrun, h2, h3, h4, h5⟩ := run_append_own_at (P := P) w base t ty e i z 1 bytes ht hi hz hsz hb hzs (by omega) v l.length (l.map f) hown
    ⟨B, 0, none⟩ 1 1 [f y] rfl hnews hone (by unfold maxLen; omega) (by omega) hbase
  have hO : Own w' base e f v' (l ++ [y]) := by
    unfold Own
    rw [List.length_append, List.map_append]
    exact h2
  refine ⟨v', w', hrun, hO, h3, ?_, ?_⟩
  · rcases hown.2 with ⟨hv, hn⟩ | ⟨g, cap, cur, hv, hbg, hg, hnc, hcm, hcs, htk⟩
    · exact ⟨hown.1, .inl ⟨hv, hn⟩⟩
    · subst hv
      by_cases hroom : l.length + 1 ≤ cap
      · have hr := run_append_room (P := P) w t ty e i ht hi g l.length cap cur hg ⟨B, 0, none⟩ 1 1 [f y] (by rw [hsz]; rfl) hnews hone hroom (by rw [hsz, hcs]; simp; omega)
        rw [hrun] at hr
        injection hr with e1 e2
        rw [e1] at hO
        exact own_prefix hO rfl
      · have holds : ∀ j u, (l.map f)[j]? = some u → w.cell? ((⟨g, 0, none⟩ : Addr).add j) = some u := World.ownsRow.cells hown (g := g) rfl
        have hr := run_append_grow (P := P) w t ty e i z ht hi hz ⟨g, 0, none⟩ l.length cap (l.map f) (by rw [hsz]; simp) holds ⟨B, 0, none⟩ 1 1 [f y] (by rw [hsz]; rfl) hnews (by omega) (by omega) (growslice_fits (by omega) (by rw [hb]; omega))
        rw [hrun] at hr
        injection hr with e1 e2
        have hgl := (Array.getElem?_eq_some_iff.1 hg).1
        refine ⟨hown.1, .inr ⟨g, cap, cur, rfl, hbg, ?_, hnc, hcm, hcs, htk⟩⟩
        rw [e2, heap_alloc_old w.drew _ hgl]
        exact hg
  · rcases h5 with h5 | h5
    · left
      rcases hown.2 with ⟨hv, hn⟩ | ⟨g, cap, cur, hv, hbg, hg, hnc, hcm, hcs, htk⟩
      · rw [hv] at h5
        rcases h2.2 with ⟨h6, h7⟩ | ⟨g, cap, cur, h6, _⟩
        · omega
        · rw [h6] at h5; cases h5
      · rw [hv] at h5
        rcases h2.2 with ⟨h6, h7⟩ | ⟨g', cap', cur', h6, _, hg', hn', _, hs', _⟩
        · omega
        · rw [h6] at h5
          have hgg : g' = g := by simpa [Value.ownBlock] using h5
          subst hgg
          subst hv
          by_cases hroom : l.length + 1 ≤ cap
          · have hr := run_append_room (P := P) w t ty e i ht hi g' l.length cap cur hg ⟨B, 0, none⟩ 1 1 [f y] (by rw [hsz]; rfl) hnews hone hroom (by rw [hsz, hcs]; simp; omega)
            rw [hrun] at hr
            injection hr with e1 e2
            exact ⟨g', cap, rfl, e1⟩
          · have holds : ∀ j u, (l.map f)[j]? = some u → w.cell? ((⟨g', 0, none⟩ : Addr).add j) = some u := World.ownsRow.cells hown (g := g') rfl
            have hr := run_append_grow (P := P) w t ty e i z ht hi hz ⟨g', 0, none⟩ l.length cap (l.map f) (by rw [hsz]; simp) holds ⟨B, 0, none⟩ 1 1 [f y] (by rw [hsz]; rfl) hnews (by omega) (by omega) (growslice_fits (by omega) (by rw [hb]; omega))
            rw [hrun] at hr
            injection hr with e1 e2
            rw [h6] at e1
            injection e1 with e3
            have hgl := (Array.getElem?_eq_some_iff.1 hg).1
            have : g' = w.heap.size := by injection e3 with e3; injection e3
            omega
    · exact .inr ⟨_, Nat.le_refl _, h5⟩
theorem step_pushK {α : Type} {P : Program} (W : World) {ops : Array Oper} {o : Oper} {a : Act} {K : Act → World → Prop} {Q : Exit → Act → World → Prop} {E : Prop} (hgd : o.guard = none) (s x : Operand) (t : TypeId)
    (ho : o.op = .call { callee := .builtin .append, args := #[s, x], argTypes := #[t, t] })
    (e bytes : Nat) (he : Elem P t e bytes) (base : Nat) (f : α → Value) (v : Value) (l : List α) (y : α) (g : Nat) (h1 : (f y).oneCell' = true)
    (hown : Own W base e f v l) (hlit : W.cell? ⟨g, 0, none⟩ = some (f y)) (hs : a.eval s = v) (hx : a.eval x = .slice (some ⟨g, 0, none⟩) 1 1)
    (h63 : l.length + 1 ≤ 1099511627776) (hby : bytes ≤ 64) (hbase : base ≤ W.heap.size)
    (d : Option Tmp) (hd : o.dst = d) (hK : ∀ v' w', PushK W w' base e f v v' l y → K (a.put d v') w') :
    if Region.wanted o (yielded ops a.tmps) = true then Oper.wp P o a W K Q else E := by
  subst hd
  have hw : Region.wanted o (yielded ops a.tmps) = true := by simp [Region.wanted, hgd]
  rw [if_pos hw]
  obtain ⟨v', w', hrun, h2⟩ := push_keep (P := P) W o.type t e bytes he base f v l y g h1 hown hlit h63 hby hbase
  unfold Oper.wp execOp
  simp only [ho, resolve, invoke, builtin, Sem.run_bind, Sem.run_pure, Result.andThen_ok, List.map_toArray, List.map_cons, List.map_nil, hs, hx, hrun]
  exact hK v' w' h2
theorem step_build1 {P : Program} (W W' : World) {ops : Array Oper} {o : Oper} {a : Act} {K : Act → World → Prop} {Q : Exit → Act → World → Prop} {E : Prop} (hgd : o.guard = none) (t : TypeId) (x : Operand) (ho : o.op = .buildSlice t 1 #[(0, x)]) (d : Option Tmp) (hd : o.dst = d)
    (u r : Value) (hx : a.eval x = u) (hrun : (Instr.buildSlice t 1 #[(0, u)]).run P W = .ok r W') (hK : K (a.put d r) W') :
    if Region.wanted o (yielded ops a.tmps) = true then Oper.wp P o a W K Q else E := by
  subst hd
  have hw : Region.wanted o (yielded ops a.tmps) = true := by simp [Region.wanted, hgd]
  rw [if_pos hw]
  unfold Oper.wp execOp
  simp only [ho, List.map_toArray, List.map_cons, List.map_nil, hx, Sem.run_bind, hrun, Result.andThen_ok, Sem.run_pure]
  exact hK
theorem run_build_i (z : Int) (W : World) : (Instr.buildSlice 24 1 #[(0, .int .i64 z)]).run Tryz.prog W = .ok (.slice (some ⟨W.heap.size, 0, none⟩) 1 1) (W.alloc (.cells #[.int .i64 z] 3)) := by go_simp
end
end Go.Proofs.YtamogedpgkofjaaGreat
