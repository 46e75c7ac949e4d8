/-
  The library's Clone and Delete at [][2]int, IsSorted at []int.
-/
import Derived.Test.YtcaeemcobgopmaaLbF
import Derived.Test.YtcaeemcobgopmaaPow
import Derived.Test.YtcaeemcobgopmaaEul
import Derived.WalkSpells
import Derived.Deep.RegionLaw
import Derived.Lib.SliceRun
import Derived.Deep.MidRow
namespace Go.Proofs.Ytcaeemcobgopmaa
open Go.RowKit
set_option linter.unusedVariables false

theorem pairCells_len (l : List (Nat × Nat)) : (pairCells l).length = l.length * 2 := by
  induction l with
  | nil => rfl
  | cons a l ih =>
    have hc : pairCells (a :: l) = .int .i64 (a.1 : Int) :: .int .i64 (a.2 : Int) :: pairCells l := rfl
    rw [hc, List.length_cons, List.length_cons, ih, List.length_cons]; omega
theorem pairCells_cases {l : List (Nat × Nat)} {j : Nat} {u : Value} (h : (pairCells l)[j]? = some u) : ∃ k e, l[k]? = some e ∧ ((j = k * 2 ∧ u = .int .i64 (e.1 : Int)) ∨ (j = k * 2 + 1 ∧ u = .int .i64 (e.2 : Int))) := by
  have hj := (List.getElem?_eq_some_iff.1 h).1
  rw [pairCells_len] at hj
  have hk : j / 2 < l.length := by omega
  obtain ⟨h1, h2⟩ := pairCells_get l (j / 2) _ (List.getElem?_eq_getElem hk)
  refine ⟨j / 2, _, List.getElem?_eq_getElem hk, ?_⟩
  rcases Nat.mod_two_eq_zero_or_one j with hm | hm
  · left
    have e : j = j / 2 * 2 := by omega
    rw [← e, h] at h1
    exact ⟨e, by injection h1⟩
  · right
    have e : j = j / 2 * 2 + 1 := by omega
    rw [← e, h] at h2
    exact ⟨e, by injection h2⟩
theorem pairCells_one {l : List (Nat × Nat)} : ∀ u ∈ pairCells l, u.oneCell' = true := by
  intro u hu
  obtain ⟨j, hj, rfl⟩ := List.getElem_of_mem hu
  obtain ⟨k, e, _, h⟩ := pairCells_cases (List.getElem?_eq_getElem hj)
  rcases h with ⟨_, h⟩ | ⟨_, h⟩ <;> rw [h] <;> rfl
theorem NPairs.cellAt {w : World} {b off n cap : Nat} {l : List (Nat × Nat)} (h : NPairs w (.slice (some ⟨b, off, none⟩) n cap) l) {j : Nat} {u : Value} (hj : (pairCells l)[j]? = some u) : w.cell? ⟨b, off + j, none⟩ = some u := by
  obtain ⟨k, e, he, hc⟩ := pairCells_cases hj
  obtain ⟨b', off', hx, _, c1, c2⟩ := h.edge he
  cases hx
  rcases hc with ⟨rfl, rfl⟩ | ⟨rfl, rfl⟩
  · exact c1
  · rw [← Nat.add_assoc]; exact c2

/-- 'append(v, s...)'. -/
theorem wpList_appendP (w0 : World) {ops : Array Oper} {rest : List Oper} {o : Oper} {a : Act} {Q : Exit → Act → World → Prop} (hgd : o.guard = none) (s x : Operand)
    (ho : o.op = .call { callee := .builtin .append, args := #[s, x], argTypes := #[22, 22] })
    (base : Nat) (v : Value) (l l2 : List (Nat × Nat)) (b off n cap : Nat)
    (hown : OwnP w0 base v l) (hs : a.eval s = v) (hx : a.eval x = .slice (some ⟨b, off, none⟩) n cap) (hsrc : NPairs w0 (.slice (some ⟨b, off, none⟩) n cap) l2) (hn : l2.length = n)
    (h63 : l.length + n ≤ 1099511627776) (hbase : base ≤ w0.heap.size)
    (hK : ∀ v' w', OwnP w' base v' (l ++ l2) → w0.grownBy w' v.ownBlock → wpList Try.prog ops Q rest (a.put o.dst v') w') :
    wpList Try.prog ops Q (o :: rest) a w0 := by
  have hinf : (Try.prog.info? 43).map (fun i => (i.zero, i.size, i.bytes)) = some (some (.agg #[.int .i64 0, .int .i64 0]), 2, 16) := by kernel_rfl
  obtain ⟨i, hi, hz, hsz, hb⟩ := info_parts hinf
  obtain ⟨v', w', hrun, h2, h3, _, h5⟩ := run_append_own_at (P := Try.prog) w0 base 22 o.type 43 i _ 2 16 Try.underlying22 hi hz hsz hb (by rfl) (by omega) v l.length (pairCells l) hown
    ⟨b, off, none⟩ n cap (pairCells l2) (by rw [pairCells_len, hn]) (by
      intro j u hj
      rw [Addr.add_lit]
      exact hsrc.cellAt hj) pairCells_one (by unfold maxLen; omega) (by omega) hbase
  refine wpList_plain hgd fun K hK' => ?_
  unfold Oper.wp execOp
  simp only [ho, resolve, invoke, builtin, Sem.run_bind, Sem.run_pure, Result.andThen_ok, List.map_toArray, List.map_cons, List.map_nil, hs, hx, hrun]
  refine hK' _ _ (hK v' w' ?_ h3)
  unfold OwnP
  rw [List.length_append, hn]
  have : pairCells (l ++ l2) = pairCells l ++ pairCells l2 := by simp [pairCells]
  rw [this]
  exact h2

set_option maxHeartbeats 400000 in
theorem clone_any (b off cap : Nat) (ns : List (Nat × Nat)) (w : World) (hp : NPairs w (.slice (some ⟨b, off, none⟩) ns.length cap) ns) (hl : ns.length ≤ 4000) :
    Calls Try.prog 36 #[.slice (some ⟨b, off, none⟩) ns.length cap] w fun e w' => (∃ v, e = .returned v ∧ OwnP w' w.heap.size v ns) ∧ Below w.heap.size w w' := by
  have HP := Lib.hid hp
  have hB0 := below_new w (.cells #[] 43)
  have HO : Hid (OwnP (w.alloc (.cells #[] 43)) w.heap.size (.slice (some ⟨w.heap.size, 0, none⟩) 0 0) []) := World.ownsRow_lit w #[] 0 (e := 43) (size := 2) (Nat.le_refl _) (by unfold maxLen; omega) rfl
  have hnil := @Lib.run_eql_slice_nil
  go_enter Try.func36, Try.ntmps36
  go_wp2_with (at_builtin; refine wpList_appendP _ rfl _ _ rfl w.heap.size _ [] ns b off ns.length cap HO.out rfl rfl (HP.out.below hB0) rfl (by simp; omega) (by simp) ?_; intro v' w' hown' hg)
  go_ret
  exact ⟨⟨_, rfl, hown'⟩, below_grown hB0 hg (by simp) (fun g e => by cases e; exact Nat.le_refl _)⟩

theorem setCells_only (w : World) (g : Nat) : ∀ (vs : List Value) (o : Nat), w.grownBy (w.setCells g o vs) (some g) := by
  intro vs
  induction vs generalizing w with
  | nil => intro o; exact only_refl _ _
  | cons v vs ih => intro o; exact only_trans (only_set w g o v) (ih _ _)

theorem OwnP.cells {w : World} {base B cap : Nat} {l : List (Nat × Nat)} (h : OwnP w base (.slice (some ⟨B, 0, none⟩) l.length cap) l) {j : Nat} {u : Value} (hj : (pairCells l)[j]? = some u) : w.cell? ⟨B, j, none⟩ = some u ∧ w.frozen? ⟨B, j, none⟩ = false := by
  have c := World.ownsRow.cells h (g := B) rfl j u hj
  rw [Addr.add_lit, Nat.zero_add] at c
  refine ⟨c, ?_⟩
  rcases h.2 with ⟨h', _⟩ | ⟨g, cp, cur, h', _, hg, _⟩
  · cases h'
  · cases h'
    simp [World.frozen?, hg]

theorem run_clear_pair (w : World) (ty : TypeId) (B o c n : Nat) (hn : n = 1) (hc : ∀ j, j < 2 → (w.cell? ⟨B, o + j, none⟩).isSome = true) (hf : ∀ j, j < 2 → w.frozen? ⟨B, o + j, none⟩ = false) :
    (Builtin.clear_ #[22] ty #[.slice (some ⟨B, o, none⟩) n c]).run Try.prog w = .ok (.tuple #[]) (w.setCells B o [.int .i64 0, .int .i64 0]) := by
  subst hn
  have hz : ∀ w, (zeroValue 43).run Try.prog w = .ok (.agg #[.int .i64 0, .int .i64 0]) w := fun w => by kernel_rfl
  have hst := run_storeCells_cells (P := Try.prog) B o [.int .i64 0, .int .i64 0] 0 w (by simpa using hc) (by simpa using hf) (by intro v hv'; simp at hv'; rcases hv' with rfl | rfl <;> rfl)
  simp only [Nat.add_zero] at hst
  have hzc : (Builtin.zeroCells (Value.agg #[.int .i64 0, .int .i64 0]).cells 1).toList = [.int .i64 0, .int .i64 0] := by kernel_rfl
  simp [Builtin.clear_, run_underlying Try.underlying22, hz, hzc, hst]

set_option maxHeartbeats 400000 in
theorem delete_any (B base cap i : Nat) (ns : List (Nat × Nat)) (w : World) (hown : OwnP w base (.slice (some ⟨B, 0, none⟩) ns.length cap) ns) (hl : ns.length ≤ 4000) (hi : i < ns.length) :
    Calls Try.prog 35 #[.slice (some ⟨B, 0, none⟩) ns.length cap, .int .i64 (i : Int), .int .i64 ((i : Int) + 1)] w fun e w' => (∃ v, e = .returned v ∧ NPairs w' v (without ns i)) ∧ w.grownBy w' (some B) := by
  have hcap : ns.length ≤ cap ∧ cap ≤ 9223372036854775807 := by
    rcases hown.2 with ⟨h, _⟩ | ⟨g, cp, cur, h, _, _, h1, h2, _⟩
    · cases h
    · cases h; exact ⟨h1, by unfold maxLen at h2; omega⟩
  have HO := Lib.hid hown
  obtain ⟨hc1, hc2⟩ := hcap
  have e1 : ((i : Int) == (i : Int) + 1) = false := beq_no (by omega)
  clear hown
  go_enter Try.func35, Try.ntmps35
  have hinf : (Try.prog.info? 43).map (fun i => (i.zero, i.size, i.bytes)) = some (some (.agg #[.int .i64 0, .int .i64 0]), 2, 16) := by kernel_rfl
  obtain ⟨i0, hi0, hz0, hz1, hz2⟩ := info_parts hinf
  obtain ⟨news, hnews⟩ : ∃ news, news = pairCells (ns.drop (i + 1)) := ⟨_, rfl⟩
  have hlen : news.length = (ns.length - (i + 1)) * 2 := by rw [hnews, pairCells_len]; simp
  have hget : ∀ t u, news[t]? = some u → (pairCells ns)[(i + 1) * 2 + t]? = some u := fun t u hu => by
    rw [hnews] at hu
    obtain ⟨k, e, he, hc⟩ := pairCells_cases hu
    rw [List.getElem?_drop] at he
    obtain ⟨g1, g2⟩ := pairCells_get ns (i + 1 + k) e he
    rcases hc with ⟨rfl, rfl⟩ | ⟨rfl, rfl⟩
    · rw [show (i + 1) * 2 + k * 2 = (i + 1 + k) * 2 by omega]; exact g1
    · rw [show (i + 1) * 2 + (k * 2 + 1) = (i + 1 + k) * 2 + 1 by omega]; exact g2
  have hin : ∀ j, j < ns.length * 2 → ∃ u, (pairCells ns)[j]? = some u := fun j hj => ⟨_, List.getElem?_eq_getElem (by rw [pairCells_len]; exact hj)⟩
  obtain ⟨A, hA, hsrc⟩ : ∃ A : Addr, (if cap = i + 1 then (some ⟨B, 0, none⟩ : Option Addr) else some ⟨B, (i + 1) * 2, none⟩) = some A ∧ Hid (∀ t u, news[t]? = some u → w.drew.cell? (A.add t) = some u) := by
    by_cases h : cap = i + 1
    · refine ⟨⟨B, 0, none⟩, by simp [h], fun t u hu => ?_⟩
      have h0 : news.length = 0 := by rw [hlen]; omega
      rw [List.length_eq_zero_iff.1 h0] at hu
      simp at hu
    · refine ⟨⟨B, (i + 1) * 2, none⟩, by simp [h], fun t u hu => ?_⟩
      rw [Addr.add_lit]
      exact (HO.out.cells (hget t u hu)).1
  have s1 : Hid (news.length = (ns.length - (i + 1)) * 2) := hlen
  have s2 : Hid (∀ u ∈ news, u.oneCell' = true) := by rw [hnews]; exact pairCells_one
  have s3 : Hid (∀ t, t < news.length → (w.drew.cell? ⟨B, 0 + i * 2 + t, none⟩).isSome = true ∧ w.drew.frozen? ⟨B, 0 + i * 2 + t, none⟩ = false) := by
    intro t ht
    rw [hlen] at ht
    obtain ⟨u, hu⟩ := hin (0 + i * 2 + t) (by omega)
    obtain ⟨c1, c2⟩ := HO.out.cells hu
    exact ⟨by show (w.cell? _).isSome = true; rw [c1]; rfl, c2⟩
  obtain ⟨W1, hW1⟩ : ∃ W1, W1 = w.drew.setCells B (0 + i * 2) news := ⟨_, rfl⟩
  have hW : Hid (W1 = w.drew.setCells B (0 + i * 2) news) := hW1
  have HN := Lib.hid hnews
  have HG := Lib.hid hget
  have HI := Lib.hid hin
  have hic : i ≤ cap := by omega
  have hjc : i + 1 ≤ cap := by omega
  have ib1 : (0 : Int) ≤ (i : Int) + 1 := by omega
  have ib2 : (i : Int) + 1 ≤ (ns.length : Int) := by omega
  have ib3 : (0 : Int) ≤ (i : Int) := by omega
  have ib4 : (i : Int) ≤ (ns.length : Int) := by omega
  have hW1' : W1 = w.drew.setCells B (0 + i * 2) news := hW1
  have hc2' : ∀ t, t < news.length → (w.drew.cell? ⟨B, 0 + i * 2 + t, none⟩).isSome = true := fun t ht => (s3.out t ht).1
  -- what the moved row holds
  have hM : Hid (∀ j u, (pairCells (without ns i))[j]? = some u → W1.cell? ⟨B, j, none⟩ = some u ∧ j < (ns.length - 1) * 2) := by
    intro j u hj
    have hwl := without_len hi
    have hjl : j < (ns.length - 1) * 2 := by
      have := (List.getElem?_eq_some_iff.1 hj).1
      rw [pairCells_len] at this
      omega
    refine ⟨?_, hjl⟩
    have hpc : pairCells (without ns i) = pairCells (ns.take i) ++ news := by
      rw [hnews]; unfold without pairCells; rw [List.flatMap_append]
    have htl : (pairCells (ns.take i)).length = i * 2 := by rw [pairCells_len, List.length_take]; omega
    rw [hpc] at hj
    rcases Nat.lt_or_ge j (i * 2) with hlt | hge
    · rw [List.getElem?_append_left (by omega)] at hj
      rw [hW1', World.cell?_setCells_out B news (0 + i * 2) w.drew ⟨B, j, none⟩ (fun _ _ => .inl (by show j < 0 + i * 2; omega))]
      obtain ⟨k, e, he, hc⟩ := pairCells_cases hj
      have hk : k < i := by have := (List.getElem?_eq_some_iff.1 he).1; simp at this; omega
      rw [List.getElem?_take_of_lt hk] at he
      obtain ⟨g1, g2⟩ := pairCells_get ns k e he
      rcases hc with ⟨rfl, rfl⟩ | ⟨rfl, rfl⟩
      · exact (HO.out.cells g1).1
      · exact (HO.out.cells g2).1
    · rw [List.getElem?_append_right (by omega), htl] at hj
      have hjn := (List.getElem?_eq_some_iff.1 hj).1
      have h2 := World.cell?_setCells_in B news (0 + i * 2) w.drew hc2' (j - i * 2) hjn
      rw [← hW1', show 0 + i * 2 + (j - i * 2) = j by omega] at h2
      rw [h2]
      rw [List.getElem?_eq_getElem hjn] at hj
      exact hj
  have hfz : ∀ j, j < ns.length * 2 → (W1.cell? ⟨B, j, none⟩).isSome = true ∧ W1.frozen? ⟨B, j, none⟩ = false := fun j hj => by
    obtain ⟨u, hu⟩ := hin j hj
    obtain ⟨c1, c2⟩ := HO.out.cells hu
    rw [hW1', World.frozen?_setCells]
    exact ⟨World.isSome_setCells B news (0 + i * 2) w.drew ⟨B, j, none⟩ (by show (w.cell? _).isSome = true; rw [c1]; rfl), c2⟩
  have hcl : ∀ ty, (Builtin.clear_ #[22] ty #[.slice (some ⟨B, (i + (ns.length - (i + 1))) * 2, none⟩) (ns.length - (i + (ns.length - (i + 1)))) (cap - (i + (ns.length - (i + 1))))]).run Try.prog W1 = .ok (.tuple #[]) (W1.setCells B ((i + (ns.length - (i + 1))) * 2) [.int .i64 0, .int .i64 0]) :=
    fun ty => run_clear_pair W1 ty B _ _ _ (by omega) (fun j hj => (hfz _ (by omega)).1) (fun j hj => (hfz _ (by omega)).2)
  have HG1 : Hid (w.grownBy W1 (some B)) := by
    have : w.drew.grownBy W1 (some B) := by rw [hW1']; exact setCells_only _ _ _ _
    exact ⟨this.os, this.tape, this.output, this.size, this.block⟩
  have HBL : Hid (B < w.heap.size) := (HO.out.lt B rfl).2
  have HFIN : Hid (NPairs (W1.setCells B ((i + (ns.length - (i + 1))) * 2) [.int .i64 0, .int .i64 0]) (.slice (some ⟨B, 0, none⟩) (i + (ns.length - (i + 1))) cap) (without ns i)) := by
    have hwl := without_len hi
    refine ⟨_, cap, by rw [cst_len, show i + (ns.length - (i + 1)) = (without ns i).length by omega], fun _ => ⟨B, 0, rfl, ?_, fun k x hx => ?_⟩⟩
    · have h1 := HG1.out.size
      have h2 := (setCells_only W1 B [.int .i64 0, .int .i64 0] ((i + (ns.length - (i + 1))) * 2)).size
      have h3 := HBL.out
      omega
    · unfold cst at hx
      rw [List.getElem?_map] at hx
      obtain ⟨e, he, rfl⟩ := Option.map_eq_some_iff.1 hx
      obtain ⟨g1, g2⟩ := pairCells_get _ k e he
      obtain ⟨m1, m2⟩ := hM.out _ _ g1
      obtain ⟨m3, m4⟩ := hM.out _ _ g2
      rw [Nat.zero_add]
      refine ⟨?_, ?_⟩
      · rw [World.cell?_setCells_out B _ _ W1 ⟨B, k * 2, none⟩ (fun _ _ => .inl (by show k * 2 < _; omega))]
        exact m1
      · rw [World.cell?_setCells_out B _ _ W1 ⟨B, k * 2 + 1, none⟩ (fun _ _ => .inl (by show k * 2 + 1 < _; omega))]
        exact m3
  clear hW1 hW1' hget hnews hlen hin hc2' hfz
  go_wp2_with fail
  go_region_law (refine step_append_room rfl (.tmp 22) (.tmp 25) 22 rfl 43 i0 2 Try.underlying22 hi0 hz1 B 0 i cap (by simp [Act.eval, Act.put]) A (ns.length - (i + 1)) (cap - (i + 1)) news (by simp [Act.eval, Act.put]) s1.out hsrc.out s2.out (by omega) s3.out ?_; rw [← hW.out])
  go_wp2
  go_ret
  exact ⟨⟨_, rfl, HFIN.out⟩, only_trans HG1.out (setCells_only _ _ _ _)⟩
end Go.Proofs.Ytcaeemcobgopmaa
