/-
  slices.AppendSeq over slices.Values of integers.
-/
import Derived.Test.YtamogedpgkofjaaGreatCpv
namespace Go.Proofs.YtamogedpgkofjaaGreat
section
open Go.RowKit Go.Shelf
set_option linter.unusedVariables false
set_option linter.unusedSimpArgs false
attribute [local go_sem ↓] Go.wp_at_zero Go.wp_at_succ
attribute [local go_sem] Oper.semAt_some

theorem keeps_cells {B : Nat} {W W' : World} {row : Option Nat} (hg : W.grownBy W' row) (hr : ∀ g, row = some g → ∃ o : Obj, W.heap[g]? = some o ∧ o.isCells = true) : KeepsFrom B W W' :=
  ⟨hg.size, fun k o _ hk ho => (hg.block k (Array.getElem?_eq_some_iff.1 hk).1 (fun e => by
    obtain ⟨o', h1, h2⟩ := hr k e.symm
    rw [hk] at h1; cases h1
    rw [ho] at h2; cases h2)).trans hk⟩
theorem own_is_cells {α : Type} {W : World} {B : Nat} {e : TypeId} {f : α → Value} {v : Value} {l : List α} (h : Own W B e f v l) : ∀ g, v.ownBlock = some g → ∃ o : Obj, W.heap[g]? = some o ∧ o.isCells = true := fun g e => by
  rcases h.2 with ⟨h1, _⟩ | ⟨g', cap', cur, h1, _, hh, _⟩
  · rw [h1] at e; cases e
  · rw [h1] at e; cases e; exact ⟨_, hh, rfl⟩
set_option maxRecDepth 100000 in
set_option maxHeartbeats 4000000 in
theorem apseq_any (Bs b off len cap : Nat) (ao : Option Addr) (hao : 0 < len → ao = some ⟨b, off, none⟩) (zs : List Int) (w : World) (hlen : zs.length = len) (hl : len ≤ 1000) (hBs : Bs < w.heap.size) (hb : b < w.heap.size) (hc : w.cell? ⟨Bs, 0, none⟩ = some (.slice ao len cap)) (hI : ∀ j, j < len → w.cell? ⟨b, off + j, none⟩ = some (.int .i64 (zs.getD j 0))) :
    Calls Tryz.prog 131 #[.slice none 0 0, .func (.func 109) #[] #[.pointer (some ⟨Bs, 0, none⟩)]] w fun e w' => ∃ v, e = .returned v ∧ Own w' w.heap.size 3 intf v zs ∧ Below w.heap.size w w' := by
  refine calls_marks Tryz.func131 rfl ?_
  simp only [Tryz.ntmps131, List.size_toArray, List.length_cons, List.length_nil, Nat.reduceAdd, Nat.reduceSub, Array.replicate_succ, Array.replicate_zero, List.push_toArray, List.append_toArray, List.nil_append, List.cons_append]
  have hbl := below_new w (.cells #[.slice none 0 0] 24)
  have hst := vl_stops Fence.wide 4 trivial rfl (by decide) Bs b off len cap ao hao zs hlen (by omega) (w.alloc (.cells #[.slice none 0 0] 24)) (by simp; omega) (by simp; omega) ((hbl.cell (p := ⟨Bs, 0, none⟩) hBs).trans hc) (fun j hj => (hbl.cell (p := ⟨b, off + j, none⟩) hb).trans (hI j hj))
  have HZ := Lib.hid hlen
  clear hlen hc hI
  obtain ⟨W6, hW6⟩ : ∃ W6, w.alloc (.cells #[.slice none 0 0] 24) = W6 := ⟨_, rfl⟩
  have HW6 : Hid (Below w.heap.size w W6 ∧ W6.heap.size = w.heap.size + 1 ∧ BlkIs W6 w.heap.size 24 #[.slice none 0 0]) := by
    rw [← hW6]
    exact ⟨hbl, by simp, BlkIs.new _ _ _⟩
  rw [hW6] at hst
  clear hbl
  go_wp2_with fail
  (try rw [hW6])
  clear hW6
  obtain ⟨N, hN⟩ : ∃ N, w.heap.size = N := ⟨_, rfl⟩
  rw [hN] at HW6
  have HNN := Lib.hid hN
  (try rw [hN])
  clear hN
  have h61 := HW6.out.2.1
  have hwN := HNN.out
  refine (wpIn_wide (n := 5)).1 ?_
  refine wpIn_rangeFunc_ownG (F := Fence.wide) (n := 5) rfl (by decide) (gf := 109) (lb := #[.pointer (some ⟨Bs, 0, none⟩)]) rfl trivial (enters_of Tryz.func109 (by kernel_rfl) rfl)
    hst (fun h k => h.t k) (fun V l' o o' hl _ _ _ => Kp2.b_ (N := W6.heap.size) (by omega) (by omega) V l' o o' hl) (Below.refl _ _) (fun _ => rfl)
    (fun pre V => ∃ v, ApI W6 N v pre V) (fun _ _ _ => False)
    ?hI (fun _ _ _ _ _ hs _ _ => hs) ⟨_, only_refl _ _, HW6.out.2.2, Own.nil _ _ _ _⟩ ?a1 ?assign ?body ?done ?stop
  case hI =>
    rintro pre V V' row ⟨v, h1, h2, h3⟩ hg hr
    have hr' : ∀ r, row = some r → ∃ o : Obj, V.heap[r]? = some o ∧ o.isCells = false := fun r e => (hr r e).2
    exact ⟨v, only_next h1 hg (.inr fun g e => (hr g e).1), blk_own h2 hg hr', own_own h3 hg hr'⟩
  case assign =>
    intro l x V K hK
    gi_wp2
    exact hK
  case stop =>
    rintro D c pre V _ _ h _
    exact h.elim
  case body =>
    rintro l' pre x V ⟨v, hA⟩ hpl
    obtain ⟨vo, vc, rfl⟩ := hA.own.shape
    have HA := Lib.hid hA
    have c0 := hA.box.cell 0
    have f0 := hA.box.free 0
    have l0 := hA.box.lt
    have HO := Lib.hid hA.own
    have hln : pre.length + 1 ≤ 1099511627776 := by omega
    have hb0 : N + 1 ≤ V.heap.size := by omega
    clear hA
    unfold encI1
    gi_wp2_with (gi_at_builtin; refine wpListIn_pushO V V.heap.size rfl rfl _ _ 24 rfl 3 8 elemInt (N + 1) intf _ _ x rfl HO.out rfl rfl hln (by omega) hb0 ?_; intro v' w' hown' hg'; have HW9 := Lib.hid hown'; have HG9 := Lib.hid hg'; obtain ⟨po, pc, rfl⟩ := hown'.shape; have hne := (fun e : some N = _ => (by have h1 := (HO.out.lt _ e.symm).1; omega : False)); have p9 := (HA.out.box.else_ hg' hne).cell 0; have q9 := (HA.out.box.else_ hg' hne).free 0; have r9 := (HA.out.box.else_ hg' hne).lt; clear hown' hg')
    have hp := HW9.out
    have hsz : w'.heap.size ≥ V.heap.size := HG9.out.size
    have hc1 : ∀ g, (Value.slice vo pre.length vc).ownBlock = some g → N + 1 ≤ g := fun g e => (HO.out.lt g e).1
    rw [List.length_append] at hp
    have hbx := HA.out.box.else_ HG9.out hne
    refine ⟨(keeps_cells HG9.out (own_is_cells HO.out)).trans (keeps_cells (only_set w' N 0 _) (fun g e => by cases e; exact ⟨_, hbx, rfl⟩)), ?_, _, HA.out.push h61 HG9.out hp⟩
    have hk : ∀ k, k < N → ((w'.setCell ⟨N, 0, none⟩ (.slice po (pre.length + 1) pc)).heap[k]? = V.heap[k]?) := fun k hk => (heap_setCell_other _ _ _ _ (by show k ≠ N; omega)).trans (HG9.out.block k (by omega) (fun e => by have := hc1 _ e.symm; omega))
    exact ⟨hk Bs (by omega), hk b (by omega)⟩
  case done =>
    rintro D ys V hD rfl ⟨v, hA⟩ hK
    obtain ⟨vo, vc, rfl⟩ := hA.own.shape
    have c0 := hA.box.cell 0
    have l0 := hA.box.lt
    have HA := Lib.hid hA
    have HK := Lib.hid hK
    clear hA hK
    go_wp2
    refine marks_end (Ds := [D]) N (fun V => Below w.heap.size w V ∧ Own V (N + 1) 3 intf (.slice vo ys.length vc) ys) rfl ⟨by simp, fun E hE => by rw [List.mem_singleton.1 hE]; exact ⟨by omega, HK.out⟩⟩ ⟨?_, HA.out.own⟩ ?_ ?_
    · rw [hwN]
      exact HW6.out.1.grown HA.out.base (by omega) (fun g e => by cases e; exact Nat.le_refl _)
    · rintro V D' hB ⟨h1, h2⟩ hD'
      have hr : ∀ r, some D' = some r → ∃ o : Obj, V.heap[r]? = some o ∧ o.isCells = false := fun r e => by cases e; exact ⟨_, hD', rfl⟩
      have hg := grownBy_putObj' V D' (Obj.deferred none)
      exact ⟨below_put h1 (by omega), own_own h2 hg hr⟩
    · rintro V ⟨h1, h2⟩
      exact ⟨_, by simp [results, Tryz.results131, go_sem], _, rfl, h2.mono (by omega), h1⟩
end
end Go.Proofs.YtamogedpgkofjaaGreat
