/-
  lorry.Greedy.
-/
import Derived.Test.YtejcgjdfajppgaaGreatDoorTgm
import Derived.Deep.RegionLaw
import Derived.BigRegion
import Derived.Deep.DeepMust
namespace Go.Proofs.YtejcgjdfajppgaaGreatDoor
section
open Go.RowKit
set_option linter.unusedVariables false
set_option linter.unusedSimpArgs false
attribute [local go_sem ↓] Go.wp_at_zero Go.wp_at_succ

/-- 'append' of one element as a step of a region that draws its order. -/
theorem step_push {α : Type} {P : Program} (w0 : World) {ops : Array Oper} {o : Oper} {a : Act} {K : Act → World → Prop} {Q : Exit → Act → World → Prop} {E : Prop} (hgd : o.guard = none) (s x : Operand) (t : TypeId)
    (ho : o.op = .call { callee := .builtin .append, args := #[s, x], argTypes := #[t, t] })
    (e bytes : Nat) (he : Elem P t e bytes) (base : Nat) (f : α → Value) (v : Value) (l : List α) (y : α) (h1 : (f y).oneCell' = true)
    (hown : Own w0 base e f v l) (hs : a.eval s = v) (hx : a.eval x = .slice (some ⟨w0.heap.size, 0, none⟩) 1 1)
    (h63 : l.length + 1 ≤ 1099511627776) (hby : bytes ≤ 64) (hbase : base ≤ w0.heap.size)
    (hK : ∀ v' w', Own w' base e f v' (l ++ [y]) → w0.grownBy w' v.ownBlock → (v'.ownBlock = v.ownBlock ∨ ∃ g, w0.heap.size ≤ g ∧ v'.ownBlock = some g) → K (a.put o.dst v') w') :
    if Region.wanted o (yielded ops a.tmps) = true then Oper.wp P o a (w0.alloc (.cells #[f y] e)) K Q else E := by
  have hw : Region.wanted o (yielded ops a.tmps) = true := by simp [Region.wanted, hgd]
  rw [if_pos hw]
  obtain ⟨ht, i, z, hi, hz, hsz, hb, hzs⟩ := he
  have hown1 : (w0.alloc (.cells #[f y] e)).ownsRow base e 1 v l.length (l.map f) := World.ownsRow.alloc hown _
  obtain ⟨v', w', hrun, h2, h3, _, h5⟩ := run_append_own_at (P := P) (w0.alloc (.cells #[f y] e)) base t o.type e i z 1 bytes ht hi hz hsz hb hzs (by omega) v l.length (l.map f) hown1
    ⟨w0.heap.size, 0, none⟩ 1 1 [f y] rfl (by
      intro j u hj
      match j, hj with
      | 0, hj =>
        cases hj
        rw [Addr.add_lit, World.cell?_alloc_at _ _ _ _ rfl]; rfl) (by
      intro u hu
      rw [List.mem_singleton.1 hu]; exact h1) (by unfold maxLen; omega) (by
      have : (l.length + 1) * bytes ≤ 1099511627776 * 64 := Nat.mul_le_mul h63 hby
      omega) (by simp; omega)
  unfold Oper.wp execOp
  simp only [ho, resolve, invoke, builtin, Sem.run_bind, Sem.run_pure, Result.andThen_ok, List.map_toArray, List.map_cons, List.map_nil, hs, hx, hrun]
  refine hK v' w' ?_ ?_ ?_
  · unfold Own
    rw [List.length_append, List.map_append]
    exact h2
  · exact only_next (World.grownBy_alloc w0 _ v.ownBlock) h3 (.inl rfl)
  · rcases h5 with h5 | h5
    · exact .inl h5
    · exact .inr ⟨_, by simp, h5⟩
theorem slot_of_first {p : Int → Bool} {M : List Int} {r : Int} (h : FirstAt p M r) : (∃ j : Nat, r = j ∧ M.findIdx? p = some j ∧ j < M.length) ∨ (r = -1 ∧ M.findIdx? p = none) := by
  rcases h with ⟨j, x, rfl, h1, h2, h3⟩ | ⟨rfl, h⟩
  · refine .inl ⟨j, rfl, ?_, (List.getElem?_eq_some_iff.1 h1).1⟩
    rw [List.findIdx?_eq_some_iff_getElem]
    obtain ⟨h4, h5⟩ := List.getElem?_eq_some_iff.1 h1
    exact ⟨h4, by rw [h5]; exact h2, fun q hq => by rw [h3 q _ hq (List.getElem?_eq_getElem (by omega))]; simp⟩
  · refine .inr ⟨rfl, ?_⟩
    rw [List.findIdx?_eq_none_iff]
    intro x hx
    rw [h x hx]
set_option maxHeartbeats 1000000 in
theorem gfit_any (B2 B10 B3 : Nat) (v : Value) (l : List BunD) (i : Nat) (most n : Int) (w : World) (hp : Buns w v l) (hl : l.length ≤ 1000) (hm : MassIn l) (h2 : w.cell? ⟨B2, 0, none⟩ = some v) (h10 : w.cell? ⟨B10, 0, none⟩ = some (.int .i64 (i : Int))) (h3 : w.cell? ⟨B3, 0, none⟩ = some (.int .i64 most)) (hi : i < l.length) (hn : 0 ≤ n ∧ n ≤ 1099511627776000) :
    Calls Tryz.prog 40 #[.int .i64 n, .pointer (some ⟨B2, 0, none⟩), .pointer (some ⟨B10, 0, none⟩), .pointer (some ⟨B3, 0, none⟩)] w fun e w' => e = .returned (.bool (fitP (massZ l i) most n)) ∧ Below w.heap.size w w' := by
  obtain ⟨ao, cap, rfl⟩ := hp.at_
  obtain ⟨a, ha⟩ : ∃ y, l[i]? = some y := ⟨_, List.getElem?_eq_getElem hi⟩
  rw [massZ_at ha]
  obtain ⟨g, off, rfl, hg, c0, c1, c2, c3⟩ := buns_get hp ha
  have m1 := hm a (List.mem_of_getElem? ha)
  have hw : IntKind.i64.wrap (n + a.mass) = n + a.mass := IntWalk.i64_in _ (by omega)
  have HF := Lib.hid (show fitP a.mass most n = decide (n + a.mass ≤ most) from rfl)
  clear hp ha c0 c1 c2
  have y0 := fun d os => cell_regrown c3 d os
  have y1 := fun d os => cell_regrown h2 d os
  have y2 := fun d os => cell_regrown h10 d os
  have y3 := fun d os => cell_regrown h3 d os
  clear c3 h2 h3 h10
  go_enter Tryz.func40, Tryz.ntmps40
  go_wp2_with fail
  refine wp_region_quiet_below (by kernel_rfl) (by kernel_rfl) ?_
  repeat (go_big_quiet_step ((first
    | fail)))
  refine wpQuiet_nil ?_
  intro _ hw'
  obtain ⟨⟨nq, osq⟩, hw''⟩ := hw'
  subst hw''
  go_wp2
  go_ret
  exact ⟨ret_bool HF.out.symm, below_regrown w nq osq⟩
theorem nat_perm {o : List Int} {n : Nat} (h : o.Perm (idxs n)) : ∃ on : List Nat, o = on.map (fun i : Nat => (i : Int)) ∧ on.Perm (List.range n) := by
  refine ⟨o.map Int.toNat, ?_, ?_⟩
  · rw [List.map_map]
    conv => lhs; rw [← List.map_id o]
    refine List.map_congr_left fun x hx => ?_
    obtain ⟨i, _, rfl⟩ := idxs_mem.1 (h.mem_iff.1 hx)
    simp
  · have := h.map Int.toNat
    unfold idxs at this
    rw [List.map_map] at this
    refine this.trans ?_
    have e : (List.range n).map (Int.toNat ∘ fun i : Nat => (i : Int)) = List.range n := by
      conv => rhs; rw [← List.map_id (List.range n)]
      exact List.map_congr_left fun x _ => by simp
    rw [e]
theorem own_nat {w : World} {base : Nat} {e : TypeId} {v : Value} {on : List Nat} (h : Own w base e intv v (on.map fun i : Nat => (i : Int))) : Own w base e natf v on := by
  unfold Own at h ⊢
  rw [List.length_map, List.map_map] at h
  exact h
theorem Own.apart_blk {α : Type} {w : World} {base : Nat} {e : TypeId} {f : α → Value} {v : Value} {l : List α} {cs : Array Value} {g' : Nat} {e' : TypeId} {fr : Nat × Nat} (h : Own w base e f v l) (h' : w.heap[g']? = some (.cells cs e' fr)) (hne : e ≠ e') : ∀ g, v.ownBlock = some g → g ≠ g' := by
  intro g hg he
  subst he
  rcases h.2 with ⟨rfl, _⟩ | ⟨g1, cap, cur, rfl, _, hh, _⟩
  · cases hg
  · cases hg
    rw [hh] at h'
    injection h' with h'
    injection h' with _ ht
    exact hne ht
theorem undrew {w w1 : World} {r : Option Nat} (h : w.drew.grownBy w1 r) : w.grownBy w1 r := ⟨h.os, h.tape, h.output, h.size, h.block⟩
theorem row_len {l : List BunD} {most : Int} {on : List Nat} {k : Nat} {R : List (List Nat)} {M : List Int} (h : GI l most on k R M) (hk : k ≤ on.length) (hl : on.length ≤ 1000) {j : Nat} : ∀ r, R[j]? = some r → r.length + 1 ≤ 1099511627776 := by
  intro r hr
  have h1 := h.perm.length_eq
  have h2 : r.length ≤ R.flatten.length := (List.sublist_flatten_of_mem (List.mem_of_getElem? hr)).length_le
  rw [List.length_take] at h1
  omega
/-- The valid bundles that a lorry can take. -/
theorem mass_in {l : List BunD} (h : bunsOk l = true) : MassIn l := by
  intro b hb
  obtain ⟨i, hi⟩ := List.mem_iff_getElem?.1 hb
  have h1 := (buns_all h).2 i b hi
  unfold bun1 at h1
  simp only [Bool.and_eq_true] at h1
  rcases inR_cases b with ⟨_, _, _, h3, h4⟩ | ⟨h2, _⟩
  · exact ⟨h3, h4⟩
  · rw [h1.2.2.2] at h2; cases h2
theorem giv_ok {l : List BunD} {m : Int} (h : givU l m = 0) : bunsOk l = true ∧ inM m = true ∧ l.any (overM m) = false := by
  unfold givU at h
  cases h1 : bunsOk l <;> cases h2 : inM m <;> cases h3 : l.any (overM m) <;> simp [h1, h2, h3] at h ⊢
def GPost (l : List BunD) (most : Int) (w : World) (e : Ending) (w' : World) : Prop :=
  ∃ o, e = .returned (.tuple #[o, .int .i64 (givU l most)]) ∧ Below w.heap.size w w' ∧ (givU l most ≠ 0 → o = .slice none 0 0) ∧ (givU l most = 0 → ∃ (on : List Nat) (R : List (List Nat)) (M : List Int) (vals : List Value) (base : Nat), w.heap.size ≤ base ∧ on.Perm (List.range l.length) ∧ GI l most on on.length R M ∧ MatVals w' base o vals R)
set_option maxHeartbeats 2000000 in
theorem greedy_any (v : Value) (l : List BunD) (most : Int) (w : World) (hp : Buns w v l) (hl : l.length ≤ 19) (hf : FitU l) :
    Calls Tryz.prog 14 #[v, .int .i64 most] w (GPost l most w) := by
  obtain ⟨ao, cap, rfl⟩ := hp.at_
  obtain ⟨w0, hw0⟩ : ∃ w0, (w.alloc (.cells #[.slice ao l.length cap] 44)).alloc (.cells #[.int .i64 most] 3) = w0 := ⟨_, rfl⟩
  have HB0 : Hid (Below w.heap.size w w0) := by rw [← hw0]; exact Lib.hid (by go_grown)
  have B2 : BlkIs w0 w.heap.size 44 #[.slice ao l.length cap] := by rw [← hw0]; exact (BlkIs.new _ _ _).alloc _
  have B3 : BlkIs w0 (w.heap.size + 1) 3 #[.int .i64 most] := by rw [← hw0]; exact BlkIs.new1 _ _ _ _
  have HP := Lib.hid (hp.below HB0.out)
  have HB2 := Lib.hid B2
  have HB3 := Lib.hid B3
  have c2 := B2.cell 0
  have c3 := B3.cell 0
  have l2 := B2.lt
  have l3 := B3.lt
  have HG := Lib.hid (lgiven_any _ l most w0 HP.out (by omega) hf)
  clear hp B2 B3
  go_enter Tryz.func14, Tryz.ntmps14
  go_wp2_with fail
  (try rw [hw0])
  clear hw0
  refine HG.out.mono ?_
  rintro e w1 ⟨rfl, hb1⟩
  have HB1 := Lib.hid hb1
  obtain ⟨q, hq⟩ : ∃ q, givU l most = q := ⟨_, rfl⟩
  have HQ := Lib.hid hq
  clear HG hq hb1 c2 c3 l2 l3
  by_cases h0 : q = 0
  · subst h0
    rw [HQ.out]
    have c2 := (HB2.out.below HB1.out).cell 0
    have l2 := (HB2.out.below HB1.out).lt
    have HOK := Lib.hid (giv_ok HQ.out)
    have HM := Lib.hid (mass_in HOK.out.1)
    have HH := Lib.hid (heaviest_any _ l w1 (HP.out.below HB1.out) hl HM.out)
    go_wp2_with fail
    refine HH.out.mono ?_
    rintro e w2 ⟨vo, o, rfl, ho, hpm, hb2⟩
    obtain ⟨on, rfl, hpn⟩ := nat_perm hpm
    have HO := Lib.hid (own_nat ho)
    have HBX := Lib.hid (bstep HB1.out hb2)
    have HPN := Lib.hid hpn
    have honl : on.length = l.length := by rw [hpn.length_eq, List.length_range]
    obtain ⟨oo, oc, rfl⟩ := HO.out.shape
    clear HH c2 l2 hb2 hpm hpn ho
    go_wp2_with fail
    go_loopw [7, 8, 21] (fun V m i wr => ∃ (k : Nat) (R : List (List Nat)) (M : List Int) (vals : List Value), k ≤ on.length ∧ i = .int .i64 (k : Int) ∧ GI l most on k R M ∧ GW w2 V m vals R M wr) (fun _ _ i _ => on.length - (intOf i).toNat)
    case atStart => exact ⟨0, [], [], [], Nat.zero_le _, rfl, GI.start _ _ _, GW.start _⟩
    case round =>
      obtain ⟨k, R, M, vals, hk, rfl, hGI, hGW⟩ := hrel
      by_cases hk2 : k < on.length
      · obtain ⟨i, hi⟩ : ∃ i, on[k]? = some i := ⟨_, List.getElem?_eq_getElem hk2⟩
        have hil : i < l.length := List.mem_range.1 (HPN.out.mem_iff.1 (List.mem_of_getElem? hi))
        obtain ⟨go, gc, hgo, hgol, _, _⟩ := Own.form HO.out (by omega)
        cases hgo
        have c0 := (hGW.bl.cell (p := ⟨go, k, none⟩) hgol).trans (HO.out.cell hi)
        unfold natf at c0
        obtain ⟨B10, hB10⟩ : ∃ b, wr.heap.size = b := ⟨_, rfl⟩
        obtain ⟨W5, hW5⟩ : ∃ W, wr.alloc (.cells #[.int .i64 (i : Int)] 3) = W := ⟨_, rfl⟩
        have hb5 : Below wr.heap.size wr W5 := by rw [← hW5]; exact below_new _ _
        have HGW5 := Lib.hid (hGW.below hb5)
        have HB5 : Hid (BlkIs W5 B10 3 #[.int .i64 (i : Int)]) := by rw [← hW5, ← hB10]; exact Lib.hid (BlkIs.new _ _ _)
        have HBW : Hid (Below w0.heap.size w0 W5) := Lib.hid (HBX.out.trans (HGW5.out.bl.mono HBX.out.size))
        have HNB : Hid (∀ (j : Nat) v g, vals[j]? = some v → v.ownBlock = some g → g < B10) := Lib.hid (fun j v g hv hg => by
          obtain ⟨s, hs⟩ := getElem?_of_len hGW.mv.1 hv
          rw [← hB10]
          exact ((hGW.mv.2.2.1 j v s hv hs).lt g hg).2)
        have HMS := Lib.hid (fun g hg => by rw [← hB10]; exact (hGW.ms.lt g hg).2 : ∀ g, u8.ownBlock = some g → g < B10)
        have HIX := Lib.hid (indexInts_any 40 #[.pointer (some ⟨w.heap.size, 0, none⟩), .pointer (some ⟨B10, 0, none⟩), .pointer (some ⟨w.heap.size + 1, 0, none⟩)] (fitP (massZ l i) most) u8 M W5 HGW5.out.ms.sl (by have := hGI.few; have := hGI.len; omega) ⟨fun xs W => by go_simp, fun x W hx hW => by
          have hx2 := hGI.rng x hx
          have hBW := HBW.out.trans (hW.mono HBW.out.size)
          exact gfit_any w.heap.size B10 (w.heap.size + 1) (.slice ao l.length cap) l i most x W (HP.out.below hBW) (by omega) HM.out ((hBW.cell (p := ⟨w.heap.size, 0, none⟩) HB2.out.lt).trans (HB2.out.cell 0)) ((hW.cell (p := ⟨B10, 0, none⟩) HB5.out.lt).trans (HB5.out.cell 0)) ((hBW.cell (p := ⟨w.heap.size + 1, 0, none⟩) HB3.out.lt).trans (HB3.out.cell 0)) hil (by omega)⟩)
        have HGI := Lib.hid hGI
        have HI := Lib.hid hi
        obtain ⟨vm, cm, hvm⟩ := hGW.ms.shape
        subst hvm
        obtain ⟨vv, cv, hvv⟩ := hGW.mv.2.1.shape
        subst hvv
        clear hGI hGW hi hb5
        go_wp2_with fail
        (try rw [hW5])
        (try rw [hB10])
        clear hW5 c0
        refine HIX.out.mono ?_
        rintro e w6 ⟨⟨r, rfl, hr⟩, hb6⟩
        have HGW6 := Lib.hid (HGW5.out.below hb6)
        have HB6 := Lib.hid (HB5.out.below hb6)
        clear HIX hb6 HBW HGW5 HB5
        rcases slot_of_first hr with ⟨j, rfl, hs, hj⟩ | ⟨rfl, hs⟩
        · clear hr
          have HS := Lib.hid hs
          have HGI1 : Hid (∀ r m, R[j]? = some r → M[j]? = some m → GI l most on (k + 1) (R.set j (r ++ [i])) (M.set j (m + massZ l i))) := Lib.hid (fun r m hr hm => HGI.out.old HM.out HI.out HS.out hr hm)
          have HJ : Hid (j < R.length) := Lib.hid (by rw [HGI.out.len]; exact hj)
          have HLN := Lib.hid HGI.out.len
          have HGI2 : Hid (∀ m, M[j]? = some m → 0 ≤ m ∧ m ≤ 20890720927744) := Lib.hid (fun m hm => by have := HGI.out.rng m (List.mem_of_getElem? hm); omega)
          have HRL : Hid (∀ r, R[j]? = some r → r.length + 1 ≤ 1099511627776) := Lib.hid (row_len HGI.out hk (by omega))
          clear hs
          go_wp2_with fail
          clear hj
          obtain ⟨R1, rfl⟩ : ∃ R1, R1 = R := ⟨_, rfl⟩
          obtain ⟨M1, rfl⟩ : ∃ R1, R1 = M := ⟨_, rfl⟩
          obtain ⟨vals1, rfl⟩ : ∃ R1, R1 = vals := ⟨_, rfl⟩
          obtain ⟨W7, rfl⟩ : ∃ R1, R1 = w6 := ⟨_, rfl⟩
          obtain ⟨HGW1, _⟩ : Hid _ ∧ True := ⟨HGW6, trivial⟩
          obtain ⟨HB10, _⟩ : Hid _ ∧ True := ⟨HB6, trivial⟩
          obtain ⟨HNB1, _⟩ : Hid _ ∧ True := ⟨HNB, trivial⟩
          have hj : j < R1.length := HJ.out
          have hlen : R1.length = M1.length := HLN.out
          obtain ⟨v1, hv1⟩ : ∃ v, vals1[j]? = some v := ⟨_, List.getElem?_eq_getElem (by rw [HGW1.out.mv.1]; exact hj)⟩
          obtain ⟨r1, hr1⟩ : ∃ r, R1[j]? = some r := ⟨_, List.getElem?_eq_getElem hj⟩
          obtain ⟨m0, hm0⟩ : ∃ r, M1[j]? = some r := ⟨_, List.getElem?_eq_getElem (by omega)⟩
          obtain ⟨G, _, hV1, hGl, hGb, hGo⟩ := Own.form HGW1.out.mv.2.1 (by rw [HGW1.out.mv.1]; omega)
          obtain ⟨Gm, _, hm1v, hGml, hGmb, hGmo⟩ := Own.form HGW1.out.ms (by omega)
          cases hV1
          cases hm1v
          have hvl : vals1.length = R1.length := HGW1.out.mv.1
          rw [hvl] at HGW1 ⊢
          have hrow1 := HGW1.out.mv.2.2.1 j v1 r1 hv1 hr1
          have b3 := HGW1.out.mv.2.1.cell hv1
          have b4 := HGW1.out.mv.2.1.free j
          have b1 := HB10.out.cell 0
          have sz1 := HB10.out.lt
          have hag1 : v1.ownBlock ≠ some G := fun e => hrow1.apart HGW1.out.mv.2.1 (by decide) _ e rfl
          have hag2 : v1.ownBlock ≠ some B10 := fun e => absurd (HNB1.out j v1 B10 hv1 e) (Nat.lt_irrefl _)
          have hag3 : G ≠ B10 := fun e => HGW1.out.mv.2.1.apart_blk HB10.out (by decide) _ rfl e
          have hag4 : Gm ≠ G := fun e => (HGW1.out.mv.2.1.apart HGW1.out.ms (by decide)) G rfl (by rw [← e]; rfl)
          obtain ⟨ao1, cap1, hsh1⟩ := hrow1.shape
          have HV1 := Lib.hid hv1
          have HR1 := Lib.hid hr1
          have HM0 := Lib.hid hm0
          have HSH1 := Lib.hid hsh1
          have hrl : r1.length + 1 ≤ 1099511627776 := HRL.out r1 hr1
          have szG : G < W7.heap.size := hGl
          have hbase := HGW1.out.bl.size
          unfold rowf at b3
          have b3' := (World.cell?_alloc_lt W7 (.cells #[.int .i64 (i : Int)] 3) ⟨G, j, none⟩ hGl).trans b3
          have b1' := (World.cell?_alloc_lt W7 (.cells #[.int .i64 (i : Int)] 3) ⟨B10, 0, none⟩ sz1).trans b1
          have hrowW : Own W7.drew w2.heap.size 3 natf v1 r1 := hrow1
          have z0 : (0 : Int) ≤ (j : Int) := Int.natCast_nonneg _
          have z1 : (j : Int) < (R1.length : Int) := by omega
          clear hv1 hr1 hm0 hsh1 hrow1 hlen
          go_cut [] (fun wx => ∃ vals2, GW w2 (.slice (some ⟨G, 0, none⟩) R1.length cv) (.slice (some ⟨Gm, 0, none⟩) M1.length cm) vals2 (R1.set j (r1 ++ [i])) M1 wx ∧ BlkIs wx B10 3 #[.int .i64 (i : Int)])
          case first =>
            go_region_law
              ((refine step_push _ (by rfl) _ _ _ (by rfl) 3 8 elemInt w2.heap.size natf v1 r1 i rfl hrowW (by rfl) (by rfl) hrl (by omega) (by simp; omega) ?_; intro v2 w5 hown2 hg2 hat2; obtain ⟨ao2, c2, rfl⟩ := hown2.shape; rw [List.length_append, List.length_singleton] at hown2 hat2; have hfz2 : w5.frozen? ⟨G, j, none⟩ = false := (hg2.frozen_far ⟨G, j, none⟩ (by simp; omega) (Ne.symm hag1)).trans b4; have hcl2 : w5.cell? ⟨G, j, none⟩ = some v1 := (hg2.cell_far ⟨G, j, none⟩ (by simp; omega) (Ne.symm hag1)).trans b3; have hbx2 : w5.cell? ⟨B10, 0, none⟩ = some (.int .i64 (i : Int)) := (hg2.cell_far ⟨B10, 0, none⟩ (by simp; omega) (Ne.symm hag2)).trans b1))
            all_goals
              have HF := HGW1.out.pushAt HV1.out HR1.out hown2 (undrew hg2) hat2
              have HK : BlkIs w5 B10 3 #[.int .i64 (i : Int)] := (hg2.block B10 (by simp; omega) (fun e => hag2 e.symm)).trans HB10.out
              have HK2 := HK.far (p := ⟨G, j, none⟩) (Ne.symm hag3) (.slice ao2 (r1.length + 1) c2)
              obtain ⟨vals2, HF⟩ := HF
              have HF3 := Lib.hid (And.intro HF HK2)
              clear HF HK HK2
              go_wp2_with fail
              go_meet
              case rel => exact ⟨vals2, HF3.out⟩
          case rest =>
            obtain ⟨vals2, hG2, hB2⟩ := hcut
            obtain ⟨W8, rfl⟩ : ∃ W, W = wc := ⟨_, rfl⟩
            have hBW := HBX.out.trans (hG2.bl.mono HBX.out.size)
            obtain ⟨x, hx⟩ : ∃ y, l[i]? = some y := ⟨_, List.getElem?_eq_getElem hil⟩
            obtain ⟨bb, boff, hao, hbl, _, _, _, e4⟩ := buns_get (HP.out.below hBW) hx
            subst hao
            have hmx := HM.out x (List.mem_of_getElem? hx)
            have hm0 := HGI2.out m0 HM0.out
            have e0 := hG2.ms.cell HM0.out
            unfold intv at e0
            have e1 := hG2.ms.free j
            have e2 := (hBW.cell (p := ⟨w.heap.size, 0, none⟩) HB2.out.lt).trans (HB2.out.cell 0)
            have e3 := hB2.cell 0
            have e5 : w.heap.size < W8.heap.size := Nat.lt_of_lt_of_le HB2.out.lt hBW.size
            have e6 := hB2.lt
            have e7 : Gm < W8.heap.size := (hG2.ms.lt Gm rfl).2
            have z2 : (j : Int) < (M1.length : Int) := by have := HLN.out; omega
            have z3 : (0 : Int) ≤ (i : Int) := Int.natCast_nonneg _
            have z4 : (i : Int) < (l.length : Int) := by omega
            have z5 : j < M1.length := by have := HLN.out; omega
            have hwr : IntKind.i64.wrap (m0 + x.mass) = m0 + x.mass := IntWalk.i64_in _ (by omega)
            have HFIN := Lib.hid ((hG2.below (below_drewN' (Below.refl _ _) 1)).setMass (k := j) (x := m0 + x.mass))
            have HNX := Lib.hid (HGI1.out r1 m0 HR1.out HM0.out)
            rw [massZ_at hx] at HNX
            clear hG2 hB2 hBW hx hmx hm0 b1 b3 b4 b1' b3' hrowW
            go_wp2_with fail
            go_region
            all_goals
              go_wp2
              go_roundw
              case rel => exact ⟨k + 1, R1.set j (r1 ++ [i]), M1.set j (m0 + x.mass), vals2, by omega, by go_num, HNX.out, HFIN.out⟩
              case measure => simp [intOf]; omega
        · clear hr
          have HS := Lib.hid hs
          have hvl0 : vals.length = R.length := HGW6.out.mv.1
          have hfew := HGI.out.few
          have hlen0 := HGI.out.len
          have hln1 : vals.length + 1 ≤ 1099511627776 := by omega
          have hln2 : M.length + 1 ≤ 1099511627776 := by omega
          have hb6 := HGW6.out.bl.size
          have hH : ∀ j : Nat, j = R.length → (∀ r m, (R ++ [[]])[j]? = some r → (M ++ [0])[j]? = some m → GI l most on (k + 1) ((R ++ [[]]).set j (r ++ [i])) ((M ++ [0]).set j (m + massZ l i))) ∧ j < (R ++ [[]]).length ∧ (R ++ [[]]).length = (M ++ [0]).length ∧ (∀ m, (M ++ [0])[j]? = some m → 0 ≤ m ∧ m ≤ 20890720927744) ∧ (∀ r, (R ++ [[]])[j]? = some r → r.length + 1 ≤ 1099511627776) := by
            rintro j rfl
            refine ⟨fun r m hr hm => ?_, by simp, by simp [hlen0], fun m hm => ?_, fun r hr => ?_⟩
            · rw [List.getElem?_append_right (Nat.le_refl _), Nat.sub_self] at hr
              rw [List.getElem?_append_right (by omega), show R.length - M.length = 0 by omega] at hm
              cases hr
              cases hm
              exact HGI.out.new HM.out HI.out HS.out
            · rw [List.getElem?_append_right (by omega), show R.length - M.length = 0 by omega] at hm
              cases hm
              omega
            · rw [List.getElem?_append_right (Nat.le_refl _), Nat.sub_self] at hr
              cases hr
              simp
          have HH := Lib.hid hH
          have HNN : Hid (∀ (j : Nat) v g, (vals ++ [Value.slice none 0 0])[j]? = some v → v.ownBlock = some g → g < B10) := Lib.hid (fun j v g hv hg => by
            rcases Nat.lt_or_ge j vals.length with hj | hj
            · rw [List.getElem?_append_left hj] at hv
              exact HNB.out j v g hv hg
            · rw [List.getElem?_append_right hj] at hv
              have : j - vals.length = 0 := by
                have := (List.getElem?_eq_some_iff.1 hv).1
                simp at this; omega
              rw [this] at hv
              cases hv
              cases hg)
          have hnm : ∀ g, (Value.slice vm M.length cm).ownBlock = some g → g ≠ B10 := fun g hg e => by
            have := (HMS.out g hg)
            omega
          have HNM := Lib.hid hnm
          rw [hvl0] at HGW6 ⊢
          clear hs hH hlen0 hfew hnm hvl0
          go_wp2_with (first
            | (at_builtin; refine wpList_pushO w6 w6.heap.size rfl rfl _ _ 47 rfl 23 24 elemRow w2.heap.size rowf _ _ (.slice none 0 0) rfl HGW6.out.mv.2.1 rfl rfl hln1 (by omega) hb6 ?_; intro V' w7 hown' hg' hat'; have HGa := Lib.hid (HGW6.out.pushRow hown' hg'); have HBa := Lib.hid (HB6.out.else_ hg' (fun e => HGW6.out.mv.2.1.apart_blk HB6.out (by decide) _ e.symm rfl)); have hb7 := HGa.out.bl.size; clear hown' hg' hat')
            | (at_builtin; refine wpList_pushO w7 w7.heap.size rfl rfl _ _ 23 rfl 3 8 elemInt w2.heap.size intv _ _ 0 rfl HGa.out.ms rfl rfl hln2 (by omega) hb7 ?_; intro m' W7 hown' hg' hat'; have HGW1 := Lib.hid (HGa.out.pushMass hown' hg' hat'); have HB10 := Lib.hid (HBa.out.else_ hg' (fun e => HNM.out _ e.symm rfl)); clear hown' hg' hat'))
          obtain ⟨_, cv, hvq⟩ := HGW1.out.mv.2.1.shape
          obtain ⟨_, cm, hmq⟩ := HGW1.out.ms.shape
          subst hvq hmq
          obtain ⟨j, hjq⟩ : ∃ j, R.length = j := ⟨_, rfl⟩
          rw [hjq]
          obtain ⟨HGI1, HJ, HLN, HGI2, HRL⟩ : Hid _ ∧ Hid _ ∧ Hid _ ∧ Hid _ ∧ Hid _ := ⟨(HH.out j hjq.symm).1, (HH.out j hjq.symm).2.1, (HH.out j hjq.symm).2.2.1, (HH.out j hjq.symm).2.2.2.1, (HH.out j hjq.symm).2.2.2.2⟩
          obtain ⟨HNB1, _⟩ : Hid _ ∧ True := ⟨HNN, trivial⟩
          clear HH HNN HGW6 HGa HB6 HBa hjq hb6 hb7 hln1 hln2
          generalize R ++ [[]] = R1 at *
          generalize M ++ [0] = M1 at *
          generalize vals ++ [Value.slice none 0 0] = vals1 at *
          have hj : j < R1.length := HJ.out
          have hlen : R1.length = M1.length := HLN.out
          obtain ⟨v1, hv1⟩ : ∃ v, vals1[j]? = some v := ⟨_, List.getElem?_eq_getElem (by rw [HGW1.out.mv.1]; exact hj)⟩
          obtain ⟨r1, hr1⟩ : ∃ r, R1[j]? = some r := ⟨_, List.getElem?_eq_getElem hj⟩
          obtain ⟨m0, hm0⟩ : ∃ r, M1[j]? = some r := ⟨_, List.getElem?_eq_getElem (by omega)⟩
          obtain ⟨G, _, hV1, hGl, hGb, hGo⟩ := Own.form HGW1.out.mv.2.1 (by rw [HGW1.out.mv.1]; omega)
          obtain ⟨Gm, _, hm1v, hGml, hGmb, hGmo⟩ := Own.form HGW1.out.ms (by omega)
          cases hV1
          cases hm1v
          have hvl : vals1.length = R1.length := HGW1.out.mv.1
          rw [hvl] at HGW1 ⊢
          have hrow1 := HGW1.out.mv.2.2.1 j v1 r1 hv1 hr1
          have b3 := HGW1.out.mv.2.1.cell hv1
          have b4 := HGW1.out.mv.2.1.free j
          have b1 := HB10.out.cell 0
          have sz1 := HB10.out.lt
          have hag1 : v1.ownBlock ≠ some G := fun e => hrow1.apart HGW1.out.mv.2.1 (by decide) _ e rfl
          have hag2 : v1.ownBlock ≠ some B10 := fun e => absurd (HNB1.out j v1 B10 hv1 e) (Nat.lt_irrefl _)
          have hag3 : G ≠ B10 := fun e => HGW1.out.mv.2.1.apart_blk HB10.out (by decide) _ rfl e
          have hag4 : Gm ≠ G := fun e => (HGW1.out.mv.2.1.apart HGW1.out.ms (by decide)) G rfl (by rw [← e]; rfl)
          obtain ⟨ao1, cap1, hsh1⟩ := hrow1.shape
          have HV1 := Lib.hid hv1
          have HR1 := Lib.hid hr1
          have HM0 := Lib.hid hm0
          have HSH1 := Lib.hid hsh1
          have hrl : r1.length + 1 ≤ 1099511627776 := HRL.out r1 hr1
          have szG : G < W7.heap.size := hGl
          have hbase := HGW1.out.bl.size
          unfold rowf at b3
          have b3' := (World.cell?_alloc_lt W7 (.cells #[.int .i64 (i : Int)] 3) ⟨G, j, none⟩ hGl).trans b3
          have b1' := (World.cell?_alloc_lt W7 (.cells #[.int .i64 (i : Int)] 3) ⟨B10, 0, none⟩ sz1).trans b1
          have hrowW : Own W7.drew w2.heap.size 3 natf v1 r1 := hrow1
          have z0 : (0 : Int) ≤ (j : Int) := Int.natCast_nonneg _
          have z1 : (j : Int) < (R1.length : Int) := by omega
          clear hv1 hr1 hm0 hsh1 hrow1 hlen
          go_cut [] (fun wx => ∃ vals2, GW w2 (.slice (some ⟨G, 0, none⟩) R1.length cv) (.slice (some ⟨Gm, 0, none⟩) M1.length cm) vals2 (R1.set j (r1 ++ [i])) M1 wx ∧ BlkIs wx B10 3 #[.int .i64 (i : Int)])
          case first =>
            go_region_law
              ((refine step_push _ (by rfl) _ _ _ (by rfl) 3 8 elemInt w2.heap.size natf v1 r1 i rfl hrowW (by rfl) (by rfl) hrl (by omega) (by simp; omega) ?_; intro v2 w5 hown2 hg2 hat2; obtain ⟨ao2, c2, rfl⟩ := hown2.shape; rw [List.length_append, List.length_singleton] at hown2 hat2; have hfz2 : w5.frozen? ⟨G, j, none⟩ = false := (hg2.frozen_far ⟨G, j, none⟩ (by simp; omega) (Ne.symm hag1)).trans b4; have hcl2 : w5.cell? ⟨G, j, none⟩ = some v1 := (hg2.cell_far ⟨G, j, none⟩ (by simp; omega) (Ne.symm hag1)).trans b3; have hbx2 : w5.cell? ⟨B10, 0, none⟩ = some (.int .i64 (i : Int)) := (hg2.cell_far ⟨B10, 0, none⟩ (by simp; omega) (Ne.symm hag2)).trans b1))
            all_goals
              have HF := HGW1.out.pushAt HV1.out HR1.out hown2 (undrew hg2) hat2
              have HK : BlkIs w5 B10 3 #[.int .i64 (i : Int)] := (hg2.block B10 (by simp; omega) (fun e => hag2 e.symm)).trans HB10.out
              have HK2 := HK.far (p := ⟨G, j, none⟩) (Ne.symm hag3) (.slice ao2 (r1.length + 1) c2)
              obtain ⟨vals2, HF⟩ := HF
              have HF3 := Lib.hid (And.intro HF HK2)
              clear HF HK HK2
              go_wp2_with fail
              go_meet
              case rel => exact ⟨vals2, HF3.out⟩
          case rest =>
            obtain ⟨vals2, hG2, hB2⟩ := hcut
            obtain ⟨W8, rfl⟩ : ∃ W, W = wc := ⟨_, rfl⟩
            have hBW := HBX.out.trans (hG2.bl.mono HBX.out.size)
            obtain ⟨x, hx⟩ : ∃ y, l[i]? = some y := ⟨_, List.getElem?_eq_getElem hil⟩
            obtain ⟨bb, boff, hao, hbl, _, _, _, e4⟩ := buns_get (HP.out.below hBW) hx
            subst hao
            have hmx := HM.out x (List.mem_of_getElem? hx)
            have hm0 := HGI2.out m0 HM0.out
            have e0 := hG2.ms.cell HM0.out
            unfold intv at e0
            have e1 := hG2.ms.free j
            have e2 := (hBW.cell (p := ⟨w.heap.size, 0, none⟩) HB2.out.lt).trans (HB2.out.cell 0)
            have e3 := hB2.cell 0
            have e5 : w.heap.size < W8.heap.size := Nat.lt_of_lt_of_le HB2.out.lt hBW.size
            have e6 := hB2.lt
            have e7 : Gm < W8.heap.size := (hG2.ms.lt Gm rfl).2
            have z2 : (j : Int) < (M1.length : Int) := by have := HLN.out; omega
            have z3 : (0 : Int) ≤ (i : Int) := Int.natCast_nonneg _
            have z4 : (i : Int) < (l.length : Int) := by omega
            have z5 : j < M1.length := by have := HLN.out; omega
            have hwr : IntKind.i64.wrap (m0 + x.mass) = m0 + x.mass := IntWalk.i64_in _ (by omega)
            have HFIN := Lib.hid ((hG2.below (below_drewN' (Below.refl _ _) 1)).setMass (k := j) (x := m0 + x.mass))
            have HNX := Lib.hid (HGI1.out r1 m0 HR1.out HM0.out)
            rw [massZ_at hx] at HNX
            clear hG2 hB2 hBW hx hmx hm0 b1 b3 b4 b1' b3' hrowW
            go_wp2_with fail
            go_region
            all_goals
              go_wp2
              go_roundw
              case rel => exact ⟨k + 1, R1.set j (r1 ++ [i]), M1.set j (m0 + x.mass), vals2, by omega, by go_num, HNX.out, HFIN.out⟩
              case measure => simp [intOf]; omega
      · obtain rfl : k = on.length := by omega
        have HF : Hid (Below w.heap.size w wr ∧ MatVals wr w2.heap.size u7 vals R) := Lib.hid ⟨bstep HB0.out (HBX.out.trans (hGW.bl.mono HBX.out.size)), hGW.mv⟩
        have HGI := Lib.hid hGI
        clear hGI hGW
        go_wp2
        go_ret2
        exact ⟨_, by rw [HQ.out]; rfl, HF.out.1, fun h => absurd HQ.out h, fun _ => ⟨on, R, M, vals, w2.heap.size, Nat.le_trans HB0.out.size HBX.out.size, HPN.out, HGI.out, HF.out.2⟩⟩
  · rw [HQ.out]
    go_wp2
    go_ret2
    exact ⟨_, by rw [HQ.out]; rfl, bstep HB0.out HB1.out, fun _ => rfl, fun h => absurd (HQ.out.symm.trans h) h0⟩
end
end Go.Proofs.YtejcgjdfajppgaaGreatDoor
