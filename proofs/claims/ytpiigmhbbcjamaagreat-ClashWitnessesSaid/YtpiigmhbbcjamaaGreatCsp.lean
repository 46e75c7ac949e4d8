/-
  The laid bars of clash: their legs and sizes behind a pointer; clash.of.
-/
import Derived.Test.YtpiigmhbbcjamaaGreatClp
import Derived.Test.YtpiigmhbbcjamaaGreatBkw
import Derived.Test.YtpiigmhbbcjamaaGreatQdl
import Derived.Test.YtpiigmhbbcjamaaGreatMxw
namespace Go.Proofs.YtpiigmhbbcjamaaGreat
section
open Go.RowKit
set_option linter.unusedVariables false
set_option linter.unusedSimpArgs false
attribute [local go_sem ↓] Go.wp_at_zero Go.wp_at_succ

theorem elemBxs : Elem Tryz.prog 64 77 24 := elem_of (z := .slice none 0 0) Tryz.underlying64 (by kernel_rfl) rfl

/-- Append to a row of the call's own, the literal's block known wherever it lies. -/
theorem step_pushL {α : Type} {P : Program} (W : World) {ops : Array Oper} {o : Oper} {a : Act} {K : Act → World → Prop} {Q : Exit → Act → World → Prop} {E : Prop} (hgd : o.guard = none) (s x : Operand) (t : TypeId)
    (ho : o.op = .call { callee := .builtin .append, args := #[s, x], argTypes := #[t, t] })
    (e bytes : Nat) (he : Elem P t e bytes) (base : Nat) (f : α → Value) (v : Value) (l : List α) (y : α) (g : Nat) (h1 : (f y).oneCell' = true)
    (hown : Own W base e f v l) (hlit : W.cell? ⟨g, 0, none⟩ = some (f y)) (hs : a.eval s = v) (hx : a.eval x = .slice (some ⟨g, 0, none⟩) 1 1)
    (h63 : l.length + 1 ≤ 1099511627776) (hby : bytes ≤ 64) (hbase : base ≤ W.heap.size)
    (d : Option Tmp) (hd : o.dst = d) (hK : ∀ v' w', Own w' base e f v' (l ++ [y]) → W.grownBy w' v.ownBlock → K (a.put d v') w') :
    if Region.wanted o (yielded ops a.tmps) = true then Oper.wp P o a W K Q else E := by
  subst hd
  have hw : Region.wanted o (yielded ops a.tmps) = true := by simp [Region.wanted, hgd]
  rw [if_pos hw]
  obtain ⟨ht, i, z, hi, hz, hsz, hb, hzs⟩ := he
  obtain ⟨v', w', hrun, h2, h3, _, h5⟩ := run_append_own_at (P := P) W base t o.type e i z 1 bytes ht hi hz hsz hb hzs (by omega) v l.length (l.map f) hown
    ⟨g, 0, none⟩ 1 1 [f y] rfl (by
      intro j u hj
      match j, hj with
      | 0, hj =>
        cases hj
        rw [Addr.add_lit]; exact hlit) (by
      intro u hu
      rw [List.mem_singleton.1 hu]; exact h1) (by unfold maxLen; omega) (by
      have : (l.length + 1) * bytes ≤ 1099511627776 * 64 := Nat.mul_le_mul h63 hby
      omega) hbase
  unfold Oper.wp execOp
  simp only [ho, resolve, invoke, builtin, Sem.run_bind, Sem.run_pure, Result.andThen_ok, List.map_toArray, List.map_cons, List.map_nil, hs, hx, hrun]
  refine hK v' w' ?_ h3
  unfold Own
  rw [List.length_append, List.map_append]
  exact h2
theorem step_build {P : Program} (W W' : World) {ops : Array Oper} {o : Oper} {a : Act} {K : Act → World → Prop} {Q : Exit → Act → World → Prop} {E : Prop} (hgd : o.guard = none) (t : TypeId) (x : Operand) (ho : o.op = .buildSlice t 1 #[(0, x)]) (d : Option Tmp) (hd : o.dst = d)
    (u r : Value) (hx : a.eval x = u) (hrun : (Instr.buildSlice t 1 #[(0, u)]).run P W = .ok r W') (hK : K (a.put d r) W') :
    if Region.wanted o (yielded ops a.tmps) = true then Oper.wp P o a W K Q else E := by
  subst hd
  have hw : Region.wanted o (yielded ops a.tmps) = true := by simp [Region.wanted, hgd]
  rw [if_pos hw]
  unfold Oper.wp execOp
  simp only [ho, List.map_toArray, List.map_cons, List.map_nil, hx, Sem.run_bind, hrun, Result.andThen_ok, Sem.run_pure]
  exact hK
theorem run_build_bxs (ao : Option Addr) (n c : Nat) (W : World) : (Instr.buildSlice 64 1 #[(0, .slice ao n c)]).run Tryz.prog W = .ok (.slice (some ⟨W.heap.size, 0, none⟩) 1 1) (W.alloc (.cells #[.slice ao n c] 77)) := by go_simp
theorem run_build_int (z : Int) (W : World) : (Instr.buildSlice 65 1 #[(0, .int .i64 z)]).run Tryz.prog W = .ok (.slice (some ⟨W.heap.size, 0, none⟩) 1 1) (W.alloc (.cells #[.int .i64 z] 3)) := by go_simp
theorem ownN_apart {α β : Type} {w : World} {base base' : Nat} {e e' : TypeId} {n' : Nat} {f : α → Value} {f' : β → List Value} {v v' : Value} {l : List α} {l' : List β} (h' : OwnN w base' e' n' f' v' l') (h : Own w base e f v l) (hne : e ≠ e') : ∀ g, v'.ownBlock = some g → some g ≠ v.ownBlock := by
  intro g hg he
  rcases h'.2 with ⟨rfl, _⟩ | ⟨g1, cap, cur, rfl, _, hh, _⟩
  · cases hg
  · cases hg
    rcases h.2 with ⟨rfl, _⟩ | ⟨g2, cap2, cur2, rfl, _, hh2, _⟩
    · cases he
    · cases he
      rw [hh] at hh2
      injection hh2 with hh2
      injection hh2 with _ ht
      exact hne ht.symm

theorem BlkIs.only {w w' : World} {g : Nat} {t : TypeId} {cs : Array Value} {r : Option Nat} (h : BlkIs w g t cs) (hg : w.grownBy w' r) (hne : some g ≠ r) : BlkIs w' g t cs := (hg.block g h.lt hne).trans h
/-- Legs and sizes behind a pointer, as they are read. -/
def Spc (w : World) (T : Nat) (L : List (List Bx)) (Z : List Int) : Prop :=
  ∃ V U, BlkIs w T 67 #[V, U] ∧ SlOf (fun w u x => Bxs w u x) w V L ∧ Ints w U Z
theorem Spc.below {w w1 : World} {T : Nat} {L : List (List Bx)} {Z : List Int} (h : Spc w T L Z) (hb : Below w.heap.size w w1) : Spc w1 T L Z := by
  obtain ⟨V, U, h1, h2, h3⟩ := h
  exact ⟨V, U, h1.below hb, SlOf.below (R := fun w u x => Bxs w u x) (fun w w1 u x h hb => Fl.below h hb) h2 hb, Sl.below h3 hb⟩
/-- While they are being built. -/
structure SpX (w : World) (B T M n : Nat) (m : ByteArray → Int) (V0 U0 V U : Value) (R : List Value) (D : List Int) (L : List (List Bx)) (wr : World) : Prop where
  below : Below w.heap.size w wr
  sp : BlkIs wr T 67 #[V0, U0]
  rows : Own wr B 77 rowf V R
  at_ : ∀ (j : Nat) u, R[j]? = some u → OwnBxs wr B u (L.getD j [])
  siz : Own wr B 3 intv U D
  map : SMap wr M n m
  hT : w.heap.size ≤ T ∧ T < B
  hM : w.heap.size ≤ M ∧ M < B
  hB : B ≤ wr.heap.size
  hMT : M ≠ T
section
variable {w wr w' : World} {B T M n : Nat} {m : ByteArray → Int} {V0 U0 V U : Value} {R : List Value} {D : List Int} {L : List (List Bx)}
theorem SpX.after (h : SpX w B T M n m V0 U0 V U R D L wr) (hb : Below wr.heap.size wr w') : SpX w B T M n m V0 U0 V U R D L w' :=
  ⟨bstep h.below hb, h.sp.below hb, h.rows.below hb, fun j u hu => OwnN.below (h.at_ j u hu) hb, h.siz.below hb, h.map.below hb, h.hT, h.hM, Nat.le_trans h.hB hb.size, h.hMT⟩
theorem SpX.drew (h : SpX w B T M n m V0 U0 V U R D L wr) : SpX w B T M n m V0 U0 V U R D L wr.drew := h.after (Below.refl _ _).drew
theorem SpX.alloc (h : SpX w B T M n m V0 U0 V U R D L wr) (o : Obj) : SpX w B T M n m V0 U0 V U R D L (wr.alloc o) := h.after (below_new _ _)
theorem SpX.pushR {u V' : Value} (h : SpX w B T M n m V0 U0 V U R D L wr) (ho : Own w' B 77 rowf V' (R ++ [u])) (hg : wr.grownBy w' V.ownBlock) (hu : OwnBxs wr B u (L.getD R.length [])) : SpX w B T M n m V0 U0 V' U (R ++ [u]) D L w' := by
  have hne : ∀ g, g < B → some g ≠ V.ownBlock := fun g hg e => by have := (h.rows.lt g e.symm).1; omega
  have hz : wr.heap.size ≤ w'.heap.size := hg.size
  refine ⟨h.below.grown hg h.below.size (fun j hj => Nat.le_trans (Nat.le_trans h.hT.1 (Nat.le_of_lt h.hT.2)) (h.rows.lt j hj).1), (hg.block T h.sp.lt (hne T h.hT.2)).trans h.sp, ho, fun j x hx => ?_, h.siz.only hg (Own.apart h.siz h.rows (by decide)), h.map.only hg (hne M h.hM.2), h.hT, h.hM, Nat.le_trans h.hB hz, h.hMT⟩
  rcases Nat.lt_or_ge j R.length with h1 | h1
  · rw [List.getElem?_append_left h1] at hx
    exact OwnN.only (h.at_ j x hx) hg (ownN_apart (h.at_ j x hx) h.rows (by decide))
  · rw [List.getElem?_append_right h1] at hx
    have hj : j = R.length := by have := (List.getElem?_eq_some_iff.1 hx).1; simp at this; omega
    subst hj
    rw [show R.length - R.length = 0 by omega] at hx
    cases hx
    exact OwnN.only hu hg (ownN_apart hu h.rows (by decide))
theorem SpX.pushZ {z : Int} {U' : Value} (h : SpX w B T M n m V0 U0 V U R D L wr) (ho : Own w' B 3 intv U' (D ++ [z])) (hg : wr.grownBy w' U.ownBlock) : SpX w B T M n m V0 U0 V U' R (D ++ [z]) L w' := by
  have hne : ∀ g, g < B → some g ≠ U.ownBlock := fun g hg e => by have := (h.siz.lt g e.symm).1; omega
  have hz : wr.heap.size ≤ w'.heap.size := hg.size
  exact ⟨h.below.grown hg h.below.size (fun j hj => Nat.le_trans (Nat.le_trans h.hT.1 (Nat.le_of_lt h.hT.2)) (h.siz.lt j hj).1), (hg.block T h.sp.lt (hne T h.hT.2)).trans h.sp, h.rows.only hg (Own.apart h.rows h.siz (by decide)), fun j x hx => OwnN.only (h.at_ j x hx) hg (ownN_apart (h.at_ j x hx) h.siz (by decide)), ho, h.map.only hg (hne M h.hM.2), h.hT, h.hM, Nat.le_trans h.hB hz, h.hMT⟩
theorem SpX.store (h : SpX w B T M n m V0 U0 V U R D L wr) : SpX w B T M n m V U V U R D L ((wr.setCell ⟨T, 0, none⟩ V).setCell ⟨T, 1, none⟩ U) := by
  have g1 := only_trans (only_set wr T 0 V) (only_set (wr.setCell ⟨T, 0, none⟩ V) T 1 U)
  refine ⟨h.below.grown g1 h.below.size (fun j hj => by cases hj; exact h.hT.1), (h.sp.set 0 V).set 1 U, h.rows.only g1 (fun g hg e => by cases e; have := (h.rows.lt _ hg).1; have := h.hT.2; omega), fun j x hx => OwnN.only (h.at_ j x hx) g1 (fun g hg e => by cases e; have := (OwnN.lt (h.at_ j x hx) _ hg).1; have := h.hT.2; omega), h.siz.only g1 (fun g hg e => by cases e; have := (h.siz.lt _ hg).1; have := h.hT.2; omega), h.map.only g1 (fun e => h.hMT (Option.some.inj e)), h.hT, h.hM, by simpa using h.hB, h.hMT⟩
theorem SpX.spc {Z : List Int} (h : SpX w B T M n m V U V U R Z L wr) (hl : R.length = L.length) : Spc wr T L Z := by
  refine ⟨V, U, h.sp, ?_, h.siz.sl⟩
  obtain ⟨ao, cap, hv, h2⟩ := h.rows.sl
  refine ⟨ao, cap, by rw [hv, hl], fun h0 => ?_⟩
  obtain ⟨b, off, e1, e2, e3⟩ := h2 (by omega)
  refine ⟨b, off, e1, e2, fun k x hx => ?_⟩
  have hk := (List.getElem?_eq_some_iff.1 hx).1
  obtain ⟨u, hu⟩ : ∃ u, R[k]? = some u := ⟨_, List.getElem?_eq_getElem (by omega)⟩
  refine ⟨u, e3 k u hu, ?_⟩
  have := OwnN.fl bx_len (h.at_ k u hu)
  rw [List.getD_eq_getElem?_getD, hx] at this
  exact this
end

theorem barOk_size2 {l : List BarD} (h : schedOk l = true) {x : BarD} (hx : x ∈ l) : 0 ≤ x.size ∧ x.size ≤ 10000 := by
  obtain ⟨k, hk, rfl⟩ := List.mem_iff_getElem.1 hx
  exact barOk_size (sched_line h (List.getElem?_eq_getElem hk)).1
theorem of_bad (v vr : Value) (l : List BarD) (rs : List RunD) (w : World) (hp : Bars w v l) (hr : Runs w vr rs) (hl : l.length ≤ 140737488355328) (hlr : rs.length ≤ 140737488355328) (hf : FitB l) (h : laidOk l rs = false) :
    Calls Tryz.prog 33 #[v, vr] w fun e w' => e = .returned (.tuple #[.pointer none, .int .i64 1]) ∧ Below w.heap.size w w' := by
  have HB := Lib.hid (count_bad v vr l rs w hp hr hl hlr hf h)
  clear hp hr h
  go_enter Tryz.func33, Tryz.ntmps33
  go_wp2_with fail
  refine HB.out.mono ?_
  rintro e w1 ⟨rfl, hb1⟩
  have HB1 := Lib.hid hb1
  clear hb1
  go_wp2
  go_ret2
  exact ⟨rfl, HB1.out⟩

set_option maxRecDepth 100000 in
set_option maxHeartbeats 8000000 in
theorem of_good (v vr : Value) (l : List BarD) (rs : List RunD) (w : World) (hp : Bars w v l) (hr : Runs w vr rs) (hl : l.length ≤ 140737488355328) (hlr : rs.length ≤ 140737488355328) (hf : FitB l) (h : laidOk l rs = true) :
    Calls Tryz.prog 33 #[v, vr] w fun e w' => ∃ T, e = .returned (.tuple #[.pointer (some ⟨T, 0, none⟩), .int .i64 0]) ∧ Spc w' T (lgsOf l rs) (szsOf l rs) ∧ Below w.heap.size w w' := by
  have HCO := Lib.hid (count_good v vr l rs w hp hr hl hlr hf h)
  obtain ⟨s1, s2, s3, s4, s5⟩ := laid_sum h
  obtain ⟨b1, b2, b3⟩ := laid_bars h
  have hc0 : cumN rs ≤ 2000 := by omega
  have HMK := Lib.hid (fun (k : Nat) (hk : k < cumN rs) W (hW : Below w.heap.size w W) => mark_good v vr (k : Int) l rs W (hp.below hW) (hr.below hW) hl hlr hf h (by omega))
  have HLG := Lib.hid (fun (k : Nat) W (hW : Below w.heap.size w W) => legs_good v vr (k : Int) l rs W (hp.below hW) (hr.below hW) hl hlr hf h)
  have HFA := Lib.hid (fun (k : Nat) (hk : k < cumN rs) => laid_fact h hk)
  have HLL := Lib.hid (lgsOf_len l rs)
  have HZL := Lib.hid (szsOf_len l rs)
  have HP := Lib.hid hp
  have HFB := Lib.hid hf
  have HSZ := Lib.hid (fun (x : BarD) (hx : x ∈ l) => barOk_size2 b3 hx)
  obtain ⟨ao, cap, rfl⟩ := hp.at_
  have hmm := @run_makeMap Tryz.prog
  clear hp hr hf h s1 s2 s3 s4 s5 b1 b3
  go_enter Tryz.func33, Tryz.ntmps33
  go_wp2_with fail
  refine HCO.out.mono ?_
  rintro e w1 ⟨rfl, hb1⟩
  have HW1 : Hid (BalW w w1.heap.size 0 (fun _ => 0) (w1.alloc (.map #[] 0))) := ⟨hb1.alloc hb1.size _, SMap.new w1, hb1.size⟩
  have hB1 : w.heap.size ≤ w1.heap.size := hb1.size
  clear hb1 HCO
  go_wp2_with fail
  generalize hM : w1.heap.size = M at *
  generalize hn : cumN rs = n at *
  have HN := Lib.hid hn
  clear hn
  go_loopw [28] (fun i wr => ∃ k : Nat, k ≤ l.length ∧ i = .int .i64 k ∧ BalW w M k (sizF (l.take k)) wr) (fun i _ => l.length - (intOf i).toNat)
  case atStart => exact ⟨0, Nat.zero_le _, rfl, HW1.out⟩
  case round =>
    clear HW1
    obtain ⟨k, hk, rfl, hBW⟩ := hrel
    by_cases hk2 : k < l.length
    · obtain ⟨x, hy⟩ : ∃ y, l[k]? = some y := ⟨_, List.getElem?_eq_getElem hk2⟩
      obtain ⟨b, off, rfl, hbl, c0, c1, c2, c3, uo, uc, c4, hdx⟩ := bars_get (HP.out.below hBW.below) hy
      have HSN := Lib.hid (sizF_snoc hy)
      have HX := Lib.hid (HSZ.out x (List.mem_of_getElem? hy))
      have HXM := Lib.hid (HFB.out x (List.mem_of_getElem? hy)).1
      have HBW := Lib.hid (hBW.alloc (.cells #[.string x.mark, .int .i64 x.size, .int .i64 x.count, .int .i64 x.code, .slice uo x.dims.length uc] 87))
      clear hy hBW hdx
      go_wp2_with (at_mapUpdate; refine wpList_sput _ rfl _ _ _ rfl M k _ HBW.out.map (by omega) x.mark (by have := HXM.out; unfold maxLen at this; omega) x.size (by have := HX.out; exact WalkArith.wf_i64 (by omega)) rfl rfl rfl ?_; intro w5 hmp5 hg5; have HBW5 := Lib.hid (HBW.out.step hmp5 hg5); clear hmp5 hg5)
      go_roundw
      case rel => exact ⟨k + 1, by omega, by go_num, by rw [HSN.out]; exact HBW5.out⟩
      case measure => simp [intOf]; omega
    · obtain rfl : k = l.length := by omega
      rw [List.take_length] at hBW
      obtain ⟨wq, rfl⟩ : ∃ wq : World, wq = wr := ⟨_, rfl⟩
      have HX0 : Hid (SpX w (wq.heap.size + 1) wq.heap.size M l.length (sizF l) (.slice none 0 0) (.slice none 0 0) (.slice none 0 0) (.slice none 0 0) [] [] (lgsOf l rs) (wq.alloc (.cells #[.slice none 0 0, .slice none 0 0] 67))) :=
        ⟨hBW.below.alloc hBW.below.size _, BlkIs.new _ _ _, Own.nil _ _ _ _, (fun j u hu => by rw [List.getElem?_nil] at hu; cases hu), Own.nil _ _ _ _, hBW.map.alloc _, ⟨hBW.below.size, by omega⟩, ⟨hB1, by have := hBW.map.lt; omega⟩, by simp, by have := hBW.map.lt; omega⟩
      clear hBW
      go_wp2_with fail
      generalize hT : wq.heap.size = T at *
      clear hT
      go_loopw [41] (fun i wr => ∃ (k : Nat) (V U : Value) (R : List Value), k ≤ n ∧ i = .int .i64 k ∧ R.length = k ∧ SpX w (T + 1) T M l.length (sizF l) V U V U R ((szsOf l rs).take k) (lgsOf l rs) wr) (fun i _ => n - (intOf i).toNat)
      case atStart => exact ⟨0, .slice none 0 0, .slice none 0 0, [], Nat.zero_le _, rfl, rfl, HX0.out⟩
      case round =>
        clear HX0
        obtain ⟨k, V, U, R, hk, rfl, hRk, hX⟩ := hrel
        have HX := Lib.hid hX
        clear hX
        by_cases hk2 : k < n
        · obtain ⟨q, b, hF⟩ := HFA.out k hk2
          have HF := Lib.hid hF
          have HL := Lib.hid (HLG.out k wr HX.out.below)
          have HM := Lib.hid (fun W hW => HMK.out k hk2 W hW)
          clear hF HMK HLG HFA
          go_wp2_with fail
          refine HL.out.mono ?_
          rintro e w2 (⟨q2, u, _, hq2, rfl, hu, hb2⟩ | ⟨hi, _, _⟩)
          · obtain rfl : q = q2 := Option.some.inj (HF.out.pts.symm.trans hq2)
            have HX2 := Lib.hid (HX.out.after hb2)
            have HU2 : Hid (OwnBxs w2 (T + 1) u (legsN q (q.length - 1))) := OwnN.mono hu HX.out.hB
            obtain ⟨uo, uc, rfl⟩ := OwnN.shape hu
            clear hb2 hu hq2 HX HL
            go_wp2_with fail
            refine (HM.out _ HX2.out.below).mono ?_
            rintro e w3 (⟨m, _, hm, rfl, hb3⟩ | ⟨hi, _, _⟩)
            · obtain rfl : b.mark = m := Option.some.inj (HF.out.mark.symm.trans hm)
              have HX3 := Lib.hid (HX2.out.after hb3)
              have HU3 := Lib.hid (OwnN.below HU2.out hb3)
              have HBM : Hid (b.mark.size ≤ maxLen) := by
                obtain ⟨t, ht, hb⟩ := HF.out.find
                exact (HFB.out b (List.mem_of_getElem? hb)).1
              clear hb3 hm HM HX2 HU2
              go_wp2_with fail
              have hsz : ∀ {V' U' : Value} {R' : List Value} {D' : List Int} (W : World), SpX w (T + 1) T M l.length (sizF l) V U V' U' R' D' (lgsOf l rs) W → (Instr.lookup 90 (.map (some M)) (.string b.mark) false).run Tryz.prog W = .ok (.int .i64 b.size) W := fun W h => by
                have h2 := h.map.look (x := b.mark) (by have := HBM.out; unfold maxLen at this; omega)
                rwa [HF.out.siz] at h2
              have HLA : Hid ((lgsOf l rs).getD k [] = legsN q (q.length - 1)) := HF.out.lat
              have HZT : Hid ((szsOf l rs).take k ++ [b.size] = (szsOf l rs).take (k + 1)) := by
                have h1 := szsOf_at (l := l) HF.out.mark
                rw [HF.out.siz] at h1
                unfold Hid
                obtain ⟨hk9, he9⟩ := List.getElem?_eq_some_iff.1 h1
                rw [List.take_succ_eq_append_getElem hk9, he9]
              have hRl : R.length + 1 ≤ 1099511627776 := by omega
              have hZl : ((szsOf l rs).take k).length + 1 ≤ 1099511627776 := by rw [List.length_take]; omega
              generalize hln : (legsN q (q.length - 1)).length = ln at *
              clear hln
              refine wp_region_D 18 (fun W => W.cell? ⟨T, 0, none⟩ = some V ∧ W.cell? ⟨T, 1, none⟩ = some U ∧ (Instr.lookup 90 (.map (some M)) (.string b.mark) false).run Tryz.prog W = .ok (.int .i64 b.size) W) (by kernel_rfl) (fun hcl0 => ?_)
              have hcl := Lib.hid hcl0
              clear hcl0
              have hS : (w3.drew.cell? ⟨T, 0, none⟩ = some V ∧ w3.drew.cell? ⟨T, 1, none⟩ = some U ∧ (Instr.lookup 90 (.map (some M)) (.string b.mark) false).run Tryz.prog w3.drew = .ok (.int .i64 b.size) w3.drew) := ⟨HX3.out.drew.sp.cell 0, HX3.out.drew.sp.cell 1, hsz _ HX3.out.drew⟩
              refine wpAnyD_takeV (i := 0) (some 64) (.pointer (some ⟨T, 0, none⟩)) [] rfl rfl (by kernel_rfl) (fun _ _ _ h => h) hcl (Or.inl ⟨by rfl, (fun W _ => by rfl)⟩) hS (fun hcl => ?_)
              simp only [Act.put, List.setIfInBounds_toArray, List.set_cons_zero, List.set_cons_succ]
              refine wpAnyD_takeV (i := 2) (some 66) (.pointer (some ⟨T, 0, none⟩)) [] rfl rfl (by kernel_rfl) (fun _ _ _ h => h) hcl (Or.inl ⟨by rfl, (fun W _ => by rfl)⟩) hS (fun hcl => ?_)
              simp only [Act.put, List.setIfInBounds_toArray, List.set_cons_zero, List.set_cons_succ]
              refine wpAnyD_takeV (i := 3) (some 67) (.pointer (some ⟨T, 0, none⟩)) [] rfl rfl (by kernel_rfl) (fun _ _ _ h => h) hcl (Or.inl ⟨by rfl, (fun W _ => by rfl)⟩) hS (fun hcl => ?_)
              simp only [Act.put, List.setIfInBounds_toArray, List.set_cons_zero, List.set_cons_succ]
              refine wpAnyD_takeV (i := 4) (some 68) (.pointer (some ⟨T, 0, none⟩)) [] rfl rfl (by kernel_rfl) (fun _ _ _ h => h) hcl (Or.inl ⟨by rfl, (fun W _ => by rfl)⟩) hS (fun hcl => ?_)
              simp only [Act.put, List.setIfInBounds_toArray, List.set_cons_zero, List.set_cons_succ]
              refine wpAnyD_takeV (i := 5) (some 69) V [] rfl rfl (by kernel_rfl) (fun _ _ _ h => h) hcl (Or.inl ⟨by rfl, (by intro W hW; obtain ⟨q0, q1, q2⟩ := hW; go_simp)⟩) hS (fun hcl => ?_)
              simp only [Act.put, List.setIfInBounds_toArray, List.set_cons_zero, List.set_cons_succ]
              refine wpAnyD_takeV (i := 6) (some 70) (.slice uo ln uc) [] rfl rfl (by kernel_rfl) (fun _ _ _ h => h) hcl (Or.inl ⟨by rfl, (fun W _ => by rfl)⟩) hS (fun hcl => ?_)
              simp only [Act.put, List.setIfInBounds_toArray, List.set_cons_zero, List.set_cons_succ]
              refine wpAnyD_takeV (i := 9) (some 73) (.pointer (some ⟨T, 0, none⟩)) [12, 11, 10] rfl rfl (by kernel_rfl) (fun _ _ _ h => h) hcl (Or.inl ⟨by rfl, (fun W _ => by rfl)⟩) hS (fun hcl => ?_)
              simp only [Act.put, List.setIfInBounds_toArray, List.set_cons_zero, List.set_cons_succ]
              refine wpAnyD_takeV (i := 10) (some 74) (.pointer (some ⟨T, 0, none⟩)) [12, 11] rfl rfl (by kernel_rfl) (fun _ _ _ h => h) hcl (Or.inl ⟨by rfl, (fun W _ => by rfl)⟩) hS (fun hcl => ?_)
              simp only [Act.put, List.setIfInBounds_toArray, List.set_cons_zero, List.set_cons_succ]
              refine wpAnyD_takeV (i := 11) (some 75) (.pointer (some ⟨T, 1, none⟩)) [12] rfl rfl (by kernel_rfl) (fun _ _ _ h => h) hcl (Or.inl ⟨by rfl, (fun W _ => by rfl)⟩) hS (fun hcl => ?_)
              simp only [Act.put, List.setIfInBounds_toArray, List.set_cons_zero, List.set_cons_succ]
              refine wpAnyD_takeV (i := 12) (some 76) U [] rfl rfl (by kernel_rfl) (fun _ _ _ h => h) hcl (Or.inl ⟨by rfl, (by intro W hW; obtain ⟨q0, q1, q2⟩ := hW; go_simp)⟩) hS (fun hcl => ?_)
              simp only [Act.put, List.setIfInBounds_toArray, List.set_cons_zero, List.set_cons_succ]
              refine wpAnyD_takeV (i := 13) (some 77) (.map (some M)) [15] rfl rfl (by kernel_rfl) (fun _ _ _ h => h) hcl (Or.inl ⟨by rfl, (fun W _ => by rfl)⟩) hS (fun hcl => ?_)
              simp only [Act.put, List.setIfInBounds_toArray, List.set_cons_zero, List.set_cons_succ]
              refine wpAnyD_takeV (i := 14) (some 78) (.string b.mark) [15] rfl rfl (by kernel_rfl) (fun _ _ _ h => h) hcl (Or.inl ⟨by rfl, (fun W _ => by rfl)⟩) hS (fun hcl => ?_)
              simp only [Act.put, List.setIfInBounds_toArray, List.set_cons_zero, List.set_cons_succ]
              refine wpAnyD_takeV (i := 15) (some 79) (.int .i64 b.size) [] rfl rfl (by kernel_rfl) (fun _ _ _ h => h) hcl (Or.inl ⟨by rfl, (by intro W hW; obtain ⟨q0, q1, q2⟩ := hW; go_simp)⟩) hS (fun hcl => ?_)
              simp only [Act.put, List.setIfInBounds_toArray, List.set_cons_zero, List.set_cons_succ]
              refine wpAnyD_takePV (i := 1) (some 65) (.pointer (some ⟨T, 0, none⟩)) rfl rfl (by kernel_rfl) (fun _ _ _ h => h) hcl (Or.inl ⟨by rfl, fun W _ => by rfl⟩) hS (fun hcl => ?_)
              simp only [Act.put, List.setIfInBounds_toArray, List.set_cons_zero, List.set_cons_succ]
              clear hS
              have HX10 := Lib.hid HX3.out.drew
              have HU10 : Hid (OwnBxs w3.drew (T + 1) (.slice uo ln uc) (legsN q (q.length - 1))) := HU3.out
              refine wpAnyD_ready (rs := [7, 16]) (by kernel_rfl) (by simp) ?_
              refine (AllD.cons (o := _) rfl hcl.out (by kernel_rfl) (fun K' HK => ?_) (AllD.cons (o := _) rfl hcl.out (by kernel_rfl) (fun K' HK => ?_) AllD.nil))
              · skip
                refine step_build _ _ rfl _ (.tmp 70) rfl (some 71) rfl (.slice uo ln uc) _ rfl (run_build_bxs _ _ _ _) ?_
                have HX11 := Lib.hid (HX10.out.alloc (.cells #[.slice uo ln uc] 77))
                have HL1 := Lib.hid (BlkIs.new w3.drew #[.slice uo ln uc] 77)
                have HU1 := Lib.hid (OwnN.alloc HU10.out (.cells #[.slice uo ln uc] 77))
                refine HK.out _ _ (.inr ⟨HX11.out.sp.cell 0, HX11.out.sp.cell 1, hsz _ HX11.out⟩) (fun hcl0 => ?_)
                have hcl := Lib.hid hcl0
                clear hcl0 HK K'
                simp only [Act.put, List.setIfInBounds_toArray, List.set_cons_zero, List.set_cons_succ]
                refine wpAnyD_ready (rs := [8, 16]) (by kernel_rfl) (by simp) ?_
                refine (AllD.cons (o := _) rfl hcl.out (by kernel_rfl) (fun K' HK => ?_) (AllD.cons (o := _) rfl hcl.out (by kernel_rfl) (fun K' HK => ?_) AllD.nil))
                · skip
                  refine step_pushL _ rfl (.tmp 69) (.tmp 71) 64 rfl 77 24 elemBxs (T + 1) rowf V R (.slice uo ln uc) _ rfl HX11.out.rows (HL1.out.cell 0) rfl rfl hRl (by omega) HX11.out.hB (some 72) rfl ?_
                  intro V' y2 hown hg
                  have HX12 := Lib.hid (HX11.out.pushR hown hg (by rw [hRk, HLA.out]; exact HU1.out))
                  clear hown hg
                  refine HK.out _ _ (.inr ⟨HX12.out.sp.cell 0, HX12.out.sp.cell 1, hsz _ HX12.out⟩) (fun hcl0 => ?_)
                  have hcl := Lib.hid hcl0
                  clear hcl0 HK K'
                  simp only [Act.put, List.setIfInBounds_toArray, List.set_cons_zero, List.set_cons_succ]
                  refine wpAnyD_ready (rs := [16]) (by kernel_rfl) (by simp) ?_
                  refine (AllD.cons (o := _) rfl hcl.out (by kernel_rfl) (fun K' HK => ?_) AllD.nil)
                  · skip
                    refine step_build _ _ rfl _ (.tmp 79) rfl (some 80) rfl (.int .i64 b.size) _ rfl (run_build_int _ _) ?_
                    have HX13 := Lib.hid (HX12.out.alloc (.cells #[.int .i64 b.size] 3))
                    have HM3 := Lib.hid (BlkIs.new y2 #[.int .i64 b.size] 3)
                    refine HK.out _ _ (.inr ⟨HX13.out.sp.cell 0, HX13.out.sp.cell 1, hsz _ HX13.out⟩) (fun hcl0 => ?_)
                    have hcl := Lib.hid hcl0
                    clear hcl0 HK K'
                    simp only [Act.put, List.setIfInBounds_toArray, List.set_cons_zero, List.set_cons_succ]
                    refine wpAnyD_ready (rs := [17]) (by kernel_rfl) (by simp) ?_
                    refine (AllD.cons (o := _) rfl hcl.out (by kernel_rfl) (fun K' HK => ?_) AllD.nil)
                    · skip
                      refine step_pushL _ rfl (.tmp 76) (.tmp 80) 65 rfl 3 8 elemInt (T + 1) intv U _ b.size _ rfl HX13.out.siz (HM3.out.cell 0) rfl rfl hZl (by omega) HX13.out.hB (some 81) rfl ?_
                      intro U' y4 hown hg
                      have HX14 := Lib.hid (HX13.out.pushZ hown hg)
                      clear hown hg
                      refine HK.out _ _ (.inr ⟨HX14.out.sp.cell 0, HX14.out.sp.cell 1, hsz _ HX14.out⟩) (fun hcl0 => ?_)
                      have hcl := Lib.hid hcl0
                      clear hcl0 HK K'
                      simp only [Act.put, List.setIfInBounds_toArray, List.set_cons_zero, List.set_cons_succ]
                      refine wpAnyD_drop rfl (by decide) hcl (by kernel_rfl) ?_
                      simp only [List.toList_toArray, List.drop_succ_cons, List.drop_zero]
                      obtain ⟨vo, vc, rfl⟩ := HX14.out.rows.shape
                      obtain ⟨zo, zc, rfl⟩ := HX14.out.siz.shape
                      have hx := HX14.out
                      clear HX14
                      generalize (R ++ [Value.slice uo ln uc]).length = rl at *
                      generalize ((szsOf l rs).take k ++ [b.size]).length = zl at *
                      have HX14 := Lib.hid hx
                      clear hx
                      have x0 := HX14.out.sp.cell 0
                      have x1 := HX14.out.sp.cell 1
                      have xf := HX14.out.sp.free
                      have xz := HX14.out.sp.lt
                      have HXE := Lib.hid HX14.out.store
                      rw [HZT.out] at HXE
                      go_wp2
                      go_roundw
                      case rel => exact ⟨k + 1, _, _, _, by omega, by go_num, by simp [hRk], HXE.out⟩
                      case measure => simp [intOf]; omega
                · skip
                  refine step_build _ _ rfl _ (.tmp 79) rfl (some 80) rfl (.int .i64 b.size) _ rfl (run_build_int _ _) ?_
                  have HX15 := Lib.hid (HX11.out.alloc (.cells #[.int .i64 b.size] 3))
                  have HM5 := Lib.hid (BlkIs.new (w3.drew.alloc (.cells #[.slice uo ln uc] 77)) #[.int .i64 b.size] 3)
                  have HU5 := Lib.hid (OwnN.alloc HU1.out (.cells #[.int .i64 b.size] 3))
                  have HL5 := Lib.hid (HL1.out.alloc (.cells #[.int .i64 b.size] 3))
                  refine HK.out _ _ (.inr ⟨HX15.out.sp.cell 0, HX15.out.sp.cell 1, hsz _ HX15.out⟩) (fun hcl0 => ?_)
                  have hcl := Lib.hid hcl0
                  clear hcl0 HK K'
                  simp only [Act.put, List.setIfInBounds_toArray, List.set_cons_zero, List.set_cons_succ]
                  refine wpAnyD_ready (rs := [8]) (by kernel_rfl) (by simp) ?_
                  refine (AllD.cons (o := _) rfl hcl.out (by kernel_rfl) (fun K' HK => ?_) AllD.nil)
                  · skip
                    refine step_pushL _ rfl (.tmp 69) (.tmp 71) 64 rfl 77 24 elemBxs (T + 1) rowf V R (.slice uo ln uc) _ rfl HX15.out.rows (HL5.out.cell 0) rfl rfl hRl (by omega) HX15.out.hB (some 72) rfl ?_
                    intro V' y6 hown hg
                    have HX16 := Lib.hid (HX15.out.pushR hown hg (by rw [hRk, HLA.out]; exact HU5.out))
                    have HM6 := Lib.hid (BlkIs.only HM5.out hg (fun e => by have := (HX15.out.rows.apart_blk HM5.out (by decide) _ e.symm); exact this rfl))
                    clear hown hg
                    refine HK.out _ _ (.inr ⟨HX16.out.sp.cell 0, HX16.out.sp.cell 1, hsz _ HX16.out⟩) (fun hcl0 => ?_)
                    have hcl := Lib.hid hcl0
                    clear hcl0 HK K'
                    simp only [Act.put, List.setIfInBounds_toArray, List.set_cons_zero, List.set_cons_succ]
                    refine wpAnyD_ready (rs := [17]) (by kernel_rfl) (by simp) ?_
                    refine (AllD.cons (o := _) rfl hcl.out (by kernel_rfl) (fun K' HK => ?_) AllD.nil)
                    · skip
                      refine step_pushL _ rfl (.tmp 76) (.tmp 80) 65 rfl 3 8 elemInt (T + 1) intv U _ b.size _ rfl HX16.out.siz (HM6.out.cell 0) rfl rfl hZl (by omega) HX16.out.hB (some 81) rfl ?_
                      intro U' y7 hown hg
                      have HX17 := Lib.hid (HX16.out.pushZ hown hg)
                      clear hown hg
                      refine HK.out _ _ (.inr ⟨HX17.out.sp.cell 0, HX17.out.sp.cell 1, hsz _ HX17.out⟩) (fun hcl0 => ?_)
                      have hcl := Lib.hid hcl0
                      clear hcl0 HK K'
                      simp only [Act.put, List.setIfInBounds_toArray, List.set_cons_zero, List.set_cons_succ]
                      refine wpAnyD_drop rfl (by decide) hcl (by kernel_rfl) ?_
                      simp only [List.toList_toArray, List.drop_succ_cons, List.drop_zero]
                      obtain ⟨vo, vc, rfl⟩ := HX17.out.rows.shape
                      obtain ⟨zo, zc, rfl⟩ := HX17.out.siz.shape
                      have hx := HX17.out
                      clear HX17
                      generalize (R ++ [Value.slice uo ln uc]).length = rl at *
                      generalize ((szsOf l rs).take k ++ [b.size]).length = zl at *
                      have HX17 := Lib.hid hx
                      clear hx
                      have x0 := HX17.out.sp.cell 0
                      have x1 := HX17.out.sp.cell 1
                      have xf := HX17.out.sp.free
                      have xz := HX17.out.sp.lt
                      have HXE := Lib.hid HX17.out.store
                      rw [HZT.out] at HXE
                      go_wp2
                      go_roundw
                      case rel => exact ⟨k + 1, _, _, _, by omega, by go_num, by simp [hRk], HXE.out⟩
                      case measure => simp [intOf]; omega
              · skip
                refine step_build _ _ rfl _ (.tmp 79) rfl (some 80) rfl (.int .i64 b.size) _ rfl (run_build_int _ _) ?_
                have HX18 := Lib.hid (HX10.out.alloc (.cells #[.int .i64 b.size] 3))
                have HM8 := Lib.hid (BlkIs.new w3.drew #[.int .i64 b.size] 3)
                have HU8 := Lib.hid (OwnN.alloc HU10.out (.cells #[.int .i64 b.size] 3))
                refine HK.out _ _ (.inr ⟨HX18.out.sp.cell 0, HX18.out.sp.cell 1, hsz _ HX18.out⟩) (fun hcl0 => ?_)
                have hcl := Lib.hid hcl0
                clear hcl0 HK K'
                simp only [Act.put, List.setIfInBounds_toArray, List.set_cons_zero, List.set_cons_succ]
                refine wpAnyD_ready (rs := [7]) (by kernel_rfl) (by simp) ?_
                refine (AllD.cons (o := _) rfl hcl.out (by kernel_rfl) (fun K' HK => ?_) AllD.nil)
                · skip
                  refine step_build _ _ rfl _ (.tmp 70) rfl (some 71) rfl (.slice uo ln uc) _ rfl (run_build_bxs _ _ _ _) ?_
                  have HX19 := Lib.hid (HX18.out.alloc (.cells #[.slice uo ln uc] 77))
                  have HL9 := Lib.hid (BlkIs.new (w3.drew.alloc (.cells #[.int .i64 b.size] 3)) #[.slice uo ln uc] 77)
                  have HU9 := Lib.hid (OwnN.alloc HU8.out (.cells #[.slice uo ln uc] 77))
                  have HM9 := Lib.hid (HM8.out.alloc (.cells #[.slice uo ln uc] 77))
                  refine HK.out _ _ (.inr ⟨HX19.out.sp.cell 0, HX19.out.sp.cell 1, hsz _ HX19.out⟩) (fun hcl0 => ?_)
                  have hcl := Lib.hid hcl0
                  clear hcl0 HK K'
                  simp only [Act.put, List.setIfInBounds_toArray, List.set_cons_zero, List.set_cons_succ]
                  refine wpAnyD_ready (rs := [8]) (by kernel_rfl) (by simp) ?_
                  refine (AllD.cons (o := _) rfl hcl.out (by kernel_rfl) (fun K' HK => ?_) AllD.nil)
                  · skip
                    refine step_pushL _ rfl (.tmp 69) (.tmp 71) 64 rfl 77 24 elemBxs (T + 1) rowf V R (.slice uo ln uc) _ rfl HX19.out.rows (HL9.out.cell 0) rfl rfl hRl (by omega) HX19.out.hB (some 72) rfl ?_
                    intro V' y10 hown hg
                    have HX20 := Lib.hid (HX19.out.pushR hown hg (by rw [hRk, HLA.out]; exact HU9.out))
                    have HM10 := Lib.hid (BlkIs.only HM9.out hg (fun e => by have := (HX19.out.rows.apart_blk HM9.out (by decide) _ e.symm); exact this rfl))
                    clear hown hg
                    refine HK.out _ _ (.inr ⟨HX20.out.sp.cell 0, HX20.out.sp.cell 1, hsz _ HX20.out⟩) (fun hcl0 => ?_)
                    have hcl := Lib.hid hcl0
                    clear hcl0 HK K'
                    simp only [Act.put, List.setIfInBounds_toArray, List.set_cons_zero, List.set_cons_succ]
                    refine wpAnyD_ready (rs := [17]) (by kernel_rfl) (by simp) ?_
                    refine (AllD.cons (o := _) rfl hcl.out (by kernel_rfl) (fun K' HK => ?_) AllD.nil)
                    · skip
                      refine step_pushL _ rfl (.tmp 76) (.tmp 80) 65 rfl 3 8 elemInt (T + 1) intv U _ b.size _ rfl HX20.out.siz (HM10.out.cell 0) rfl rfl hZl (by omega) HX20.out.hB (some 81) rfl ?_
                      intro U' y11 hown hg
                      have HX21 := Lib.hid (HX20.out.pushZ hown hg)
                      clear hown hg
                      refine HK.out _ _ (.inr ⟨HX21.out.sp.cell 0, HX21.out.sp.cell 1, hsz _ HX21.out⟩) (fun hcl0 => ?_)
                      have hcl := Lib.hid hcl0
                      clear hcl0 HK K'
                      simp only [Act.put, List.setIfInBounds_toArray, List.set_cons_zero, List.set_cons_succ]
                      refine wpAnyD_drop rfl (by decide) hcl (by kernel_rfl) ?_
                      simp only [List.toList_toArray, List.drop_succ_cons, List.drop_zero]
                      obtain ⟨vo, vc, rfl⟩ := HX21.out.rows.shape
                      obtain ⟨zo, zc, rfl⟩ := HX21.out.siz.shape
                      have hx := HX21.out
                      clear HX21
                      generalize (R ++ [Value.slice uo ln uc]).length = rl at *
                      generalize ((szsOf l rs).take k ++ [b.size]).length = zl at *
                      have HX21 := Lib.hid hx
                      clear hx
                      have x0 := HX21.out.sp.cell 0
                      have x1 := HX21.out.sp.cell 1
                      have xf := HX21.out.sp.free
                      have xz := HX21.out.sp.lt
                      have HXE := Lib.hid HX21.out.store
                      rw [HZT.out] at HXE
                      go_wp2
                      go_roundw
                      case rel => exact ⟨k + 1, _, _, _, by omega, by go_num, by simp [hRk], HXE.out⟩
                      case measure => simp [intOf]; omega
            · rw [HN.out] at hi; omega
          · rw [HN.out] at hi; omega
        · obtain rfl : k = n := by omega
          have HRO : Hid (Spc wr T (lgsOf l rs) (szsOf l rs)) := by
            have h := HX.out
            rw [List.take_of_length_le (by rw [HZL.out]; exact Nat.le_refl _)] at h
            exact h.spc (by rw [hRk, HLL.out])
          have HBZ := Lib.hid HX.out.below
          go_wp2
          go_ret2
          exact ⟨_, rfl, HRO.out, HBZ.out⟩
end
end Go.Proofs.YtpiigmhbbcjamaaGreat
