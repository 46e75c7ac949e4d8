/-
  The walk of SequenceEither (printed by wip/gen_Sqz.py).
-/
import Derived.Test.YthmlejijfgbfbaaGreatSqa
namespace Go.Proofs.YthmlejijfgbfbaaGreat
section
open Go.RowKit
set_option linter.unusedVariables false
set_option linter.unusedSimpArgs false
attribute [local go_sem ↓] Go.wp_at_zero Go.wp_at_succ

theorem own_cap {α : Type} {w : World} {base : Nat} {e : TypeId} {f : α → Value} {ao : Option Addr} {n cap : Nat} {l : List α} (h : Own w base e f (.slice ao n cap) l) : l.length ≤ cap := by
  rcases h.2 with ⟨h1, h2⟩ | ⟨g, cp, cur, h1, _, _, h2, _⟩
  · cases h1; omega
  · cases h1; exact h2
theorem nat_back (D : List Nat) : (D.map fun k : Nat => (k : Int)).map Int.toNat = D := by
  rw [List.map_map]
  conv => rhs; rw [← List.map_id D]
  apply List.map_congr_left
  intro x _
  simp [Function.comp]
theorem ord_chk {n : Nat} {es : List (Nat × Nat)} {D : List Nat} (he : EndsD n es) (h : orderOf n es = some D) : chkRes n es (D.map fun k : Nat => (k : Int)) = (true, 0) := by
  obtain ⟨hl, hO⟩ := ordTo_ok n D h
  have hb : (D.map fun k : Nat => (k : Int)).any (badN n) = false := by
    rw [List.any_eq_false]
    intro x hx
    obtain ⟨k, hk, rfl⟩ := List.mem_map.1 hx
    have := hO.lt k hk
    unfold badN
    rw [decide_eq_true_eq]
    omega
  unfold chkRes
  rw [if_neg (by rw [List.length_map, hl]; simp), if_neg (by rw [hb]; simp), nat_back]
  unfold chkN
  rw [if_pos hO.nodup]
  congr 1
  rw [List.all_eq_true]
  intro e hm
  rw [decide_eq_true_eq]
  exact (hO.pre e hm (nodup_full hO.nodup hO.lt hl (he.mem hm).2)).2
theorem chk_nocyc {n : Nat} {es : List (Nat × Nat)} {q : List Int} (h : chkRes n es q = (true, 0)) : ¬ hasCyc es := by
  have hn : nodesRes n q = 0 := by rw [← chk_nodes n es q, h]
  rw [chk_good hn] at h
  obtain ⟨l1, l2, l3⟩ := nodes_zero hn
  unfold chkN at h
  rw [if_pos ((nodup_nat l2).2 l3)] at h
  have hall : ∀ e ∈ es, (q.map Int.toNat).idxOf e.1 < (q.map Int.toNat).idxOf e.2 := by
    have h1 : (es.all fun e => decide ((q.map Int.toNat).idxOf e.1 < (q.map Int.toNat).idxOf e.2)) = true := (Prod.mk.inj h).1
    simpa using h1
  have hr : ∀ x y, Rch es x y → (q.map Int.toNat).idxOf x ≤ (q.map Int.toNat).idxOf y := by
    intro x y h
    induction h with
    | refl => exact Nat.le_refl _
    | step _ h2 ih =>
      have := hall _ h2
      simp only at this
      omega
  rintro ⟨x, y, h1, h2⟩
  have a := hall _ h1
  have b := hr _ _ h2
  simp only at a
  omega
theorem either_ok {n : Nat} {es : List (Nat × Nat)} {D : List Nat} (he : EndsD n es) (h : orderOf n es = some D) : loopOf n es = none := by
  cases hl : loopOf n es with
  | none => rfl
  | some L => exact absurd (loop_cyc (loop_some he (all_far n es) n (Nat.le_refl _) L hl)) (order_some he h)
theorem either_no {n : Nat} {es : List (Nat × Nat)} (he : EndsD n es) (h : orderOf n es = none) : ∃ L, loopOf n es = some L ∧ IsLoop n es L ∧ ∀ q, chkRes n es q ≠ (true, 0) := by
  have hc := order_none he h
  cases hl : loopOf n es with
  | none => exact absurd hc (loop_none he (all_far n es) hl)
  | some L => exact ⟨L, rfl, loop_some he (all_far n es) n (Nat.le_refl _) L hl, fun q hq => chk_nocyc hq hc⟩
/-- The place behind a place of a loop. -/
theorem loop_next {n : Nat} {es : List (Nat × Nat)} {L : List Nat} (h : IsLoop n es L) {i x : Nat} (hi : L[i]? = some x) : ∃ (a : Nat) (y : Nat), ((i : Int) + 1).tmod (L.length : Int) = (a : Int) ∧ ((i : Int) + 1) % (L.length : Int) = (a : Int) ∧ a < L.length ∧ L[a]? = some y ∧ (x, y) ∈ es := by
  have hil := (List.getElem?_eq_some_iff.1 hi).1
  have e2 : ((i : Int) + 1) % (L.length : Int) = (((i + 1) % L.length : Nat) : Int) := by rw [Int.natCast_emod]; simp
  have e1 : ((i : Int) + 1).tmod (L.length : Int) = (((i + 1) % L.length : Nat) : Int) := by rw [Int.tmod_eq_emod_of_nonneg (by omega), e2]
  have ha : (i + 1) % L.length < L.length := Nat.mod_lt _ (by omega)
  refine ⟨(i + 1) % L.length, L[(i + 1) % L.length]'ha, e1, e2, ha, List.getElem?_eq_getElem ha, ?_⟩
  by_cases hc : i + 1 < L.length
  · have hm : (i + 1) % L.length = i + 1 := Nat.mod_eq_of_lt hc
    exact h.edge i x _ hi (by rw [List.getElem?_eq_getElem hc]; congr 1; congr 1; exact hm.symm)
  · have hie : i + 1 = L.length := by omega
    have hm : (i + 1) % L.length = 0 := by rw [hie, Nat.mod_self]
    exact h.back _ x (by rw [List.getElem?_eq_getElem h.pos]; congr 1; congr 1; exact hm.symm) (by rw [show L.length - 1 = i by omega]; exact hi)
theorem nd_take {L : List Nat} (h : L.Nodup) {i x : Nat} (hi : L[i]? = some x) : x ∉ L.take i := by
  intro hm
  obtain ⟨j, hj, hj2⟩ := List.mem_take_iff_getElem.1 hm
  have hil := (List.getElem?_eq_some_iff.1 hi).1
  have e := (List.getElem?_eq_some_iff.1 hi).2
  have : j = i := by
    have h1 := List.Nodup.idxOf_getElem h j (by omega)
    have h2 := List.Nodup.idxOf_getElem h i hil
    rw [hj2] at h1
    rw [e] at h2
    omega
  omega
theorem Sl.ints' {w : World} {v : Value} {D : List Nat} (h : Sl w natf v D) : Ints w v (D.map fun k : Nat => (k : Int)) := Sl.map_ h (fun k : Nat => (k : Int)) (fun _ => rfl)
theorem part_nat {w : World} {B : Nat} {e : TypeId} {ao : Option Addr} {cap : Nat} {L : List Nat} (h : Own w B e natf (.slice ao L.length cap) L) (m : Nat) (hm : m ≤ L.length) :
    ∃ po pc, (∀ W, (Instr.slice 24 (.slice ao L.length cap) none (some (.int .i64 (m : Int))) none).run Tryz.prog W = .ok (.slice po m pc) W) ∧ Ints w (.slice po m pc) ((L.take m).map fun k : Nat => (k : Int)) := by
  have e1 : (L.map fun k : Nat => (k : Int)).length = L.length := by rw [List.length_map]
  have h2 : Ints w (.slice ao (L.map fun k : Nat => (k : Int)).length cap) (L.map fun k : Nat => (k : Int)) := by rw [e1]; exact h.sl.ints'
  obtain ⟨po, pc, h3, h4⟩ := part_of h2 (by rw [e1]; exact own_cap h) m (by rw [e1]; exact hm)
  rw [e1] at h3
  exact ⟨po, pc, h3, by rw [List.map_take]; exact h4⟩
/-- Two laid bars of the graph, asked of package block. -/
theorem sblk_any (v vr : Value) (X : List Int) (i k : Nat) (l : List BarD) (rs : List RunD) (w : World) (hA : SqA w v vr l rs) (hc : sqC l rs X = 0) (hi : i < (lgsOf l rs).length) (hk : k < (lgsOf l rs).length) (hne : i ≠ k) :
    Calls Tryz.prog 30 #[v, vr, .int .i64 (i : Int), .int .i64 (k : Int), .int .i64 (X.getD i 0)] w fun e w' => e = .returned (.tuple #[.bool (decide ((i, k) ∈ sqEs l rs X)), .int .i64 0]) ∧ Below w.heap.size w w' := by
  obtain ⟨hok, he⟩ := sqC_zero hc
  obtain ⟨h1, h2, h3⟩ := edgE_zero he
  have hp : pairE (lgsOf l rs).length (i : Int) (k : Int) (X.getD i 0) = 0 := pairE_ok (by omega) (h3 i hi) (by omega)
  have := blocksI_good v vr (i : Int) (k : Int) (X.getD i 0) l rs w hA.hp hA.hr hA.hl hA.hlr hA.hf hok
  rw [hp] at this
  have hb : blkR (lgsOf l rs) (szsOf l rs) (i : Int) (k : Int) (X.getD i 0) = decide ((i, k) ∈ sqEs l rs X) := by
    unfold blkR
    rw [dec_yes hp, Bool.true_and]
    exact blk_mem hi hk hne
  rw [hb] at this
  exact this
set_option maxRecDepth 100000 in
set_option maxHeartbeats 8000000 in
theorem sequenceEither_walk (w : World) (v : Value) (l : List BarD) (hp : Bars w v l) (hf : FitB l) (hl : l.length * 64 ≤ 140737488351232) (vr : Value) (rs : List RunD) (hr : Runs w vr rs) (hm : ∀ r ∈ rs, r.mark.size ≤ maxLen) (hlr : rs.length * 88 ≤ 140737488351232)
    (xv : Value) (X : List Int) (hx : Ints w xv X) (hlx : X.length * 8 ≤ 140737488351232) (wx : ∀ x ∈ X, (Lit.int .i64 x).wf = true)
    (qv : Value) (q : List Int) (hq : Ints w qv q) (hlq : q.length * 8 ≤ 140737488351232) (wq : ∀ x ∈ q, (Lit.int .i64 x).wf = true) (hcp : Caps qv) :
    Calls Tryz.prog 5 #[v, vr, xv, qv] w fun en w' => en = .returned (.bool true) ∧ Below w.heap.size w w' := by
  have hl2 : l.length ≤ 140737488355328 := by omega
  have hlr2 : rs.length ≤ 140737488355328 := by omega
  have HP := Lib.hid hp
  have HR := Lib.hid hr
  have HFI := Lib.hid hf
  have HX := Lib.hid hx
  obtain ⟨xo, xc, rfl⟩ := Sl.at_ hx
  have HQ := Lib.hid hq
  obtain ⟨qo, qc, rfl⟩ := Sl.at_ hq
  have HRD := Lib.hid (fun W (hW : Below w.heap.size w W) => sready_any v vr (.slice xo X.length xc) X l rs W (hp.below hW) (hr.below hW) hl2 hlr2 hf (HX.out.below hW) (by omega))
  clear hp hr hf hl hlr hm wx hx hq wq hcp
  go_enter Tryz.func5, Tryz.ntmps5
  go_wp2_with fail
  refine (sawake_any _).mono ?_
  rintro en w1 ⟨rfl, hb1⟩
  have HW1 := Lib.hid hb1
  clear hb1
  go_wp2_with fail
  refine (HRD.out _ HW1.out).mono ?_
  rintro en w2 ⟨b, rfl, hb2, hq2⟩
  have HW2 := Lib.hid (bstep HW1.out hb2)
  have HQ2 := Lib.hid hq2
  clear hb2 hq2 HW1 HRD
  cases b
  · go_wp2
    go_ret
    exact ⟨rfl, HW2.out⟩
  · by_cases h71 : 70 < q.length
    · have d3 : decide ((70 : Int) < (q.length : Int)) = true := dec_yes (by omega)
      have d4 : decide (70 < q.length) = true := dec_yes h71
      go_wp2
      go_ret
      exact ⟨rfl, HW2.out⟩
    · have d3 : decide ((70 : Int) < (q.length : Int)) = false := dec_no (by omega)
      have d4 : decide (70 < q.length) = false := dec_no h71
      obtain ⟨hA1, hX70, hc0⟩ := HQ2.out (by simp)
      have HA : Hid (SqA w v vr l rs) := ⟨HP.out, HR.out, hl2, hlr2, HFI.out, hA1.h14⟩
      have hx5 : X.length ≤ 140737488355328 := by omega
      have hq5 : q.length ≤ 140737488355328 := by omega
      have G1 := Lib.hid (fun W (hW : Below w.heap.size w W) => sorder_any v vr (.slice xo X.length xc) X l rs W (HA.out.below hW) (HX.out.below hW) hx5)
      have G2 := Lib.hid (fun W (hW : Below w.heap.size w W) => sloop_any v vr (.slice xo X.length xc) X l rs W (HA.out.below hW) (HX.out.below hW) hx5)
      have G3 := Lib.hid (fun W (hW : Below w.heap.size w W) => scheck_any v vr (.slice xo X.length xc) (.slice qo q.length qc) X q l rs W (HA.out.below hW) (HX.out.below hW) hx5 (HQ.out.below hW) hq5)
      have G4 := Lib.hid (fun ov Q W (hW : Below w.heap.size w W) (ho : Ints W ov Q) (hlo : Q.length ≤ 140737488355328) => scheck_any v vr (.slice xo X.length xc) ov X Q l rs W (HA.out.below hW) (HX.out.below hW) hx5 ho hlo)
      have HBL := Lib.hid (fun (i k : Nat) W (hW : Below w.heap.size w W) hi hk hne => sblk_any v vr X i k l rs W (HA.out.below hW) hc0 hi hk hne)
      obtain ⟨hok, he⟩ := sqC_zero hc0
      have h14 := hA1.h14 hok
      have HXL := Lib.hid (edgE_zero he).2.1
      have HEN := Lib.hid (edN_ends (lgsOf l rs) (szsOf l rs) X (lgsOf l rs).length)
      have HSF : Hid (∀ x, (x, x) ∉ edN (lgsOf l rs) (szsOf l rs) X (lgsOf l rs).length) := fun x => edN_self
      rw [hc0] at G1 G2 G3 G4
      unfold LPost sqOrd at G1
      unfold LPost sqLop at G2
      rw [if_pos rfl] at G1 G2
      unfold sqChk at G3 G4
      simp only [if_pos] at G3 G4
      unfold sqEs at *
      generalize edN (lgsOf l rs) (szsOf l rs) X (lgsOf l rs).length = es at *
      generalize (lgsOf l rs).length = n at *
      clear HQ2 hA1 hc0 hok he
      cases ho : orderOf n es with
      | some D =>
        have hno := either_ok HEN.out ho
        have hdc := ord_chk HEN.out ho
        obtain ⟨hDl, hO⟩ := ordTo_ok n D ho
        rw [ho] at G1
        rw [hno] at G2
        have G5 := Lib.hid (fun ov W (hW : Below w.heap.size w W) (ho : Ints W ov (D.map fun k : Nat => (k : Int))) => G4.out ov (D.map fun k : Nat => (k : Int)) W hW ho (by rw [List.length_map]; omega))
        rw [hdc] at G5
        simp only at G1 G2
        obtain ⟨sa, sc, hS⟩ : ∃ sa sc, chkRes n es q = (sa, sc) := ⟨_, _, rfl⟩
        rw [hS] at G3
        clear hno hdc hO G4 hS ho HBL HXL HEN HSF hDl
        go_wp2_with fail
        refine (G1.out _ HW2.out).mono ?_
        rintro en w3 ⟨o1, rfl, ho, hb⟩
        have HW3 := Lib.hid (bstep HW2.out hb)
        have HD1 := Lib.hid ho
        obtain ⟨oa, ob, rfl⟩ := ho.shape
        clear hb ho HW2 G1
        go_wp2_with fail
        refine (G2.out _ HW3.out).mono ?_
        rintro en w4 ⟨o2, rfl, ho, hb⟩
        have HW4 := Lib.hid (bstep HW3.out hb)
        have HD2 := Lib.hid (HD1.out.below hb)
        have HL2 := Lib.hid ho
        obtain ⟨la, lb, rfl⟩ := ho.shape
        clear hb ho HW3 G2 HD1
        go_wp2_with fail
        refine (G3.out _ HW4.out).mono ?_
        rintro en w5 ⟨rfl, hb⟩
        have HW5 := Lib.hid (bstep HW4.out hb)
        have HD3 := Lib.hid (HD2.out.below hb)
        have HL3 := Lib.hid (HL2.out.below hb)
        clear hb HW4 G3 HD2 HL2
        have HCK := Lib.hid (G5.out _ w5 HW5.out (HD3.out.sl.ints'))
        go_wp2_with fail
        refine HCK.out.mono ?_
        rintro en w6 ⟨rfl, hb⟩
        have HW6 := Lib.hid (bstep HW5.out hb)
        clear hb
        go_wp2
        go_ret
        exact ⟨rfl, HW6.out⟩
      | none =>
        obtain ⟨LD, hlo, hil, hnc⟩ := either_no HEN.out ho
        rw [ho] at G1
        rw [hlo] at G2
        simp only at G1 G2
        have HIL := Lib.hid hil
        have hlp := hil.pos
        have hln := nodup_len_le n LD hil.nodup hil.lt
        obtain ⟨sa, sc, hS⟩ : ∃ sa sc, chkRes n es q = (sa, sc) := ⟨_, _, rfl⟩
        have hnc2 := hnc q
        rw [hS] at G3 hnc2
        have z1 : ((LD.length : Int) == 0) = false := beq_no (by omega)
        clear hlo hil hnc hS ho G4 HEN
        go_wp2_with fail
        refine (G1.out _ HW2.out).mono ?_
        rintro en w3 ⟨o1, rfl, ho, hb⟩
        have HW3 := Lib.hid (bstep HW2.out hb)
        have HD1 := Lib.hid ho
        obtain ⟨oa, ob, rfl⟩ := ho.shape
        clear hb ho HW2 G1
        go_wp2_with fail
        refine (G2.out _ HW3.out).mono ?_
        rintro en w4 ⟨o2, rfl, ho, hb⟩
        have HW4 := Lib.hid (bstep HW3.out hb)
        have HD2 := Lib.hid (HD1.out.below hb)
        have HL2 := Lib.hid ho
        obtain ⟨la, lb, rfl⟩ := ho.shape
        clear hb ho HW3 G2 HD1
        go_wp2_with fail
        refine (G3.out _ HW4.out).mono ?_
        rintro en w5 ⟨rfl, hb⟩
        have HW5 := Lib.hid (bstep HW4.out hb)
        have HD3 := Lib.hid (HD2.out.below hb)
        have HL3 := Lib.hid (HL2.out.below hb)
        clear hb HW4 G3 HD2 HL2
        clear HD3
        by_cases hsc : sc = 0
        · subst hsc
          have hsa : sa = false := by
            cases sa with
            | false => rfl
            | true => exact absurd rfl hnc2
          subst hsa
          clear hnc2
          go_wp2_with fail
          go_loopw [100] (fun i wr => ∃ k : Nat, k ≤ LD.length ∧ i = .int .i64 (k : Int) ∧ Below w5.heap.size w5 wr) (fun i _ => LD.length - (intOf i).toNat)
          case atStart => exact ⟨0, Nat.zero_le _, rfl, Below.refl _ _⟩
          case round =>
            obtain ⟨i, hi, rfl, hBr⟩ := hrel
            have HB := Lib.hid hBr
            clear hBr
            by_cases hi2 : i < LD.length
            · obtain ⟨x, hxi⟩ : ∃ x, LD[i]? = some x := ⟨_, List.getElem?_eq_getElem hi2⟩
              obtain ⟨a, y, t1, t2, ha, hya, hxy⟩ := loop_next HIL.out hxi
              have hxn := HIL.out.lt x (List.mem_of_getElem? hxi)
              have hyn := HIL.out.lt y (List.mem_of_getElem? hya)
              have hxne : x ≠ y := fun e => by subst e; exact HSF.out x hxy
              have HLr := Lib.hid (HL3.out.below HB.out)
              obtain ⟨lb0, loff, rfl, hlb0, g0⟩ := nats_get HLr.out.sl hxi
              obtain ⟨lb0', loff', he', hlb0', g1⟩ := nats_get HLr.out.sl hya
              cases he'
              obtain ⟨po, pc, hsl, hpt⟩ := part_nat HLr.out i (by omega)
              have HCN := Lib.hid (contains_any (.slice po i pc) _ (x : Int) wr hpt (by rw [List.length_map, List.length_take]; omega))
              have hnc : decide ((x : Int) ∈ (LD.take i).map fun k : Nat => (k : Int)) = false := dec_no (fun hm => nd_take HIL.out.nodup hxi (by rw [List.mem_map] at hm; obtain ⟨z, hz, e⟩ := hm; have e3 : z = x := (by omega); rw [← e3]; exact hz))
              rw [hnc] at HCN
              obtain ⟨xb, xoff, rfl, hxb, g2⟩ := zints_get (HX.out.below (bstep HW5.out HB.out)) (show X[x]? = some (X.getD x 0) by rw [List.getD_eq_getElem?_getD, List.getElem?_eq_getElem (by have := HXL.out; omega)]; rfl)
              have HBK := Lib.hid (fun W (hW : Below w.heap.size w W) => HBL.out x y W hW hxn hyn hxne)
              rw [dec_yes hxy] at HBK
              have k1 : IntKind.i64.wrap ((i : Int) + 1) = (i : Int) + 1 := IntWalk.i64_in _ (by omega)
              have k2 : IntKind.i64.wrap (a : Int) = (a : Int) := IntWalk.i64_in _ (by omega)
              have k3 : ¬ LD.length = 0 := by omega
              have k4 : ((LD.length : Int) == 0) = false := beq_no (by omega)
              have x1 : decide ((x : Int) < 0) = false := dec_no (by omega)
              have x2 : decide ((X.length : Int) ≤ (x : Int)) = false := dec_no (by have := HXL.out; omega)
              have x3 : decide (X.length ≤ x) = false := dec_no (by have := HXL.out; omega)
              have y1 : decide ((y : Int) < 0) = false := dec_no (by omega)
              have y2 : decide ((X.length : Int) ≤ (y : Int)) = false := dec_no (by have := HXL.out; omega)
              have y3 : decide (X.length ≤ y) = false := dec_no (by have := HXL.out; omega)
              have x4 : x < X.length := by have := HXL.out; omega
              have HG0 := Lib.hid (And.intro g0 (And.intro g1 g2))
              clear hxi hya hxy hxne hpt hnc
              generalize X.getD x 0 = ax at *
              go_wp2_with fail
              refine HCN.out.mono ?_
              rintro en w6 ⟨rfl, rfl⟩
              go_wp2_with fail
              refine (HBK.out _ (bstep HW5.out HB.out)).mono ?_
              rintro en w7 ⟨rfl, hb7⟩
              have HB7 := Lib.hid (bstep HB.out hb7)
              clear hb7 g0 g1 g2
              go_wp2
              go_roundw
              case rel => exact ⟨i + 1, by omega, by go_num, HB7.out⟩
              case measure => simp [intOf]; omega
            · obtain rfl : i = LD.length := by omega
              go_wp2
              go_ret
              exact ⟨rfl, bstep HW5.out HB.out⟩
        · have z2 : (sc == 0) = false := beq_no hsc
          clear hnc2 hsc
          go_wp2_with fail
          go_loopw [100] (fun i wr => ∃ k : Nat, k ≤ LD.length ∧ i = .int .i64 (k : Int) ∧ Below w5.heap.size w5 wr) (fun i _ => LD.length - (intOf i).toNat)
          case atStart => exact ⟨0, Nat.zero_le _, rfl, Below.refl _ _⟩
          case round =>
            obtain ⟨i, hi, rfl, hBr⟩ := hrel
            have HB := Lib.hid hBr
            clear hBr
            by_cases hi2 : i < LD.length
            · obtain ⟨x, hxi⟩ : ∃ x, LD[i]? = some x := ⟨_, List.getElem?_eq_getElem hi2⟩
              obtain ⟨a, y, t1, t2, ha, hya, hxy⟩ := loop_next HIL.out hxi
              have hxn := HIL.out.lt x (List.mem_of_getElem? hxi)
              have hyn := HIL.out.lt y (List.mem_of_getElem? hya)
              have hxne : x ≠ y := fun e => by subst e; exact HSF.out x hxy
              have HLr := Lib.hid (HL3.out.below HB.out)
              obtain ⟨lb0, loff, rfl, hlb0, g0⟩ := nats_get HLr.out.sl hxi
              obtain ⟨lb0', loff', he', hlb0', g1⟩ := nats_get HLr.out.sl hya
              cases he'
              obtain ⟨po, pc, hsl, hpt⟩ := part_nat HLr.out i (by omega)
              have HCN := Lib.hid (contains_any (.slice po i pc) _ (x : Int) wr hpt (by rw [List.length_map, List.length_take]; omega))
              have hnc : decide ((x : Int) ∈ (LD.take i).map fun k : Nat => (k : Int)) = false := dec_no (fun hm => nd_take HIL.out.nodup hxi (by rw [List.mem_map] at hm; obtain ⟨z, hz, e⟩ := hm; have e3 : z = x := (by omega); rw [← e3]; exact hz))
              rw [hnc] at HCN
              obtain ⟨xb, xoff, rfl, hxb, g2⟩ := zints_get (HX.out.below (bstep HW5.out HB.out)) (show X[x]? = some (X.getD x 0) by rw [List.getD_eq_getElem?_getD, List.getElem?_eq_getElem (by have := HXL.out; omega)]; rfl)
              have HBK := Lib.hid (fun W (hW : Below w.heap.size w W) => HBL.out x y W hW hxn hyn hxne)
              rw [dec_yes hxy] at HBK
              have k1 : IntKind.i64.wrap ((i : Int) + 1) = (i : Int) + 1 := IntWalk.i64_in _ (by omega)
              have k2 : IntKind.i64.wrap (a : Int) = (a : Int) := IntWalk.i64_in _ (by omega)
              have k3 : ¬ LD.length = 0 := by omega
              have k4 : ((LD.length : Int) == 0) = false := beq_no (by omega)
              have x1 : decide ((x : Int) < 0) = false := dec_no (by omega)
              have x2 : decide ((X.length : Int) ≤ (x : Int)) = false := dec_no (by have := HXL.out; omega)
              have x3 : decide (X.length ≤ x) = false := dec_no (by have := HXL.out; omega)
              have y1 : decide ((y : Int) < 0) = false := dec_no (by omega)
              have y2 : decide ((X.length : Int) ≤ (y : Int)) = false := dec_no (by have := HXL.out; omega)
              have y3 : decide (X.length ≤ y) = false := dec_no (by have := HXL.out; omega)
              have x4 : x < X.length := by have := HXL.out; omega
              have HG0 := Lib.hid (And.intro g0 (And.intro g1 g2))
              clear hxi hya hxy hxne hpt hnc
              generalize X.getD x 0 = ax at *
              go_wp2_with fail
              refine HCN.out.mono ?_
              rintro en w6 ⟨rfl, rfl⟩
              go_wp2_with fail
              refine (HBK.out _ (bstep HW5.out HB.out)).mono ?_
              rintro en w7 ⟨rfl, hb7⟩
              have HB7 := Lib.hid (bstep HB.out hb7)
              clear hb7 g0 g1 g2
              go_wp2
              go_roundw
              case rel => exact ⟨i + 1, by omega, by go_num, HB7.out⟩
              case measure => simp [intOf]; omega
            · obtain rfl : i = LD.length := by omega
              go_wp2
              go_ret
              exact ⟨rfl, bstep HW5.out HB.out⟩
end
end Go.Proofs.YthmlejijfgbfbaaGreat
