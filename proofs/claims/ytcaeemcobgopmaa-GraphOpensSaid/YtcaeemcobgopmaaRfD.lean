/-
  Reference 05: Way, Path.
-/
import Derived.Test.YtcaeemcobgopmaaRfC
import Derived.Test.YtcaeemcobgopmaaGrG
namespace Go.Proofs.Ytcaeemcobgopmaa
open Go.RowKit
set_option linter.unusedVariables false

def ULst (ns : List (Nat × Nat)) (U : Nat → Bool) : List Nat := (List.range ns.length).filter U

/-- Where the path stands. -/
structure RWayAt (w : World) (B : Nat) (ns : List (Nat × Nat)) (U : Nat → Bool) (n b a x : Nat) (v : Value) (out : List Nat) (wr : World) : Prop where
  reach : 0 ≤ distOf ns U n b x
  path : out ++ wayTo ns U n b x = wayTo ns U n b a
  len : out.length + (distOf ns U n b x).toNat ≤ n
  own : Own wr B 3 natf v out
  below : Below w.heap.size w wr

def RWayPost (w : World) (ns : List (Nat × Nat)) (U : Nat → Bool) (n a b : Nat) (e : Ending) (w' : World) : Prop :=
  ((0 ≤ distOf ns U n b a ∧ ∃ v, e = .returned (.tuple #[v, .bool true]) ∧ Own w' w.heap.size 3 natf v (wayTo ns U n b a)) ∨ (distOf ns U n b a < 0 ∧ e = .returned (.tuple #[.slice none 0 0, .bool false]))) ∧ Below w.heap.size w w'

theorem wayTo_step {ns : List (Nat × Nat)} {U : Nat → Bool} {n b x i : Nat} (hf : (ULst ns U).find? (fun i => inc ns i x && (distOf ns U n b (oth ns i x) == distOf ns U n b x - 1)) = some i) (hd : 1 ≤ distOf ns U n b x) :
    wayTo ns U n b x = i :: wayTo ns U n b (oth ns i x) := by
  have h1 := List.find?_some hf
  rw [Bool.and_eq_true] at h1
  have hx : distOf ns U n b (oth ns i x) = distOf ns U n b x - 1 := by simpa using h1.2
  unfold wayTo
  obtain ⟨f, hfu⟩ : ∃ f : Nat, (distOf ns U n b x).toNat = f + 1 := ⟨(distOf ns U n b x).toNat - 1, by omega⟩
  have hfo : (distOf ns U n b (oth ns i x)).toNat = f := by omega
  rw [hfu, hfo, wayL]
  have hf' : ((List.range ns.length).filter U).find? (fun i => inc ns i x && (distOf ns U n b (oth ns i x) == distOf ns U n b x - 1)) = some i := hf
  rw [hf']
theorem wayTo_end {ns : List (Nat × Nat)} {U : Nat → Bool} {n b x : Nat} (hd : distOf ns U n b x = 0) : wayTo ns U n b x = [] := by
  unfold wayTo; rw [hd]; rfl

theorem ULst_mem {ns : List (Nat × Nat)} {U : Nat → Bool} {i : Nat} : i ∈ ULst ns U ↔ i < ns.length ∧ U i = true := by
  unfold ULst; rw [List.mem_filter, List.mem_range]
theorem ULst_len (ns : List (Nat × Nat)) (U : Nat → Bool) : (ULst ns U).length ≤ ns.length := by
  unfold ULst
  refine Nat.le_trans (List.length_filter_le _ _) ?_
  simp

set_option maxRecDepth 100000 in
set_option maxHeartbeats 4000000 in
theorem rway_any (n a b : Nat) (v vl : Value) (ns : List (Nat × Nat)) (U : Nat → Bool) (w : World) (hg : Gr w n v ns) (hl : Nats w vl (ULst ns U)) (ha : a < n) (hb : b < n) :
    Calls Try.prog 44 #[.int .i64 (n : Int), v, vl, .int .i64 (a : Int), .int .i64 (b : Int)] w (RWayPost w ns U n a b) := by
  have hn := hg.n_le
  have hm := hg.m_le
  have HG := Lib.hid hg
  clear hg
  obtain ⟨l, hld⟩ : ∃ l, ULst ns U = l := ⟨_, rfl⟩
  have hll : l.length ≤ 4000 := by rw [← hld]; have := ULst_len ns U; omega
  have hlm : ∀ i, i ∈ l ↔ i < ns.length ∧ U i = true := fun i => by rw [← hld]; exact ULst_mem
  have hFAR := far_any n b v vl ns l w HG.out (by rw [← hld]; exact hl) hll (fun i hi => ((hlm i).1 hi).1) hb
  rw [hld] at hl
  have HFAR : Hid (Calls Try.prog 59 #[.int .i64 (n : Int), v, vl, .int .i64 (b : Int)] w fun e w' => ∃ u, e = .returned u ∧ Own w' w.heap.size 3 intf u (farOf ns l n b) ∧ Below w.heap.size w w') := hFAR
  have HD : Hid (IsDist ns U b (distOf ns U n b)) := farOf_dist hb HG.out.ends
  have HDL : Hid (∀ v, distOf ns U n b v ≤ (n : Int) - 1) := distOf_le hb HG.out.ends
  have HO : Hid (distOf ns U n b = ofList (farOf ns l n b)) := by
    show distOf ns U n b = ofList (farOf ns l n b)
    rw [← hld]; rfl
  have HLM := Lib.hid hlm
  have HLD := Lib.hid hld
  have HAL : Hid ((farOf ns l n b).length = n) := farTo_len ns l n b n
  clear hld hlm hFAR
  obtain ⟨ao, cap, rfl, _⟩ := HG.out.pairs.open_
  obtain ⟨lo, lcap, rfl, hlc⟩ := hl
  have HLC := Lib.hid hlc
  clear hlc
  obtain ⟨A, hA⟩ : ∃ A, farOf ns l n b = A := ⟨_, rfl⟩
  rw [hA] at HFAR HO HAL
  clear hA
  obtain ⟨x, hx⟩ : ∃ x, A[a]? = some x := ⟨_, List.getElem?_eq_getElem (by rw [HAL.out]; exact ha)⟩
  have HX : Hid (distOf ns U n b a = x) := by
    show distOf ns U n b a = x
    rw [HO.out]; exact ofList_get hx
  go_enter Try.func44, Try.ntmps44
  go_wp2_with fail
  refine HFAR.out.mono ?_
  rintro e w1 ⟨u, rfl, hu, hb1⟩
  have HBS := Lib.hid hb1.size
  obtain ⟨g, ucap, rfl, hgl, _⟩ := hu.form (by rw [HAL.out]; omega)
  rw [HAL.out] at hu
  rw [HAL.out]
  have c1 := hu.cell hx
  have HU := Lib.hid hu
  unfold intf at c1
  have a0 : (0 : Int) ≤ (a : Int) := Int.natCast_nonneg _
  have a1 : (a : Int) < (n : Int) := by omega
  clear hx hu
  by_cases hx0 : x < 0
  · go_wp2
    go_ret2
    exact ⟨.inr ⟨by rw [HX.out]; exact hx0, rfl⟩, hb1⟩
  · have hx1 : 0 ≤ x := by omega
    clear hx0
    have hp0 : RWayAt w w1.heap.size ns U n b a a (.slice none 0 0) [] w1 := ⟨by rw [HX.out]; exact hx1, rfl, by simp; have := HDL.out a; omega, Own.nil _ _ _ _, hb1⟩
    have HP0 := Lib.hid hp0
    clear hp0
    go_wp2
    clear c1
    go_loopg [13, 14, 15, 16] (distOf ns U n b a).toNat (fun gk s13 s14 s15 s16 wr => ∃ (y : Nat) (out : List Nat), s14 = .int .i64 y ∧ y < n ∧ Hid (RWayAt w w1.heap.size ns U n b a y s13 out wr ∧ Below w1.heap.size w1 wr ∧ (distOf ns U n b y).toNat ≤ gk))
    case atStart => exact ⟨a, [], rfl, ha, HP0.out, Below.refl _ _, Nat.le_refl _⟩
    case round =>
      clear HP0
      obtain ⟨y, out, rfl, hy, H⟩ := hrel
      by_cases hyb : y = b
      · subst hyb
        have hb0 := bne_no (show (y : Int) = (y : Int) from rfl)
        go_wp2
        go_ret2
        have e1 := H.out.1.path
        rw [wayTo_end HD.out.zero, List.append_nil] at e1
        exact ⟨.inl ⟨by rw [HX.out]; exact hx1, _, rfl, by rw [← e1]; exact H.out.1.own.mono HBS.out⟩, H.out.1.below⟩
      · have hb0 := bne_yes (show (y : Int) ≠ (b : Int) by omega)
        have hge : 1 ≤ distOf ns U n b y ∧ ∃ i, U i = true ∧ inc ns i y = true ∧ distOf ns U n b (oth ns i y) = distOf ns U n b y - 1 := by
          have h1 := H.out.1.reach
          rcases HD.out.from_ y with h2 | ⟨h2, _⟩ | h2
          · omega
          · exact absurd h2 hyb
          · exact h2
        have HGE := Lib.hid hge
        have HYB := Lib.hid hyb
        clear hge hyb
        obtain ⟨D, hD⟩ : ∃ D, distOf ns U n b = D := ⟨_, rfl⟩
        have hw9 : w1.heap.size ≤ wr.heap.size := H.out.2.1.size
        go_wp2_with fail
        go_loopw [13, 14, 15, 16] (fun s13 s14 s15 s16 wr2 => ∃ (j : Nat), s15 = .int .i64 (j : Int) ∧ j ≤ l.length + 1 ∧
            ((j ≤ l.length ∧ s14 = .int .i64 (y : Int) ∧ Hid (RWayAt w w1.heap.size ns U n b a y s13 out wr2 ∧ Below w1.heap.size w1 wr2 ∧ ∀ (k : Nat) i, k < j → l[k]? = some i → (inc ns i y && (distOf ns U n b (oth ns i y) == distOf ns U n b y - 1)) = false)) ∨
             (j = l.length + 1 ∧ ∃ (y' : Nat) (out' : List Nat), s14 = .int .i64 (y' : Int) ∧ y' < n ∧ Hid (RWayAt w w1.heap.size ns U n b a y' s13 out' wr2 ∧ Below w1.heap.size w1 wr2 ∧ distOf ns U n b y' = distOf ns U n b y - 1)))) (fun _ _ s15 _ _ => l.length + 1 - (intOf s15).toNat)
        case atStart => exact ⟨0, rfl, by omega, .inl ⟨Nat.zero_le _, rfl, H.out.1, H.out.2.1, fun k i hk => by omega⟩⟩
        case round =>
          obtain ⟨j, rfl, hj, hor⟩ := hrel
          rcases hor with ⟨hjl, rfl, H2⟩ | ⟨rfl, y', out', rfl, hy', H2⟩
          · by_cases hlt : j < l.length
            · obtain ⟨i, hi⟩ : ∃ i, l[j]? = some i := ⟨_, List.getElem?_eq_getElem hlt⟩
              have hil := (HLM.out i).1 (List.mem_of_getElem? hi)
              have hUi := hil.2
              obtain ⟨lb, loff, rfl, hlb, hlcc⟩ := HLC.out (by omega)
              have hci := (H2.out.1.below.cell (p := ⟨lb, loff + j, none⟩) hlb).trans (hlcc j i hi)
              obtain ⟨⟨p, q⟩, hpq⟩ : ∃ e, ns[i]? = some e := ⟨_, List.getElem?_eq_getElem hil.1⟩
              obtain ⟨eb, eoff, rfl, hebl, d1, d2⟩ := (HG.out.pairs.below H2.out.1.below).edge hpq
              have hends := HG.out.ends i _ hpq
              simp only at d1 d2 hends
              have HI := Lib.hid hi
              have HPQ := Lib.hid hpq
              have HUI := Lib.hid hUi
              have i0 : (0 : Int) ≤ (i : Int) := Int.natCast_nonneg _
              have i1 : (i : Int) < (ns.length : Int) := by omega
              have j0 : (0 : Int) ≤ (j : Int) := Int.natCast_nonneg _
              have j1 : (j : Int) < (l.length : Int) := by omega
              unfold natf at hci
              clear hi hlcc hil hpq hUi
              go_wp2_with fail
              refine (rother_any p q y _).mono ?_
              rintro e w9 ⟨rfl, hb9⟩
              have hB19 := bstep H2.out.2.1 hb9
              have HP9 : Hid (RWayAt w w1.heap.size ns U n b a y u13 out w9) := ⟨H2.out.1.reach, H2.out.1.path, H2.out.1.len, H2.out.1.own.below hb9, bstep H2.out.1.below hb9⟩
              have HJ2 := Lib.hid H2.out.2.2
              have HU9 := Lib.hid (HU.out.below hB19)
              have hci9 := hb9.cell (p := ⟨lb, loff + j, none⟩) (by have := H2.out.1.below.size; simp; omega)
              rw [hci] at hci9
              clear d1 d2 hci hb9 H2
              cases hinc : inc ns i y
              · have hro := rothI_not HPQ.out hinc
                have HN : Hid ((inc ns i y && (distOf ns U n b (oth ns i y) == distOf ns U n b y - 1)) = false) := by
                  show _ = _
                  rw [hinc]; rfl
                simp only at hro
                rw [hro]
                clear hro hinc
                go_wp2
                go_quiet (fail)
                go_wp2
                go_roundw
                case rel => exact ⟨j + 1, by go_num, by omega, .inl ⟨by omega, rfl, ⟨HP9.out.reach, HP9.out.path, HP9.out.len, HP9.out.own.drawN _, below_drewN' HP9.out.below _⟩, below_drewN' hB19 _, fun k i' hk hi' => by
                  by_cases e : k = j
                  · subst e; rw [HI.out] at hi'; cases hi'; exact HN.out
                  · exact HJ2.out k i' (by omega) hi'⟩⟩
                case measure => simp [intOf]; omega
              · have hro := rothI_inc HPQ.out hinc
                simp only at hro
                rw [hro]
                have hkl := oth_lt HG.out.ends hinc
                obtain ⟨k, hk⟩ : ∃ k, oth ns i y = k := ⟨_, rfl⟩
                rw [hk] at hkl ⊢
                obtain ⟨zk, hzk⟩ : ∃ z, A[k]? = some z := ⟨_, List.getElem?_eq_getElem (by rw [HAL.out]; exact hkl)⟩
                obtain ⟨zy, hzy⟩ : ∃ z, A[y]? = some z := ⟨_, List.getElem?_eq_getElem (by rw [HAL.out]; exact hy)⟩
                have ck := HU9.out.cell hzk
                have cy := HU9.out.cell hzy
                have EK := Lib.hid (show distOf ns U n b k = zk by rw [HO.out]; exact ofList_get hzk)
                have EY := Lib.hid (show distOf ns U n b y = zy by rw [HO.out]; exact ofList_get hzy)
                have by1 := HGE.out.1
                have by2 := HDL.out y
                rw [EY.out] at by1 by2
                have bzy : 1 ≤ zy ∧ zy ≤ 1000 := by omega
                have HK := Lib.hid hk
                have HINC := Lib.hid hinc
                unfold intf at ck cy
                have k0 : (0 : Int) ≤ (k : Int) := Int.natCast_nonneg _
                have k1 : (k : Int) < (n : Int) := by omega
                have y0 : (0 : Int) ≤ (y : Int) := Int.natCast_nonneg _
                have y1 : (y : Int) < (n : Int) := by omega
                have hk0 : decide ((k : Int) < 0) = false := dec_no (by omega)
                have hk00 : decide ((0 : Int) ≤ (k : Int)) = true := dec_yes (by omega)
                have hw1 : IntKind.i64.wrap (zy - 1) = zy - 1 := IntWalk.i64_in _ (by omega)
                clear hzk hzy hk hro hinc by1 by2
                by_cases hz : zk = zy - 1
                · have hzb := beq_yes hz
                  have HZ := Lib.hid hz
                  clear hz
                  go_wp2
                  go_quiet (fail)
                  clear hw1
                  have HF := Lib.hid (find_first (p := fun i => inc ns i y && (distOf ns U n b (oth ns i y) == distOf ns U n b y - 1)) HI.out (by rw [HINC.out, HK.out, EK.out, EY.out]; simpa using HZ.out) HJ2.out)
                  have HST := Lib.hid (wayTo_step (by rw [HLD.out]; exact HF.out) HGE.out.1)
                  have hlen1 : out.length + 1 ≤ 1099511627776 := by have := HP9.out.len; omega
                  generalize hW : World.drewN w9 _ = W2
                  have HP2 : Hid (RWayAt w w1.heap.size ns U n b a y u13 out W2) := by rw [← hW]; exact ⟨HP9.out.reach, HP9.out.path, HP9.out.len, HP9.out.own.drawN _, below_drewN' HP9.out.below _⟩
                  have hB2 : Below w1.heap.size w1 W2 := by rw [← hW]; exact below_drewN' hB19 _
                  have hci2 : W2.cell? ⟨lb, loff + j, none⟩ = some (.int .i64 (i : Int)) := by rw [← hW]; exact hci9
                  clear hW hci9 ck cy
                  have hbase := hB2.size
                  go_wp2_with (at_builtin; refine wpList_push W2 rfl _ _ 25 rfl 3 8 elemInt w1.heap.size natf _ out i rfl HP2.out.own rfl rfl hlen1 (by omega) hbase ?_; intro v' w' hown' hg' hat')
                  go_roundw
                  case rel =>
                    have h2 := EK.out
                    have h3 := EY.out
                    have h4 := HZ.out
                    refine ⟨l.length + 1, by go_num, by omega, .inr ⟨rfl, k, out ++ [i], rfl, hkl, ⟨by omega, ?_, ?_, hown', below_grown HP2.out.below hg' HP2.out.below.size (fun g0 e => Nat.le_trans HBS.out (HP2.out.own.lt g0 e).1)⟩, ?_, by omega⟩⟩
                    · rw [← HP2.out.path, HST.out, HK.out]; simp
                    · have := HP2.out.len; simp only [List.length_append, List.length_singleton]; omega
                    · exact below_grown hB2 hg' hB2.size (fun g0 e => (HP2.out.own.lt g0 e).1)
                  case measure => simp [intOf]; omega
                · have hzb := beq_no hz
                  have HZ := Lib.hid hz
                  clear hz
                  go_wp2
                  go_quiet (fail)
                  clear hw1
                  go_wp2
                  go_roundw
                  case rel => exact ⟨j + 1, by go_num, by omega, .inl ⟨by omega, rfl, ⟨HP9.out.reach, HP9.out.path, HP9.out.len, HP9.out.own.drawN _, below_drewN' HP9.out.below _⟩, below_drewN' hB19 _, fun k' i' hk' hi' => by
                    by_cases e : k' = j
                    · subst e; rw [HI.out] at hi'; cases hi'; rw [HINC.out, HK.out, EK.out, EY.out]
                      simpa using HZ.out
                    · exact HJ2.out k' i' (by omega) hi'⟩⟩
                  case measure => simp [intOf]; omega
            · exfalso
              obtain ⟨i, h1, h2, h3⟩ := HGE.out.2
              have hm := (HLM.out i).2 ⟨inc_lt h2, h1⟩
              obtain ⟨k', hk', rfl⟩ := List.getElem_of_mem hm
              have := H2.out.2.2 k' _ (by omega) (List.getElem?_eq_getElem hk')
              rw [h2, h3] at this
              simp at this
          · go_wp2
            go_roundg (distOf ns U n b y').toNat
            case measure =>
              have h1 := H.out.2.2
              have h2 := H2.out.2.2
              have h3 := HGE.out.1
              omega
            case rel => exact ⟨y', out', rfl, hy', H2.out.1, H2.out.2.1, Nat.le_refl _⟩

theorem rpathNo_any (n a b : Int) (v : Value) (l : List (Int × Int)) (w : World) (hp : Pairs w v l) (hl : l.length ≤ 140737488355328) (hv : vld n l = false) :
    Calls Try.prog 13 #[.int .i64 n, v, .int .i64 a, .int .i64 b] w fun e w' => e = .returned (.tuple #[.slice none 0 0, .int .i64 1]) ∧ Below w.heap.size w w' := by
  have HV := Lib.hid hv
  clear hv
  go_enter Try.func13, Try.ntmps13
  go_wp2_with (first
    | (go_at_call 15; refine (rvalid_any n _ l _ hp hl).mono ?_; rw [HV.out]; rintro e w9 ⟨rfl, hb1⟩))
  go_ret2
  exact ⟨rfl, hb1⟩

theorem rpathRange_any (n a b : Int) (v : Value) (l : List (Int × Int)) (w : World) (hp : Pairs w v l) (hl : l.length ≤ 140737488355328) (hv : vld n l = true) (hr : a < 0 ∨ n ≤ a ∨ b < 0 ∨ n ≤ b) :
    Calls Try.prog 13 #[.int .i64 n, v, .int .i64 a, .int .i64 b] w fun e w' => e = .returned (.tuple #[.slice none 0 0, .int .i64 2]) ∧ Below w.heap.size w w' := by
  have HV := Lib.hid hv
  have HR := Lib.hid hr
  clear hv hr
  go_enter Try.func13, Try.ntmps13
  go_wp2_with (first
    | (go_at_call 15; refine (rvalid_any n _ l _ hp hl).mono ?_; rw [HV.out]; rintro e w9 ⟨rfl, hb1⟩))
  all_goals first
    | (go_ret2; exact ⟨rfl, hb1⟩)
    | (exfalso; have := HR.out; omega)

theorem rpath_ok (n a b : Nat) (v : Value) (ns : List (Nat × Nat)) (w : World) (hg : Gr w n v ns) (ha : a < n) (hb : b < n) :
    Calls Try.prog 13 #[.int .i64 (n : Int), v, .int .i64 (a : Int), .int .i64 (b : Int)] w fun e w' =>
      ((0 ≤ distOf ns (fun _ => true) n b a ∧ ∃ u, e = .returned (.tuple #[u, .int .i64 0]) ∧ Own w' w.heap.size 3 natf u (wayTo ns (fun _ => true) n b a)) ∨
       (distOf ns (fun _ => true) n b a < 0 ∧ e = .returned (.tuple #[.slice none 0 0, .int .i64 12]))) ∧ Below w.heap.size w w' := by
  have hcl : (cst ns).length ≤ 140737488355328 := by rw [cst_len]; have := hg.m_le; omega
  have HO := Lib.hid hg.ok
  have hn := hg.n_le
  have hm := hg.m_le
  have HG := Lib.hid hg
  have hp := hg.pairs
  have HUL : Hid (ULst ns (fun _ => true) = List.range ns.length) := by
    show ULst ns (fun _ => true) = List.range ns.length
    unfold ULst; simp
  go_enter Try.func13, Try.ntmps13
  go_wp2_with fail
  refine (rvalid_any n _ (cst ns) _ hp hcl).mono ?_
  rw [HO.out]
  rintro e w1 ⟨rfl, hb1⟩
  go_wp2_with fail
  refine (all_any v ns w1 (hp.below hb1) hm).mono ?_
  rintro e w2 ⟨L, rfl, hL, hb2⟩
  have hB2 := bstep hb1 hb2
  go_wp2_with fail
  refine (rway_any n a b v L ns (fun _ => true) w2 (HG.out.below hB2) (by rw [HUL.out]; exact hL.sl) ha hb).mono ?_
  rintro e w3 ⟨hor, hb3⟩
  have hB3 := bstep hB2 hb3
  have hz := hB2.size
  rcases hor with ⟨h0, u, rfl, hu⟩ | ⟨h0, rfl⟩
  · obtain ⟨ao, cp, rfl⟩ := hu.shape
    have H0 := Lib.hid h0
    have HU := Lib.hid hu
    clear h0 hu
    go_wp2
    go_ret2
    exact ⟨.inl ⟨H0.out, _, rfl, HU.out.mono hz⟩, hB3⟩
  · have H0 := Lib.hid h0
    clear h0
    go_wp2
    go_ret2
    exact ⟨.inr ⟨H0.out, rfl⟩, hB3⟩
end Go.Proofs.Ytcaeemcobgopmaa
