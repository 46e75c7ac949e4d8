/-
  Directed graphs: Longest, the answers to what it refuses.
-/
import Derived.Test.YthhhcaleoiopgaaRnS
import Derived.Test.YthhhcaleoiopgaaLgB
import Derived.StillTailTactics
namespace Go.Proofs.Ythhhcaleoiopgaa
open Go.RowKit Go.Shelf
set_option linter.unusedVariables false
attribute [local go_sem ↓] Go.wp_at_zero Go.wp_at_succ
attribute [local go_sem] Oper.semAt_some

set_option maxRecDepth 100000 in
set_option maxHeartbeats 1000000 in
theorem longest_bad (n : Int) (v : Value) (wo : Option Addr) (wl wc : Nat) (l : List (Int × Int)) (w : World) (hp : Pairs w v l) (hl : l.length ≤ 140737488355328) (h : vldD n l = false) :
    Calls Try.prog 12 #[.int .i64 n, v, .slice wo wl wc] w fun e w' => e = .returned (.tuple #[.int .i64 0, .slice none 0 0, .int .i64 1]) ∧ Below w.heap.size w w' := by
  have hb0 := below_new w (.cells #[.slice wo wl wc] 23)
  have HV := Lib.hid (dvalid_any n v l _ (hp.below hb0) hl)
  rw [h] at HV
  clear hp h
  refine calls_of_wp_marks Try.func12 rfl ?_
  simp only [Try.ntmps12, List.size_toArray, List.length_cons, List.length_nil, Nat.reduceAdd, Nat.reduceSub, Array.replicate_succ, Array.replicate_zero, List.push_toArray, List.append_toArray, List.nil_append, List.cons_append]
  go_wp2_with fail
  refine HV.out.mono ?_
  rintro e w1 ⟨rfl, hb⟩
  go_wp2
  refine marks_ret3 rfl rfl ?_
  exact ⟨rfl, bstep hb0 hb⟩

def LongSets (w : World) (n : Nat) (v : Value) (es : List (Nat × Nat)) (vw : Value) (ws : List Int) : Prop := Dg w n v es ∧ Ints w vw ws ∧ ws.length = n ∧ ∀ x ∈ ws, 0 ≤ x ∧ x ≤ 1073741824

set_option maxHeartbeats 400000 in
theorem lgFn_any (x : Int) (w : World) : Calls Try.prog 42 #[.int .i64 x] w fun e w' => e = .returned (.bool (decide (x < 0 ∨ 1073741824 < x))) ∧ Below w.heap.size w w' := by
  by_cases h1 : x < 0
  · have e := dec_yes (p := (x < 0 ∨ 1073741824 < x)) (.inl h1)
    go_enter Try.func42, Try.ntmps42
    go_wp2
    go_ret
    exact ⟨by first | exact ret_bool e.symm | rfl, Below.refl _ _⟩
  · by_cases h2 : 1073741824 < x
    · have e := dec_yes (p := (x < 0 ∨ 1073741824 < x)) (.inr h2)
      go_enter Try.func42, Try.ntmps42
      go_wp2
      go_ret
      exact ⟨by first | exact ret_bool e.symm | rfl, Below.refl _ _⟩
    · have e := dec_no (p := (x < 0 ∨ 1073741824 < x)) (by omega)
      go_enter Try.func42, Try.ntmps42
      go_wp2
      go_ret
      exact ⟨by first | exact ret_bool e.symm | rfl, Below.refl _ _⟩

set_option maxRecDepth 100000 in
set_option maxHeartbeats 4000000 in
theorem longest_main (n : Nat) (v vw : Value) (es : List (Nat × Nat)) (ws : List Int) (D : List Nat) (w : World) (hL : LongSets w n v es vw ws) (hn : 0 < n) (hD : orderOf n es = some D) :
    Calls Try.prog 12 #[.int .i64 (n : Int), v, vw] w (LongPost w n es ws D) := by
  obtain ⟨hg, hw, hwl, hwb⟩ := hL
  obtain ⟨eao, ecap, rfl, _⟩ := hg.pairs.open_
  obtain ⟨wo, wcap, rfl, hwi⟩ := hw
  have hn60 := hg.n_le
  have hb0 := below_new w (.cells #[.slice wo n wcap] 23)
  rw [hwl]
  have HG := Lib.hid hg
  have HWB := Lib.hid hwb
  have HV := Lib.hid (dvalid_any (n : Int) _ (cst es) _ (hg.pairs.below hb0) (by rw [cst_len]; have := hg.m_le; omega))
  rw [hg.ok] at HV
  have HWI : Hid (Ints w (.slice wo n wcap) ws) := ⟨_, _, by rw [hwl], hwi⟩
  have HD := Lib.hid hD
  have HWL := Lib.hid hwl
  clear hg hwi hwb hD hwl
  refine calls_of_wp_marks Try.func12 rfl ?_
  simp only [Try.ntmps12, List.size_toArray, List.length_cons, List.length_nil, Nat.reduceAdd, Nat.reduceSub, Array.replicate_succ, Array.replicate_zero, List.push_toArray, List.append_toArray, List.nil_append, List.cons_append]
  go_wp2_with fail
  refine HV.out.mono ?_
  rintro e w1 ⟨rfl, hb1⟩
  have hB1 := bstep hb0 hb1
  have c5 : w1.cell? ⟨w.heap.size, 0, none⟩ = some (.slice wo n wcap) := (hb1.cell (p := ⟨w.heap.size, 0, none⟩) (by simp)).trans (by rw [World.cell?_alloc_at _ _ _ _ rfl]; rfl)
  have HC1 : Hid (Calls Try.prog 37 #[.slice wo n wcap, .func (.func 42) #[] #[]] w1 fun e w' => e = .returned (.bool false) ∧ Below w1.heap.size w1 w') := by
    have h1 : ws.any (fun x => decide (x < 0 ∨ 1073741824 < x)) = false := List.any_eq_false.2 fun x hx => by
      have := HWB.out x hx
      simp; omega
    rw [← h1]
    exact anyInts_any _ _ _ _ ws w1 (HWI.out.below hB1) (by have := HWL.out; omega) ⟨fun xs W => by rfl, fun x W _ _ => lgFn_any x W⟩
  clear HV
  go_wp2_with fail
  refine HC1.out.mono ?_
  rintro e w2 ⟨rfl, hb2⟩
  have hB2 := bstep hB1 hb2
  have d5 := (hb2.cell (p := ⟨w.heap.size, 0, none⟩) (by have := hb1.size; simp at this; simp; omega)).trans c5
  have HO := Lib.hid (order_any n _ es w2 (HG.out.below hB2))
  clear HC1 c5
  go_wp2_with fail
  refine HO.out.mono ?_
  rintro e w3 ⟨h3, hb3⟩
  rw [HD.out] at h3
  obtain ⟨u, rfl, hu⟩ := h3
  have hDl := (ordTo_ok n D HD.out).1
  obtain ⟨GD, capD, rfl, gd1, gd2, gd3⟩ := hu.form (by omega)
  rw [hDl]
  have hB3 := bstep hB2 hb3
  have d6 := (hb3.cell (p := ⟨w.heap.size, 0, none⟩) (by have := hb1.size; have := hb2.size; simp at *; omega)).trans d5
  have HN := Lib.hid (nexts_any n _ es w3 (HG.out.below hB3))
  have HU := Lib.hid hu
  have hn0 := beq_no (show (n : Int) ≠ 0 by omega)
  have hmk := fun W => run_make_one (P := Try.prog) 23 3 8 (.int .i64 0) Try.underlying23 (by kernel_rfl) (by omega) n (by omega) W
  clear HO d5 hu
  go_wp2_with fail
  refine HN.out.mono ?_
  rintro e w4 ⟨⟨V, rfl, hM⟩, hb4⟩
  obtain ⟨ao, cap, rfl⟩ := hM.rows.at
  rw [nxS_len] at hM ⊢
  have hB4 := bstep hB3 hb4
  have d7 := (hb4.cell (p := ⟨w.heap.size, 0, none⟩) (by have := hb1.size; have := hb2.size; have := hb3.size; simp at *; omega)).trans d6
  have HM := Lib.hid hM
  clear HN d6 hM
  obtain ⟨X, hX⟩ : ∃ X, w4.heap.size = X := ⟨_, rfl⟩
  obtain ⟨W5, hW5⟩ : ∃ W5, ((w4.alloc (.cells #[.slice ao n cap] 48)).alloc (.cells (madeCells #[Value.int .i64 0] n) 3)).alloc (.cells #[.slice (some ⟨X + 1, 0, none⟩) n n] 23) = W5 := ⟨_, rfl⟩
  have hb5 : Below w4.heap.size w4 W5 := by rw [← hW5]; exact ((below_new _ _).alloc (by simp) _).alloc (by simp; omega) _
  have hs5 : W5.heap.size = X + 3 := by rw [← hW5, ← hX]; simp
  have hF0 : Own W5 (X + 1) 3 intf (.slice (some ⟨X + 1, 0, none⟩) n n) (List.replicate n 0) := by
    rw [← hW5]
    have h1 := own_made (w4.alloc (.cells #[.slice ao n cap] 48)) 3 intf 0 (.int .i64 0) rfl n (by omega) (X + 1) (by rw [← hX]; simp)
    have e1 : (w4.alloc (.cells #[.slice ao n cap] 48)).heap.size = X + 1 := by rw [← hX]; simp
    rw [e1] at h1
    exact h1.alloc _
  have q1 : W5.cell? ⟨X, 0, none⟩ = some (.slice ao n cap) := by
    rw [← hW5, ← hX]
    rw [World.cell?_alloc_lt _ _ _ (by simp; omega), World.cell?_alloc_lt _ _ _ (by simp), World.cell?_alloc_at _ _ _ _ rfl]; rfl
  have q2 : W5.cell? ⟨X + 2, 0, none⟩ = some (.slice (some ⟨X + 1, 0, none⟩) n n) := by
    rw [← hW5]
    rw [World.cell?_alloc_at _ _ _ _ (by simp [hX])]; rfl
  have HQ := Lib.hid (And.intro hb5 (And.intro hs5 (And.intro hF0 (And.intro q1 q2))))
  have HBK := Lib.hid (callsIn_wide.1 (bw_in Fence.wide 5 trivial rfl (some ⟨GD, 0, none⟩) n capD W5))
  clear hb5 hs5 hF0 q1 q2
  go_wp2_with fail
  refine HBK.out.mono ?_
  rintro e W6 ⟨rfl, hW6⟩
  clear HBK
  obtain ⟨hb5, hs5, hF0, q1, q2⟩ := HQ.out
  have hs6 : W6.heap.size = X + 4 := by rw [hW6]; simp [hs5]
  have hb56 : Below W5.heap.size W5 W6 := by rw [hW6]; exact below_new _ _
  have hb36 : Below w3.heap.size w3 W6 := bstep (bstep hb4 (by rw [← hX] at *; exact hb5)) hb56
  have hUD := HU.out.below hb36
  have hgdl := (HU.out.lt GD rfl).2
  have hs3 := hb4.size
  obtain ⟨g, hg⟩ : ∃ g : Nat → Fin n, ∀ j, j < n → (g j).1 = j := ⟨fun j => if h : j < n then ⟨j, h⟩ else ⟨0, hn⟩, fun j hj => by simp [hj]⟩
  obtain ⟨nd, hnd⟩ : ∃ nd : Fin n → Nat, ∀ j, D[j.1]? = some (nd j) := ⟨fun j => D.getD j.1 0, fun j => by show D[j.1]? = some (D.getD j.1 0); rw [List.getD_eq_getElem?_getD, List.getElem?_eq_getElem (by have := j.2; omega)]; rfl⟩
  have hzs : ∀ j, j < n → (D.map fun k : Nat => (k : Int))[j]?.getD 0 = (nd (g j) : Int) := fun j hj => by
    rw [List.getElem?_map]
    have := hnd (g j)
    rw [hg j hj] at this
    rw [this]; rfl
  have hndn : ∀ j, nd j < n := fun j => (ordTo_ok n D HD.out).2.lt _ (List.mem_of_getElem? (hnd j))
  have hst := bw_stops (fun j : Fin n => #[.int .i64 (j.1 : Int), .int .i64 (nd j : Int)]) g Fence.wide 4 trivial rfl (by decide) (X + 3) GD 0 n capD (D.map fun k : Nat => (k : Int)) (by omega) W6 (by omega) (by omega) (fun j hj => by rw [hg j hj, hzs j hj]) (by
      rw [hW6]
      rw [World.cell?_alloc_at _ _ _ _ (by rw [hs5])]; rfl) (fun j hj => by
      rw [hzs j hj, Nat.zero_add]
      have := hnd (g j)
      rw [hg j hj] at this
      exact hUD.cell this)
  have hI0 : LI W6 (X + 1) n (bestTo n es ws []) W6 := ⟨⟨rfl, rfl, rfl, Nat.le_refl _, fun _ _ _ => rfl⟩, hF0.below hb56⟩
  have HH := Lib.hid (And.intro hg (And.intro hnd hndn))
  go_wp2_with fail
  rw [← hW6]
  refine (wpIn_wide (n := 5)).1 ?_
  refine wpIn_rangeFunc_ownG (F := Fence.wide) (n := 5) rfl (by decide) (gf := 63) (lb := #[.pointer (some ⟨X + 3, 0, none⟩)]) (by rw [← hs5]; rfl) trivial (enters_of Try.func63 (by kernel_rfl) rfl)
    hst (fun h k => h.t k) (fun W l o o' hl _ _ _ => Kp2.b_ (N := W6.heap.size) (by omega) (by omega) W l o o' hl) (Below.refl _ _) (fun _ => rfl)
    (fun pre W => LI W6 (X + 1) n (bestTo n es ws (pre.map nd)) W) (fun _ _ _ => False)
    (LI.own_from _ (by omega)) (fun _ _ _ _ _ hs _ _ => hs) hI0 ?a1 ?assign ?body ?done ?stop
  case assign =>
    intro l x W K hK
    gi_wp2
    exact hK
  case stop =>
    rintro D c pre W _ _ h _
    exact h.elim
  case body =>
    rintro l pre x W hI hpl
    have hnn := hndn x
    obtain ⟨i, hi⟩ : ∃ i, nd x = i := ⟨_, rfl⟩
    rw [hi] at hnn
    have hmem : ∀ (Y : World) A, LI W6 (X + 1) n A Y → ∀ p : Addr, p.block < W6.heap.size → p.block ≠ X + 1 → Y.cell? p = W6.cell? p := fun Y A h p h1 h2 => h.base.cell_far p h1 (by simpa using h2)
    obtain ⟨rb, roff, hrx, hrlt, ro, rc, c0, hnr⟩ := rows_get HM.out.rows (nxS_get es hnn)
    cases hrx
    have hb46 : Below w4.heap.size w4 W6 := bstep hb5 hb56
    rw [hX] at hrlt hb46
    have f1 := (hmem W _ hI ⟨X, 0, none⟩ (by simp [hs6]) (by simp)).trans ((hb56.cell (p := ⟨X, 0, none⟩) (by simp [hs5])).trans q1)
    have f2 := (hmem W _ hI ⟨X + 1 + 1, 0, none⟩ (by simp [hs6]) (by simp)).trans ((hb56.cell (p := ⟨X + 2, 0, none⟩) (by simp [hs5])).trans q2)
    have f3 := (hmem W _ hI ⟨rb, roff + i, none⟩ (by simp [hs6]; omega) (by simp; omega)).trans ((hb46.cell (p := ⟨rb, roff + i, none⟩) hrlt).trans c0)
    have i0 : (0 : Int) ≤ (i : Int) := Int.natCast_nonneg _
    have i1 : (i : Int) < (n : Int) := by omega
    rw [hi]
    have HNR := Lib.hid hnr
    have hwg : ∀ k, 0 ≤ ws.getD k 0 ∧ ws.getD k 0 ≤ 1073741824 := fun k => by
      rw [List.getD_eq_getElem?_getD]
      cases hk : ws[k]? with
      | none => simp
      | some y => exact HWB.out y (List.mem_of_getElem? hk)
    obtain ⟨A, hA⟩ : ∃ A, bestTo n es ws (pre.map nd) = A := ⟨_, rfl⟩
    have hbA := bestTo_bd (n := n) (es := es) hwg (pre.map nd)
    have hAl := bestTo_len n es ws (pre.map nd)
    rw [hA] at hI hbA hAl
    rw [List.length_map] at hbA
    have hbA' : ∀ k, 0 ≤ A.getD k 0 ∧ A.getD k 0 ≤ 64424509440 := fun k => by have := hbA k; omega
    have HAB := Lib.hid hbA'
    have HGO : Hid (bestTo n es ws ((pre ++ [x]).map nd) = (relaxAll i A (nextsS n es i)).set i ((relaxAll i A (nextsS n es i)).getD i 0 + ws.getD i 0)) := by
      show _ = _
      rw [List.map_append, List.map_cons, List.map_nil, bestTo_snoc, hA, hi]; rfl
    have HI := Lib.hid hI
    have HMEM := Lib.hid hmem
    clear hnr hbA hbA' hA hI hmem
    gi_wp2
    clear f1 f2 f3
    gi_loopw [16, 58] (fun _ s58 wr => ∃ t : Nat, t ≤ (nextsS n es i).length ∧ s58 = .int .i64 (t : Int) ∧ Hid (W.grownBy wr (some (X + 1)) ∧ LI W6 (X + 1) n (relaxAll i A ((nextsS n es i).take t)) wr)) (fun _ s58 _ => (nextsS n es i).length - (intOf s58).toNat)
    case atStart => exact ⟨0, Nat.zero_le _, rfl, only_refl _ _, HI.out⟩
    case round =>
      obtain ⟨t, ht, rfl, HT⟩ := hrel
      have g2 := (HMEM.out wr _ HT.out.2 ⟨X + 1 + 1, 0, none⟩ (by simp [hs6]) (by simp)).trans ((hb56.cell (p := ⟨X + 2, 0, none⟩) (by simp [hs5])).trans q2)
      by_cases htl : t < (nextsS n es i).length
      · obtain ⟨k, hk⟩ : ∃ k, (nextsS n es i)[t]? = some k := ⟨_, List.getElem?_eq_getElem htl⟩
        have hkn : k < n := (nextsS_mem.1 (List.mem_of_getElem? hk)).1
        obtain ⟨b3, off3, rfl, hb3, hc3⟩ := nats_get HNR.out hk
        rw [hX] at hb3
        have g3 := (HMEM.out wr _ HT.out.2 ⟨b3, off3 + t, none⟩ (by simp [hs6]; omega) (by simp; omega)).trans ((hb46.cell (p := ⟨b3, off3 + t, none⟩) hb3).trans hc3)
        obtain ⟨B, hBe⟩ : ∃ B, relaxAll i A ((nextsS n es i).take t) = B := ⟨_, rfl⟩
        have hBl : B.length = n := by rw [← hBe, relaxAll_len, hAl]
        have HST := Lib.hid (show relaxAll i A ((nextsS n es i).take (t + 1)) = B.set i (max (B.getD i 0) (B.getD k 0)) by
          rw [List.take_succ_eq_append_getElem htl, (List.getElem?_eq_some_iff.1 hk).2, relaxAll_snoc, hBe]; rfl)
        rw [hBe] at HT
        obtain ⟨zi, hzi⟩ : ∃ z, B[i]? = some z := ⟨_, List.getElem?_eq_getElem (by omega)⟩
        obtain ⟨zk, hzk⟩ : ∃ z, B[k]? = some z := ⟨_, List.getElem?_eq_getElem (by omega)⟩
        have e1 := HT.out.2.own.cell hzi
        have e2 := HT.out.2.own.cell hzk
        have e3 := HT.out.2.own.free i
        unfold intf at e1 e2
        have HZ := Lib.hid (show max (B.getD i 0) (B.getD k 0) = max zi zk by rw [List.getD_eq_getElem?_getD, List.getD_eq_getElem?_getD, hzi, hzk]; rfl)
        have k0 : (0 : Int) ≤ (k : Int) := Int.natCast_nonneg _
        have k1 : (k : Int) < (n : Int) := by omega
        have HTL := Lib.hid htl
        have hrl := nextsS_len n es i
        clear hk hc3 hBe hzi hzk
        have hmix : Try.prog.follows .mixedOrders = true := by kernel_rfl
        gi_wp2
        refine region_store_round' rfl hmix rfl rfl (by kernel_rfl) (by kernel_rfl) ?_
        simp only [List.dropLast]
        repeat (gi_big_quiet_step (fail))
        refine wpQuietIn_nil ?_
        rintro w' ⟨nq, rfl⟩
        refine ⟨fun _ _ => trivial, ?_⟩
        go_simp
        gi_wp2
        go_roundw
        case rel => exact ⟨t + 1, HTL.out, by have := HTL.out; go_num, by rw [HST.out, HZ.out]; exact ⟨only_trans (only_draw HT.out.1 nq) (only_set _ _ _ _), (HT.out.2.draw nq).set i (max zi zk)⟩⟩
        case measure => have := HTL.out; simp [intOf]; omega
      · obtain rfl : t = (nextsS n es i).length := by omega
        rw [List.take_length] at HT
        obtain ⟨B, hBe⟩ : ∃ B, relaxAll i A (nextsS n es i) = B := ⟨_, rfl⟩
        have hBl : B.length = n := by rw [← hBe, relaxAll_len, hAl]
        rw [hBe] at HT HGO
        have hbB := relaxAll_bd (c := 64424509440) (by omega) HAB.out i (nextsS n es i) i
        rw [hBe] at hbB
        obtain ⟨zi, hzi⟩ : ∃ z, B[i]? = some z := ⟨_, List.getElem?_eq_getElem (by omega)⟩
        obtain ⟨y, hy⟩ : ∃ y, ws[i]? = some y := ⟨_, List.getElem?_eq_getElem (by have := HWL.out; omega)⟩
        have hby := HWB.out y (List.mem_of_getElem? hy)
        have e1 := HT.out.2.own.cell hzi
        have e3 := HT.out.2.own.free i
        unfold intf at e1
        rw [List.getD_eq_getElem?_getD, hzi, Option.getD_some] at hbB
        have HG2 := Lib.hid (show bestTo n es ws ((pre ++ [x]).map nd) = B.set i (zi + y) by rw [HGO.out, List.getD_eq_getElem?_getD, List.getD_eq_getElem?_getD, hzi, hy]; rfl)
        have hwX : w.heap.size < X := by have := hB4.size; have := hb1.size; have := hb2.size; have := hb3.size; have := hb4.size; simp at *; omega
        have g5 := (HMEM.out wr _ HT.out.2 ⟨w.heap.size, 0, none⟩ (by simp [hs6]; omega) (by simp; omega)).trans ((hb46.cell (p := ⟨w.heap.size, 0, none⟩) hwX).trans d7)
        obtain ⟨wo', wb, woff, hwb, hwlt, hwc⟩ : ∃ wo', ∃ wb woff, wo = some ⟨wb, woff, none⟩ ∧ wb < w.heap.size ∧ w.cell? ⟨wb, woff + i, none⟩ = some (.int .i64 y) := by
          obtain ⟨ao', cap', hv', h'⟩ := HWI.out
          cases hv'
          obtain ⟨b', off', e', h1', h2'⟩ := h' (by have := HWL.out; omega)
          exact ⟨0, b', off', e', h1', h2' i y hy⟩
        subst hwb
        have g6 := (HMEM.out wr _ HT.out.2 ⟨wb, woff + i, none⟩ (by simp [hs6]; omega) (by simp; omega)).trans ((hb46.cell (p := ⟨wb, woff + i, none⟩) (by show wb < X; omega)).trans ((hB4.cell (p := ⟨wb, woff + i, none⟩) hwlt).trans hwc))
        have hmix : Try.prog.follows .mixedOrders = true := by kernel_rfl
        have hw64 : wrap64 (zi + y) = zi + y := IntWalk.wrap64_in _ (by omega)
        clear hzi hy hBe hwc
        gi_wp2
        refine region_store_round' rfl hmix rfl rfl (by kernel_rfl) (by kernel_rfl) ?_
        simp only [List.dropLast]
        repeat (gi_big_quiet_step (fail))
        refine wpQuietIn_nil ?_
        rintro w' ⟨nq, rfl⟩
        refine ⟨fun _ _ => trivial, ?_⟩
        go_simp
        gi_wp2
        have hgr : W.grownBy ((wr.drewN nq).setCell ⟨X + 1, i, none⟩ (.int .i64 (zi + y))) (some (X + 1)) := only_trans (only_draw HT.out.1 nq) (only_set _ _ _ _)
        have hWs := HI.out.base.size
        refine ⟨KeepsFrom.of_grownBy hgr (fun j e => by cases e; omega), ⟨hgr.block _ (by omega) (by simp), hgr.block _ (by omega) (by simp; omega)⟩, ?_⟩
        show LI W6 (X + 1) n (bestTo n es ws ((pre ++ [x]).map nd)) _
        rw [HG2.out]
        exact (HT.out.2.draw nq).set i (zi + y)
  case done =>
    rintro D' ys W hD' rfl hI hK
    have hRV : (upto (bwf g n) n).map nd = D.reverse := by
      refine List.ext_getElem? fun i => ?_
      by_cases hi : i < n
      · rw [List.getElem?_reverse (by omega), List.getElem?_map, upto, List.getElem?_map, List.getElem?_range hi]
        have := hnd (bwf g n i)
        unfold bwf at this ⊢
        rw [hg _ (by omega)] at this
        simp only [Option.map_some, hDl]
        exact this.symm
      · rw [List.getElem?_eq_none (by simp [upto]; omega), List.getElem?_eq_none (by simp; omega)]
    rw [hRV] at hI
    obtain ⟨A, hA⟩ : ∃ A, bestOf n es ws D = A := ⟨_, rfl⟩
    replace hI : LI W6 (X + 1) n A W := by rw [← hA]; exact hI
    have hAl : A.length = n := by rw [← hA, bestOf_len]
    have hwX : w.heap.size < X := by have := hB4.size; have := hb1.size; have := hb2.size; have := hb3.size; have := hb4.size; simp at *; omega
    have hWs := hI.base.size
    have hb46 : Below w4.heap.size w4 W6 := bstep hb5 hb56
    rw [hX] at hb46
    have hfar : ∀ p : Addr, p.block < W6.heap.size → p.block ≠ X + 1 → W.cell? p = W6.cell? p := fun p h1 h2 => hI.base.cell_far p h1 (by simpa using h2)
    have f1 := (hfar ⟨X, 0, none⟩ (by simp [hs6]) (by simp)).trans ((hb56.cell (p := ⟨X, 0, none⟩) (by simp [hs5])).trans q1)
    have f2 := (hfar ⟨X + 1 + 1, 0, none⟩ (by simp [hs6]) (by simp)).trans ((hb56.cell (p := ⟨X + 2, 0, none⟩) (by simp [hs5])).trans q2)
    have f3 := (hfar ⟨w.heap.size, 0, none⟩ (by simp [hs6]; omega) (by simp; omega)).trans ((hb46.cell (p := ⟨w.heap.size, 0, none⟩) hwX).trans d7)
    have HWC : Hid (∀ (k : Nat) y, ws[k]? = some y → ∃ wb woff, wo = some ⟨wb, woff, none⟩ ∧ wb < W.heap.size ∧ W.cell? ⟨wb, woff + k, none⟩ = some (.int .i64 y)) := by
      intro k y hy
      obtain ⟨ao', cap', hv', h'⟩ := HWI.out
      cases hv'
      obtain ⟨b', off', e', h1', h2'⟩ := h' (by have := HWL.out; omega)
      refine ⟨b', off', e', by omega, ?_⟩
      exact (hfar ⟨b', off' + k, none⟩ (by simp [hs6]; omega) (by simp; omega)).trans ((hb46.cell (p := ⟨b', off' + k, none⟩) (by show b' < X; omega)).trans ((hB4.cell (p := ⟨b', off' + k, none⟩) h1').trans (h2' k y hy)))
    have HRW : Hid (Rows W (.slice ao n cap) (nxS n es)) := by
      refine HM.out.rows.keep (by omega) fun p hp => ?_
      rw [hX] at hp
      exact (hfar p (by omega) (by omega)).trans (hb46.cell hp)
    have HAC := Lib.hid (fun k z (hz : A[k]? = some z) => hI.own.cell hz)
    have hmx := maxOf_mem A (by omega)
    obtain ⟨M, hMe⟩ : ∃ M, Lib.maxOf A = M := ⟨_, rfl⟩
    have HMX := Lib.hid (maxI_any _ A W hI.own.sl (by omega) (by omega))
    rw [hMe] at HMX hmx
    obtain ⟨x0, hx1, hx2, _⟩ := idxOf_is hmx.1
    have HIX := Lib.hid (index_any _ A M W hI.own.sl (by omega))
    rw [hx1] at HIX
    have hx0n : x0 < n := by have := (List.getElem?_eq_some_iff.1 hx2).1; omega
    obtain ⟨y0, hy0⟩ : ∃ y, ws[x0]? = some y := ⟨_, List.getElem?_eq_getElem (by have := HWL.out; omega)⟩
    obtain ⟨wb, woff, rfl, hwb, hwc⟩ := HWC.out x0 y0 hy0
    have hby := HWB.out y0 (List.mem_of_getElem? hy0)
    have hwg : ∀ k, 0 ≤ ws.getD k 0 ∧ ws.getD k 0 ≤ 1073741824 := fun k => by
      rw [List.getD_eq_getElem?_getD]
      cases hk : ws[k]? with
      | none => simp
      | some y => exact HWB.out y (List.mem_of_getElem? hk)
    have hbA : ∀ k, 0 ≤ A.getD k 0 ∧ A.getD k 0 ≤ 64424509440 := fun k => by
      have := bestTo_bd (n := n) (es := es) hwg D.reverse k
      rw [show bestTo n es ws D.reverse = A from hA, List.length_reverse, hDl] at this
      omega
    have hM0 := hbA x0
    rw [List.getD_eq_getElem?_getD, hx2, Option.getD_some] at hM0
    have HBA := Lib.hid hbA
    have HWG := Lib.hid hwg
    have HII := Lib.hid hI
    have HAA := Lib.hid hA
    have HAL := Lib.hid hAl
    have HX1 := Lib.hid hx1
    have HX2 := Lib.hid hx2
    have HY0 := Lib.hid hy0
    have HKD := Lib.hid hK
    have HME := Lib.hid hMe
    clear hbA hwg hI hA hx1 hx2 hy0 hK hmx hMe hfar hAl
    obtain ⟨wz, rfl⟩ : ∃ wz : World, wz = W := ⟨_, rfl⟩
    have HWC2 : Hid (∀ (k : Nat) y, ws[k]? = some y → wz.cell? ⟨wb, woff + k, none⟩ = some (.int .i64 y)) := fun k y hy => by
      obtain ⟨b', o', e', h1, h2⟩ := HWC.out k y hy
      cases e'
      exact h2
    clear HWC
    have HLG0 : Hid (LG wz (wz.heap.size + 1) (M - y0) (.slice (some ⟨wz.heap.size, 0, none⟩) 1 1) [x0] ((wz.alloc (.cells #[.int .i64 (x0 : Int)] 3)).alloc (.cells #[.int .i64 (M - y0)] 3))) := by
      have := LG.fresh (W7 := wz) (below_new wz _) (own_lit wz 3 natf x0 wz.heap.size (Nat.le_refl _)) (M - y0)
      show LG _ _ _ _ _ _
      simpa [natf] using this
    have HFULL : Hid (x0 :: longWalk n es ws A n x0 (M - y0) = (longOf n es ws D).2 ∧ (longOf n es ws D).1 = M ∧ M - y0 = A.getD x0 0 - ws.getD x0 0) := by
      have e1 : ws.getD x0 0 = y0 := by rw [List.getD_eq_getElem?_getD, HY0.out]; rfl
      have e2 : A.getD x0 0 = M := by rw [List.getD_eq_getElem?_getD, HX2.out]; rfl
      refine ⟨?_, ?_, by rw [e1, e2]⟩
      · unfold longOf
        simp only [HAA.out, HME.out, HX1.out, Int.toNat_natCast, e1]
      · unfold longOf
        simp only [HAA.out, HME.out]
    have hwz : w.heap.size < wz.heap.size := by omega
    have f3' : (wz.alloc (.cells #[.int .i64 (x0 : Int)] 3)).cell? ⟨w.heap.size, 0, none⟩ = some (.slice (some ⟨wb, woff, none⟩) n wcap) := (World.cell?_alloc_lt _ _ _ hwz).trans f3
    have hwc' : (wz.alloc (.cells #[.int .i64 (x0 : Int)] 3)).cell? ⟨wb, woff + x0, none⟩ = some (.int .i64 y0) := (World.cell?_alloc_lt _ _ _ hwb).trans hwc
    have x00 : (0 : Int) ≤ (x0 : Int) := Int.natCast_nonneg _
    have x01 : (x0 : Int) < (n : Int) := by omega
    go_wp2_with fail
    refine HMX.out.mono ?_
    rintro e w7 ⟨rfl, rfl⟩
    go_wp2_with fail
    refine HIX.out.mono ?_
    rintro e w7 ⟨rfl, rfl⟩
    go_wp2_with fail
    clear f1 f2 f3 hwc f3' hwc'
    obtain ⟨W8, hW8⟩ : ∃ W8, ((wz.alloc (.cells #[.int .i64 (x0 : Int)] 3)).alloc (.cells #[.int .i64 (M - y0)] 3)) = W8 := ⟨_, rfl⟩
    go_loopg [18, 19, 20] n (fun f s18 s19 s20 wr => ∃ (x : Nat) (o : List Nat) (Xb : Nat) (r : Int), s18 = .int .i64 (x : Int) ∧ s20 = .pointer (some ⟨Xb, 0, none⟩) ∧ x < n ∧ o.length + f ≤ n + 1 ∧ Hid (LG wz Xb r s19 o wr ∧ o ++ longWalk n es ws A f x r = (longOf n es ws D).2 ∧ r = A.getD x 0 - ws.getD x 0 ∧ n ≤ f + D.idxOf x + 1))
    case atStart => exact ⟨x0, [x0], wz.heap.size + 1, M - y0, rfl, rfl, hx0n, by simp; omega, HLG0.out, HFULL.out.1, HFULL.out.2.2, by omega⟩
    case round =>
      obtain ⟨x, o, Xb, r, rfl, rfl, hxn, hol, HI⟩ := hrel
      have d4 := HI.out.1.cell
      have d5 := HI.out.1.free
      have hXW := HI.out.1.lt
      have hlow := HI.out.1.low
      have hlows := hlow.size
      by_cases hr0 : r ≤ 0
      · have HE := Lib.hid (show o = (longOf n es ws D).2 by have := HI.out.2.1; rw [longWalk_end hr0, List.append_nil] at this; exact this)
        have HEW := Lib.hid (show Below w.heap.size w wr from (bstep hB4 ((bstep hb5 hb56))).trans (((below_grown (Below.refl _ _) HII.out.base (by omega) (fun g e => by cases e; omega)) : Below (X + 1) W6 wz).mono (by omega) |>.trans (hlow.mono (by omega))))
        have hDw : D' < wz.heap.size := (Array.getElem?_eq_some_iff.1 HKD.out).1
        have hKE := (hlow.block D' hDw).trans HKD.out
        have HKE := Lib.hid hKE
        clear hKE
        go_wp2
        refine marks_ret3_one (D := D') (.inl rfl) rfl rfl HKE.out ?_
        intro w' hw'
        rw [run_takeDeferred HKE.out] at hw'
        cases hw'
        have hg := grownBy_putObj' wr D' (Obj.deferred none)
        refine ⟨u19, by rw [HFULL.out.2.1]; rfl, ?_, below_grown HEW.out hg HEW.out.size (fun g e => by cases e; omega)⟩
        rw [← HE.out]
        exact (HI.out.1.out_.only hg (fun g hg' e => by have := (HI.out.1.out_.lt g hg').1; cases e; omega)).mono (by omega)
      · have hr1 : 0 < r := by omega
        have hrb : r ≤ 64424509440 := by have := (HBA.out x).2; have := (HWG.out x).1; have := HI.out.2.2.1; omega
        have hex : ∃ k ∈ nextsS n es x, (fun k => A.getD k 0 == r) k = true := by
          obtain ⟨k, hk, h⟩ := long_next (ws := ws) HD.out hxn (r := r) (by rw [HAA.out]; exact HI.out.2.2.1) hr1
          rw [HAA.out] at h
          exact ⟨k, hk, by simpa using h⟩
        obtain ⟨j, k, hj, hpk, hno, hfind⟩ := find_at hex
        have hpk' : A.getD k 0 = r := by simpa using hpk
        have hke := ord_edge HD.out (List.mem_of_getElem? hj)
        have hidx : D.idxOf k < n := by rw [← hDl]; exact List.idxOf_lt_length_of_mem hke.2.1
        obtain ⟨f, rfl⟩ : ∃ f, gk = f + 1 := ⟨gk - 1, by have := HI.out.2.2.2; omega⟩
        have hkn : k < n := (nextsS_mem.1 (List.mem_of_getElem? hj)).1
        obtain ⟨rb, roff, hrx, hrlt, ro, rc, c0, hnr⟩ := rows_get HRW.out (nxS_get es hxn)
        cases hrx
        have f1 := (hlow.cell (p := ⟨X, 0, none⟩) (by simp; omega)).trans ((HII.out.base.cell_far ⟨X, 0, none⟩ (by simp [hs6]) (by simp)).trans ((hb56.cell (p := ⟨X, 0, none⟩) (by simp [hs5])).trans q1))
        have f4 := (hlow.cell (p := ⟨rb, roff + x, none⟩) hrlt).trans c0
        have hWS := longWalk_step (n := n) (es := es) (ws := ws) (A := A) (f := f) hr1 hfind
        have HST := Lib.hid (show (o ++ [k]) ++ longWalk n es ws A f k (r - ws.getD k 0) = (longOf n es ws D).2 by
          have := HI.out.2.1
          rw [hWS] at this
          rw [List.append_assoc]; exact this)
        have HIN := Lib.hid (show n ≤ f + D.idxOf k + 1 by have := HI.out.2.2.2; omega)
        obtain ⟨b3, off3, rfl, hb3, hc3⟩ := nats_get hnr hj
        have hjl : j < (nextsS n es x).length := (List.getElem?_eq_some_iff.1 hj).1
        have e2 := (hlow.cell (p := ⟨b3, off3 + j, none⟩) hb3).trans hc3
        have HIX2 : Hid (∀ W, Below wr.heap.size wr W → Calls Try.prog 47 #[.slice (some ⟨b3, off3, none⟩) (nextsS n es x).length rc, .func (.func 48) #[] #[.pointer (some ⟨X + 1 + 1, 0, none⟩), .pointer (some ⟨Xb, 0, none⟩)]] W fun e w' => e = .returned (.int .i64 (j : Int)) ∧ Below W.heap.size W w') := by
          intro W hW
          have hWs := hW.size
          refine longIdx (X + 1 + 1) Xb (X + 1) n n A r (nextsS n es x) _ W ((hW.cell (p := ⟨X + 1 + 1, 0, none⟩) (by simp; omega)).trans ((hlow.cell (p := ⟨X + 1 + 1, 0, none⟩) (by simp; omega)).trans ((HII.out.base.cell_far ⟨X + 1 + 1, 0, none⟩ (by simp [hs6]) (by simp)).trans ((hb56.cell (p := ⟨X + 2, 0, none⟩) (by simp [hs5])).trans q2)))) ((hW.cell (p := ⟨Xb, 0, none⟩) hXW).trans d4) (fun k z hz => (hW.cell (p := ⟨X + 1, k, none⟩) (by simp; omega)).trans ((hlow.cell (p := ⟨X + 1, k, none⟩) (by simp; omega)).trans (HAC.out k z hz))) (by omega) (by omega) (by omega) HAL.out (by omega) ?_ (by have := nextsS_len n es x; omega) (fun k hk => (nextsS_mem.1 hk).1) j k hj hpk' (fun i y hi hy => by have := hno i y hi hy; simpa using this)
          exact hnr.below (bstep hlow hW)
        obtain ⟨yk, hyk⟩ : ∃ y, ws[k]? = some y := ⟨_, List.getElem?_eq_getElem (by have := HWL.out; omega)⟩
        have hbyk := HWB.out yk (List.mem_of_getElem? hyk)
        have HYK := Lib.hid (show ws.getD k 0 = yk by rw [List.getD_eq_getElem?_getD, hyk]; rfl)
        have g6 := HWC2.out k yk hyk
        have g5 := (HII.out.base.cell_far ⟨w.heap.size, 0, none⟩ (by simp [hs6]; omega) (by simp; omega)).trans ((hb46.cell (p := ⟨w.heap.size, 0, none⟩) hwX).trans d7)
        have HPK := Lib.hid hpk'
        have x0' : (0 : Int) ≤ (x : Int) := Int.natCast_nonneg _
        have x1' : (x : Int) < (n : Int) := by omega
        have k0 : (0 : Int) ≤ (k : Int) := Int.natCast_nonneg _
        have k1 : (k : Int) < (n : Int) := by omega
        have j0 : (0 : Int) ≤ (j : Int) := Int.natCast_nonneg _
        have j1 : (j : Int) < ((nextsS n es x).length : Int) := by omega
        clear hex hj hpk hpk' hno hfind hWS hc3 c0 hnr hyk hke
        have HG6 := Lib.hid (And.intro g5 g6)
        clear g5 g6
        go_upto_region 28 with fail
        go_region_held3 (fun w' => w'.cell? ⟨X, 0, none⟩ = some (.slice (some ⟨rb, roff, none⟩) n cap) ∧ w'.cell? ⟨rb, roff + x, none⟩ = some (.slice (some ⟨b3, off3, none⟩) (nextsS n es x).length rc) ∧ w'.cell? ⟨b3, off3 + j, none⟩ = some (.int .i64 (k : Int)))
          (first
            | go_keep
            | (go_split_ands
               refine ⟨?_, ?_, ?_⟩
               · exact (hb9.cell (p := ⟨X, 0, none⟩) (show X < wr.heap.size by omega)).trans f1
               · exact (hb9.cell (p := ⟨rb, roff + x, none⟩) (show rb < wr.heap.size by omega)).trans f4
               · exact (hb9.cell (p := ⟨b3, off3 + j, none⟩) (show b3 < wr.heap.size by omega)).trans e2))
          ((go_at_call 47; refine (HIX2.out _ ((Below.refl _ _).drew)).mono ?_; rintro e w9 ⟨rfl, hb9⟩))
        have HL9 := Lib.hid ((HI.out.1.below ((Below.refl _ _).drew)).below hb9)
        clear e2 d4 d5 f1 f4
        have hlen1 : o.length + 1 ≤ 1099511627776 := by omega
        have hbase : wz.heap.size ≤ w9.heap.size := HL9.out.low.size
        go_upto_region 27 with (at_builtin; refine wpList_push w9 rfl _ _ 23 rfl 3 8 elemInt wz.heap.size natf _ o k rfl HL9.out.out_ rfl rfl hlen1 (by omega) hbase ?_; intro v' w' hown' hg' hat'; have HP := Lib.hid (HL9.out.pushed hg'); have d6 := HP.out.2; have HN := Lib.hid (LG.fresh HP.out.1 hown' r))
        have hzl := HP.out.1.size
        have d7 := HN.out.cell
        have d8 := HN.out.free
        have g5 := (HN.out.low.cell (p := ⟨w.heap.size, 0, none⟩) hwz).trans HG6.out.1
        have g6 := (HN.out.low.cell (p := ⟨wb, woff + k, none⟩) hwb).trans HG6.out.2
        clear d6
        obtain ⟨W9, hW9⟩ : ∃ W9, w'.alloc (.cells #[.int .i64 r] 3) = W9 := ⟨_, rfl⟩
        rw [hW9] at HN d7 d8 g5 g6
        rw [hW9]
        go_still_tail 6, (by kernel_rfl)
        change wpList _ _ _ _ _ W9.drew
        have HN2 : Hid (LG wz w'.heap.size r v' (o ++ [k]) W9.drew) := HN.out.draw 1
        obtain ⟨W10, hW10⟩ : ∃ W10, W9.drew = W10 := ⟨_, rfl⟩
        replace d7 : W10.cell? ⟨w'.heap.size, 0, none⟩ = some (.int .i64 r) := by rw [← hW10]; exact d7
        replace d8 : W10.frozen? ⟨w'.heap.size, 0, none⟩ = false := by rw [← hW10]; exact d8
        replace g5 : W10.cell? ⟨w.heap.size, 0, none⟩ = some (.slice (some ⟨wb, woff, none⟩) n wcap) := by rw [← hW10]; exact g5
        replace g6 : W10.cell? ⟨wb, woff + k, none⟩ = some (.int .i64 yk) := by rw [← hW10]; exact g6
        rw [hW10] at HN2 ⊢
        clear hW10 hW9 HN
        go_wp2
        go_roundg f
        case measure => omega
        case rel =>
          have hset := HN2.out.set (r - yk)
          refine ⟨k, o ++ [k], w'.heap.size, r - yk, rfl, rfl, hkn, by simp; omega, hset, ?_, ?_, HIN.out⟩
          · rw [← HYK.out]; exact HST.out
          · rw [HYK.out, HPK.out]
end Go.Proofs.Ythhhcaleoiopgaa
