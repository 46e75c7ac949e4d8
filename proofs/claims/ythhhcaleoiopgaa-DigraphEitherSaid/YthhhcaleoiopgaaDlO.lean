/-
  Law DigraphOrders: the walk.
-/
import Derived.Test.YthhhcaleoiopgaaDl0
import Derived.Test.YthhhcaleoiopgaaRdB
namespace Go.Proofs.Ythhhcaleoiopgaa
open Go.RowKit
set_option linter.unusedVariables false

/-- Order, and the reference's: the same list, an errno and a flag that agree. -/
theorem order_both (n : Nat) (v : Value) (es : List (Nat × Nat)) (w : World) (hg : Dg w n v es) : ∃ (fr : Bool) (k : Int) (D : List Nat), D.length ≤ 60 ∧ ((fr = true ∧ k = 0) ∨ (fr = false ∧ k = 23)) ∧
    (∀ W, Below w.heap.size w W → Calls Try.prog 22 #[.int .i64 (n : Int), v] W fun e w' => ∃ ao cp, e = .returned (.tuple #[.slice ao D.length cp, .int .i64 k]) ∧ Nats w' (.slice ao D.length cp) D ∧ Below W.heap.size W w') ∧
    (∀ W, Below w.heap.size w W → Calls Try.prog 15 #[.int .i64 (n : Int), v] W fun e w' => ∃ ao cp, e = .returned (.tuple #[.slice ao D.length cp, .bool fr]) ∧ Nats w' (.slice ao D.length cp) D ∧ Below W.heap.size W w') := by
  cases ho : orderOf n es with
  | none =>
    refine ⟨false, 23, [], by simp, .inr ⟨rfl, rfl⟩, fun W hW => ?_, fun W hW => ?_⟩
    · refine (ordTop_ok n v es W (hg.below hW)).mono ?_
      intro e w' h
      unfold TopPost at h
      rw [ho] at h
      obtain ⟨rfl, hb⟩ := h
      exact ⟨none, 0, rfl, nil_nats _, hb⟩
    · refine (rorder_any n v es W (hg.below hW)).mono ?_
      intro e w' h
      unfold ROrderPost at h
      rw [ho] at h
      obtain ⟨rfl, hb⟩ := h
      exact ⟨none, 0, rfl, nil_nats _, hb⟩
  | some D =>
    have hD := (ordTo_ok n D ho).1
    refine ⟨true, 0, D, by have := hg.n_le; omega, .inl ⟨rfl, rfl⟩, fun W hW => ?_, fun W hW => ?_⟩
    · refine (ordTop_ok n v es W (hg.below hW)).mono ?_
      intro e w' h
      unfold TopPost at h
      rw [ho] at h
      obtain ⟨⟨u, rfl, hu⟩, hb⟩ := h
      obtain ⟨ao, cp, rfl⟩ := hu.shape
      exact ⟨ao, cp, rfl, hu.sl, hb⟩
    · refine (rorder_any n v es W (hg.below hW)).mono ?_
      intro e w' h
      unfold ROrderPost at h
      rw [ho] at h
      obtain ⟨⟨u, rfl, hu⟩, hb⟩ := h
      obtain ⟨ao, cp, rfl⟩ := hu.shape
      exact ⟨ao, cp, rfl, hu.sl, hb⟩

theorem toNat_ints {l : List Int} (h : ∀ x ∈ l, 0 ≤ x) : (l.map Int.toNat).map (fun k : Nat => (k : Int)) = l := by
  rw [List.map_map]
  have e0 : l = l.map id := by simp
  conv => rhs; rw [e0]
  exact List.map_congr_left fun x hx => by have := h x hx; simp [Function.comp]; omega
theorem ints_nats {w : World} {u : Value} {l : List Int} (hw : Ints w u l) (h : ∀ x ∈ l, 0 ≤ x) : Nats w u (l.map Int.toNat) := by
  obtain ⟨ao, cap, rfl, h2⟩ := hw
  refine ⟨ao, cap, by simp, fun h0 => ?_⟩
  obtain ⟨b, off, rfl, hlt, hc⟩ := h2 (by simpa using h0)
  refine ⟨b, off, rfl, hlt, fun k x hx => ?_⟩
  rw [List.getElem?_map] at hx
  obtain ⟨y, hy, rfl⟩ := Option.map_eq_some_iff.1 hx
  rw [hc k y hy]
  have := h y (List.mem_of_getElem? hy)
  simp only
  rw [Int.toNat_of_nonneg this]
theorem badN_all {n : Nat} {l : List Int} (h : ¬ l.any (badN n) = true) : ∀ x ∈ l, 0 ≤ x ∧ x < n := fun x hx => by
  have h2' : l.any (badN n) = false := by simpa using h
  have := List.any_eq_false.1 h2' x hx
  unfold badN at this
  simp at this
  omega
theorem toNat_nodup {l : List Int} (h : ∀ x ∈ l, 0 ≤ x) : (l.map Int.toNat).Nodup ↔ l.Nodup := by
  constructor
  · intro hn
    have := toNat_ints h
    rw [← this]
    exact List.Pairwise.map _ (fun a b hab => by simp only [ne_eq]; omega) hn
  · intro hn
    rw [List.Nodup, List.pairwise_map]
    refine List.Pairwise.imp_of_mem (fun {a b} ha hb hab e => hab ?_) hn
    have h1 := h a ha
    have h2 := h b hb
    omega
/-- What the list of all nodes says: refused alike, or judged alike. -/
theorem chk_nodes (n : Nat) (es : List (Nat × Nat)) (l : List Int) :
    (nodesRes n l ≠ 0 ∧ chkRes n es l = (false, nodesRes n l)) ∨ (nodesRes n l = 0 ∧ l.length = n ∧ (∀ x ∈ l, 0 ≤ x ∧ x < n) ∧ (l.map Int.toNat).Nodup ∧ chkRes n es l = ((chkN es (l.map Int.toNat)).1, 0)) := by
  unfold nodesRes chkRes
  by_cases h1 : l.length ≠ n
  · rw [if_pos h1, if_pos h1]; exact .inl ⟨by decide, rfl⟩
  · rw [if_neg h1, if_neg h1]
    by_cases h2 : l.any (badN n) = true
    · rw [if_pos h2, if_pos h2]; exact .inl ⟨by decide, rfl⟩
    · rw [if_neg h2, if_neg h2]
      have hb := badN_all h2
      have hiff := toNat_nodup (l := l) (fun x hx => (hb x hx).1)
      by_cases h3 : l.Nodup
      · rw [if_pos h3]
        have h4 := hiff.2 h3
        refine .inr ⟨rfl, by omega, hb, h4, ?_⟩
        unfold chkN
        rw [if_pos h4]
      · rw [if_neg h3]
        refine .inl ⟨by decide, ?_⟩
        unfold chkN
        rw [if_neg (fun h => h3 (hiff.1 h))]

set_option maxRecDepth 100000 in
set_option maxHeartbeats 4000000 in
theorem ordersNo_walk (w : World) (n : Int) (v u : Value) (l : List (Int × Int)) (q : List Int) (hp : Pairs w v l) (bl : l.length * 16 ≤ 140737488351232) (hq : Ints w u q) (hlg : larg n l.length = false) (hq1 : q.length ≤ 100) (hv : vldD n l = false) :
    Calls Try.prog 5 #[.int .i64 n, v, u] w fun e w' => e = .returned (.bool true) ∧ Below w.heap.size w w' := by
  have HL := Lib.hid hlg
  have HV := Lib.hid hv
  have HP := Lib.hid hp
  obtain ⟨ao, cap, rfl, _⟩ := hp
  obtain ⟨uo, uc, rfl, _⟩ := hq
  have hbl : l.length ≤ 140737488355328 := by omega
  have hq2 : ((q.length : Int)) ≤ 100 := by omega
  clear hlg hv bl
  go_enter Try.func5, Try.ntmps5
  go_wp2_with fail
  refine (awake_any _).mono ?_
  rintro e w1 ⟨rfl, hB1⟩
  go_wp2_with fail
  refine (large_any n _ l.length _ hbl ⟨_, _, rfl⟩).mono ?_
  rw [HL.out]
  rintro e w2 ⟨rfl, rfl⟩
  go_wp2_with fail
  refine (ordTop_bad n _ l _ (HP.out.below hB1) hbl HV.out).mono ?_
  rintro e w3 ⟨rfl, hb3⟩
  have hB3 := bstep hB1 hb3
  go_wp2_with fail
  refine (check_bad n _ l _ _ _ _ (HP.out.below hB3) hbl HV.out).mono ?_
  rintro e w4 ⟨rfl, hb4⟩
  have hB4 := bstep hB3 hb4
  go_wp2_with fail
  refine (rdvalid_any n _ l _ (HP.out.below hB4) hbl).mono ?_
  rw [HV.out]
  rintro e w5 ⟨rfl, rfl⟩
  go_wp2_with fail
  refine (dvalid_any n _ l _ (HP.out.below hB4) hbl).mono ?_
  rw [HV.out]
  rintro e w6 ⟨rfl, hb6⟩
  have hB6 := bstep hB4 hb6
  go_wp2
  go_ret
  exact ⟨rfl, hB6⟩

set_option maxRecDepth 100000 in
set_option maxHeartbeats 4000000 in
theorem ordersYes_walk (w : World) (n : Nat) (v u : Value) (es : List (Nat × Nat)) (q : List Int) (hg : Dg w n v es) (hq : Ints w u q) (hlg : larg n es.length = false) (hq1 : q.length ≤ 100) :
    Calls Try.prog 5 #[.int .i64 (n : Int), v, u] w fun e w' => e = .returned (.bool true) ∧ Below w.heap.size w w' := by
  have hm := hg.m_le
  have hn60 := hg.n_le
  have HG := Lib.hid hg
  have HV := Lib.hid hg.ok
  have HL := Lib.hid hlg
  have HQ := Lib.hid hq
  obtain ⟨fr, k, D, hD, hfr, hp1, hp2⟩ := order_both n v es w hg
  have HP1 := Lib.hid hp1
  have HP2 := Lib.hid hp2
  have HD := Lib.hid hD
  obtain ⟨ao, cap, rfl, _⟩ := hg.pairs.open_
  obtain ⟨uo, uc, rfl, _⟩ := hq
  have hcl : (cst es).length ≤ 140737488355328 := by rw [cst_len]; omega
  have hq2 : ((q.length : Int)) ≤ 100 := by omega
  have hcn := chk_nodes n es q
  have HCK := Lib.hid (fun W hW => check_any n (.slice ao es.length cap) (.slice uo q.length uc) es q W ((HG.out).below hW) (HQ.out.below hW) (by omega))
  have HND := Lib.hid (fun W (hW : Below w.heap.size w W) => rnodes_any n (.slice uo q.length uc) q W (HQ.out.below hW) (by omega) (by omega))
  unfold CheckPost at HCK
  have HRC : Hid (nodesRes n q = 0 → ∀ W, Below w.heap.size w W → Calls Try.prog 26 #[.int .i64 (n : Int), .slice ao es.length cap, .slice uo q.length uc] W fun e w' => e = .returned (.bool (chkN es (q.map Int.toNat)).1) ∧ Below W.heap.size W w') := by
    intro h0 W hW
    rcases hcn with h | ⟨_, h2, h3, h4, _⟩
    · exact absurd h0 h.1
    · exact rcheck_any n _ _ es _ W (HG.out.below hW) (ints_nats (HQ.out.below hW) (fun x hx => (h3 x hx).1)) (by simpa using h2) (fun i hi => by
        obtain ⟨x, hx, rfl⟩ := List.mem_map.1 hi
        have := h3 x hx
        omega) h4
  obtain ⟨nr, hnr⟩ : ∃ nr, nodesRes n q = nr := ⟨_, rfl⟩
  obtain ⟨cb, hcb⟩ : ∃ cb, (chkN es (q.map Int.toNat)).1 = cb := ⟨_, rfl⟩
  rw [hnr] at hcn HND HRC
  rw [hcb] at hcn HRC
  clear hnr hcb hp1 hp2 hD hlg hg
  rcases hfr with ⟨rfl, rfl⟩ | ⟨rfl, rfl⟩
  all_goals
    rcases hcn with ⟨hnz, hck⟩ | ⟨rfl, k1, k2, k3, hck⟩
    · rw [hck] at HCK
      have hne : (nr != 0) = true := bne_yes hnz
      have hee : (nr == nr) = true := by simp
      clear hck hnz HRC
      go_enter Try.func5, Try.ntmps5
      go_wp2_with fail
      refine (awake_any _).mono ?_
      rintro e w1 ⟨rfl, hB1⟩
      go_wp2_with fail
      refine (large_any n _ es.length _ (by omega) ⟨_, _, rfl⟩).mono ?_
      rw [HL.out]
      rintro e w2 ⟨rfl, rfl⟩
      go_wp2_with fail
      refine (HP1.out _ hB1).mono ?_
      rintro e w3 ⟨po, pc, rfl, hp3, hb3⟩
      have hB3 := bstep hB1 hb3
      have N3 := Lib.hid hp3
      clear hp3
      go_wp2_with fail
      refine (HCK.out _ hB3).mono ?_
      rintro e w4 ⟨rfl, hb4⟩
      have hB4 := bstep hB3 hb4
      have N4 := Lib.hid (N3.out.below hb4)
      clear N3
      go_wp2_with fail
      refine (rdvalid_any n _ (cst es) _ (HG.out.below hB4).pairs hcl).mono ?_
      rw [HV.out]
      rintro e w5 ⟨rfl, rfl⟩
      go_wp2_with fail
      refine (HP2.out _ hB4).mono ?_
      rintro e w6 ⟨ro, rc, rfl, hp6, hb6⟩
      have hB6 := bstep hB4 hb6
      have N6 := Lib.hid (N4.out.below hb6)
      have M6 := Lib.hid hp6
      clear N4 hp6
      go_wp2_with fail
      refine (dvalid_any n _ (cst es) _ (HG.out.below hB6).pairs hcl).mono ?_
      rw [HV.out]
      rintro e w7 ⟨rfl, hb7⟩
      have hB7 := bstep hB6 hb7
      have N7 := Lib.hid (N6.out.below hb7)
      have M7 := Lib.hid (M6.out.below hb7)
      clear N6 M6
      go_wp2_with fail
      refine (equalN_yes _ _ D D _ N7.out M7.out (by have := HD.out; omega) rfl).mono ?_
      rintro e w8 ⟨rfl, hb8⟩
      have hB8 := bstep hB7 hb8
      go_wp2_with fail
      refine (HND.out _ hB8).mono ?_
      rintro e w9 ⟨rfl, hb9⟩
      have hB9 := bstep hB8 hb9
      go_wp2
      go_ret
      exact ⟨by first | rfl | simp, hB9⟩
    · rw [hck] at HCK
      have HRC2 : Hid (∀ W, Below w.heap.size w W → Calls Try.prog 26 #[.int .i64 (n : Int), .slice ao es.length cap, .slice uo q.length uc] W fun e w' => e = .returned (.bool cb) ∧ Below W.heap.size W w') := HRC.out rfl
      clear HRC
      have hcc : (cb == cb) = true := by simp
      clear hck k1 k2 k3
      go_enter Try.func5, Try.ntmps5
      go_wp2_with fail
      refine (awake_any _).mono ?_
      rintro e w1 ⟨rfl, hB1⟩
      go_wp2_with fail
      refine (large_any n _ es.length _ (by omega) ⟨_, _, rfl⟩).mono ?_
      rw [HL.out]
      rintro e w2 ⟨rfl, rfl⟩
      go_wp2_with fail
      refine (HP1.out _ hB1).mono ?_
      rintro e w3 ⟨po, pc, rfl, hp3, hb3⟩
      have hB3 := bstep hB1 hb3
      have N3 := Lib.hid hp3
      clear hp3
      go_wp2_with fail
      refine (HCK.out _ hB3).mono ?_
      rintro e w4 ⟨rfl, hb4⟩
      have hB4 := bstep hB3 hb4
      have N4 := Lib.hid (N3.out.below hb4)
      clear N3
      go_wp2_with fail
      refine (rdvalid_any n _ (cst es) _ (HG.out.below hB4).pairs hcl).mono ?_
      rw [HV.out]
      rintro e w5 ⟨rfl, rfl⟩
      go_wp2_with fail
      refine (HP2.out _ hB4).mono ?_
      rintro e w6 ⟨ro, rc, rfl, hp6, hb6⟩
      have hB6 := bstep hB4 hb6
      have N6 := Lib.hid (N4.out.below hb6)
      have M6 := Lib.hid hp6
      clear N4 hp6
      go_wp2_with fail
      refine (dvalid_any n _ (cst es) _ (HG.out.below hB6).pairs hcl).mono ?_
      rw [HV.out]
      rintro e w7 ⟨rfl, hb7⟩
      have hB7 := bstep hB6 hb7
      have N7 := Lib.hid (N6.out.below hb7)
      have M7 := Lib.hid (M6.out.below hb7)
      clear N6 M6
      go_wp2_with fail
      refine (equalN_yes _ _ D D _ N7.out M7.out (by have := HD.out; omega) rfl).mono ?_
      rintro e w8 ⟨rfl, hb8⟩
      have hB8 := bstep hB7 hb8
      go_wp2_with fail
      refine (HND.out _ hB8).mono ?_
      rintro e w9 ⟨rfl, hb9⟩
      have hB9 := bstep hB8 hb9
      go_wp2_with fail
      refine (HRC2.out _ hB9).mono ?_
      rintro e w10 ⟨rfl, hb10⟩
      have hB10 := bstep hB9 hb10
      go_wp2
      go_ret
      exact ⟨by first | rfl | simp, hB10⟩

set_option maxRecDepth 100000 in
set_option maxHeartbeats 4000000 in
theorem digraphOrders_walk (w : World) (n : Int) (wn : (Lit.int .i64 n).wf = true) (v : Value) (l : List (Int × Int)) (hp : Pairs w v l) (bl : l.length * 16 ≤ 140737488351232) (u : Value) (q : List Int) (hq : Sl w (fun x : Int => .int .i64 x) u q) (bq : q.length * 8 ≤ 140737488351232) (wq : ∀ x ∈ q, (Lit.int .i64 x).wf = true) :
    Calls Try.prog 5 #[.int .i64 n, v, u] w fun e w' => e = .returned (.bool true) ∧ Below w.heap.size w w' := by
  cases hlg : larg n l.length
  · by_cases hq1 : q.length ≤ 100
    · cases hv : vldD n l
      · exact ordersNo_walk w n v u l q hp bl hq hlg hq1 hv
      · obtain ⟨N, ns, rfl, rfl, hg⟩ := dg_of hp hv
        rw [cst_len] at hlg
        exact ordersYes_walk w N v u ns q hg hq hlg hq1
    · have HL := Lib.hid hlg
      obtain ⟨ao, cap, rfl, _⟩ := hp
      obtain ⟨uo, uc, rfl, _⟩ := hq
      have hbl : l.length ≤ 140737488355328 := by omega
      have hq2 : 100 < (q.length : Int) := by omega
      clear hlg bl wq
      go_enter Try.func5, Try.ntmps5
      go_wp2_with fail
      refine (awake_any _).mono ?_
      rintro e w1 ⟨rfl, hB1⟩
      go_wp2_with fail
      refine (large_any n _ l.length _ hbl ⟨_, _, rfl⟩).mono ?_
      rw [HL.out]
      rintro e w2 ⟨rfl, rfl⟩
      go_wp2
      go_ret
      exact ⟨rfl, hB1⟩
  · have HL := Lib.hid hlg
    obtain ⟨ao, cap, rfl, _⟩ := hp
    obtain ⟨uo, uc, rfl, _⟩ := hq
    have hbl : l.length ≤ 140737488355328 := by omega
    clear hlg bl wq
    go_enter Try.func5, Try.ntmps5
    go_wp2_with fail
    refine (awake_any _).mono ?_
    rintro e w1 ⟨rfl, hB1⟩
    go_wp2_with fail
    refine (large_any n _ l.length _ hbl ⟨_, _, rfl⟩).mono ?_
    rw [HL.out]
    rintro e w2 ⟨rfl, rfl⟩
    go_wp2
    go_ret
    exact ⟨rfl, hB1⟩
end Go.Proofs.Ythhhcaleoiopgaa
