/-
  Law GraphBridges: the walk.
-/
import Derived.Test.YtcaeemcobgopmaaLw0
namespace Go.Proofs.Ytcaeemcobgopmaa
open Go.RowKit
set_option linter.unusedVariables false

theorem gr_of {w : World} {n : Int} {v : Value} {l : List (Int × Int)} (hp : Pairs w v l) (hv : vld n l = true) : ∃ (N : Nat) (ns : List (Nat × Nat)), n = (N : Int) ∧ l = cst ns ∧ Gr w N v ns := by
  obtain ⟨N, ns, rfl, rfl, h1, h2, h3⟩ := vld_nat hv
  exact ⟨N, ns, rfl, rfl, hp, h1, h2, h3, hv⟩

theorem nil_nats (w : World) : Nats w (.slice none 0 0) [] := Sl.nil _ _ _ _

def PathBoth (w : World) (e e2 : Ending) (w' : World) : Prop :=
  ∃ (p q : Value) (l : List Nat) (c : Int), e = .returned (.tuple #[p, .int .i64 c]) ∧ e2 = .returned (.tuple #[q, .int .i64 c]) ∧ Nats w' p l ∧ Nats w' q l ∧ l.length ≤ 1000

set_option maxRecDepth 100000 in
set_option maxHeartbeats 4000000 in
theorem bridgesNo_walk (w : World) (n a b : Int) (v : Value) (l : List (Int × Int)) (hp : Pairs w v l) (bl : l.length * 16 ≤ 140737488351232) (hlg : larg n l.length = false) (hv : vld n l = false) :
    Calls Try.prog 3 #[.int .i64 n, v, .int .i64 a, .int .i64 b] w fun e w' => e = .returned (.bool true) ∧ Below w.heap.size w w' := by
  have HL := Lib.hid hlg
  have HV := Lib.hid hv
  have HP := Lib.hid hp
  obtain ⟨ao, cap, rfl, _⟩ := hp
  have hbl : l.length ≤ 140737488355328 := by omega
  clear hlg hv bl
  go_enter Try.func3, Try.ntmps3
  go_wp2_with fail
  refine (awake_any _).mono ?_
  rintro e w1 ⟨rfl, hB1⟩
  go_wp2_with fail
  refine (large_any n _ l.length _ hbl ⟨_, _, rfl⟩).mono ?_
  rw [HL.out]
  rintro e w2 ⟨rfl, rfl⟩
  go_wp2_with fail
  refine (bridgesNo_any n _ l _ (HP.out.below hB1) hbl HV.out ⟨_, _, _, rfl⟩).mono ?_
  rintro e w3 ⟨rfl, hb3⟩
  have hB3 := bstep hB1 hb3
  go_wp2_with fail
  refine (pathNo_any n a b _ l _ (HP.out.below hB3) hbl HV.out).mono ?_
  rintro e w4 ⟨rfl, hb4⟩
  have hB4 := bstep hB3 hb4
  go_wp2_with fail
  refine (rpathNo_any n a b _ l _ (HP.out.below hB4) hbl HV.out).mono ?_
  rintro e w5 ⟨rfl, hb5⟩
  have hB5 := bstep hB4 hb5
  go_wp2_with fail
  refine (equalN_yes _ _ [] [] _ (nil_nats _) (nil_nats _) (by simp) rfl).mono ?_
  rintro e w6 ⟨rfl, hb6⟩
  have hB6 := bstep hB5 hb6
  go_wp2_with fail
  refine (rvalid_any n _ l _ (HP.out.below hB6) hbl).mono ?_
  rw [HV.out]
  rintro e w7 ⟨rfl, hb7⟩
  have hB7 := bstep hB6 hb7
  go_wp2
  go_ret
  exact ⟨rfl, hB7⟩

theorem path_both (n : Nat) (a b : Int) (v : Value) (ns : List (Nat × Nat)) (w : World) (hg : Gr w n v ns) : ∃ (c : Int) (l : List Nat), l.length ≤ 1000 ∧
    (∀ W, Below w.heap.size w W → Calls Try.prog 12 #[.int .i64 (n : Int), v, .int .i64 a, .int .i64 b] W fun e w' => ∃ ao cp, e = .returned (.tuple #[.slice ao l.length cp, .int .i64 c]) ∧ Nats w' (.slice ao l.length cp) l ∧ Below W.heap.size W w') ∧
    (∀ W, Below w.heap.size w W → Calls Try.prog 13 #[.int .i64 (n : Int), v, .int .i64 a, .int .i64 b] W fun e w' => ∃ ao cp, e = .returned (.tuple #[.slice ao l.length cp, .int .i64 c]) ∧ Nats w' (.slice ao l.length cp) l ∧ Below W.heap.size W w') := by
  have hcl : (cst ns).length ≤ 140737488355328 := by rw [cst_len]; have := hg.m_le; omega
  by_cases hr : a < 0 ∨ (n : Int) ≤ a ∨ b < 0 ∨ (n : Int) ≤ b
  · refine ⟨2, [], by simp, fun W hW => ?_, fun W hW => ?_⟩
    · refine (pathRange_any n a b v (cst ns) W (hg.below hW).pairs hcl hg.ok (by unfold badNode; simp only [Bool.or_eq_true, decide_eq_true_eq]; omega)).mono ?_
      rintro e w' ⟨rfl, hb⟩
      exact ⟨none, 0, rfl, nil_nats _, hb⟩
    · refine (rpathRange_any n a b v (cst ns) W (hg.below hW).pairs hcl hg.ok hr).mono ?_
      rintro e w' ⟨rfl, hb⟩
      exact ⟨none, 0, rfl, nil_nats _, hb⟩
  · obtain ⟨A, rfl⟩ : ∃ A : Nat, a = A := ⟨a.toNat, by omega⟩
    obtain ⟨B, rfl⟩ : ∃ B : Nat, b = B := ⟨b.toNat, by omega⟩
    by_cases h0 : 0 ≤ distOf ns (fun _ => true) n B A
    · refine ⟨0, wayTo ns (fun _ => true) n B A, by have := wayTo_len (U := fun _ => true) (show B < n by omega) hg.ends A; have := hg.n_le; omega, fun W hW => ?_, fun W hW => ?_⟩
      · refine (path_ok n A B v ns W (hg.below hW) (by omega) (by omega)).mono ?_
        rintro e w' ⟨⟨_, u, rfl, hu⟩ | ⟨h1, _⟩, hb⟩
        · obtain ⟨ao, cp, rfl⟩ := hu.shape
          exact ⟨ao, cp, rfl, hu.sl, hb⟩
        · omega
      · refine (rpath_ok n A B v ns W (hg.below hW) (by omega) (by omega)).mono ?_
        rintro e w' ⟨⟨_, u, rfl, hu⟩ | ⟨h1, _⟩, hb⟩
        · obtain ⟨ao, cp, rfl⟩ := hu.shape
          exact ⟨ao, cp, rfl, hu.sl, hb⟩
        · omega
    · refine ⟨12, [], by simp, fun W hW => ?_, fun W hW => ?_⟩
      · refine (path_ok n A B v ns W (hg.below hW) (by omega) (by omega)).mono ?_
        rintro e w' ⟨⟨h1, _⟩ | ⟨_, rfl⟩, hb⟩
        · omega
        · exact ⟨none, 0, rfl, nil_nats _, hb⟩
      · refine (rpath_ok n A B v ns W (hg.below hW) (by omega) (by omega)).mono ?_
        rintro e w' ⟨⟨h1, _⟩ | ⟨_, rfl⟩, hb⟩
        · omega
        · exact ⟨none, 0, rfl, nil_nats _, hb⟩

set_option maxRecDepth 100000 in
set_option maxHeartbeats 4000000 in
theorem graphBridges_walk (w : World) (n : Int) (wn : (Lit.int .i64 n).wf = true) (v : Value) (l : List (Int × Int)) (hp : Pairs w v l) (bl : l.length * 16 ≤ 140737488351232) (a : Int) (wa : (Lit.int .i64 a).wf = true) (b : Int) (wb : (Lit.int .i64 b).wf = true) :
    Calls Try.prog 3 #[.int .i64 n, v, .int .i64 a, .int .i64 b] w fun e w' => e = .returned (.bool true) ∧ Below w.heap.size w w' := by
  cases hlg : larg n l.length
  · cases hv : vld n l
    · exact bridgesNo_walk w n a b v l hp bl hlg hv
    · obtain ⟨N, ns, rfl, rfl, hg⟩ := gr_of hp hv
      have hm := hg.m_le
      rw [cst_len] at hlg bl
      have HG := Lib.hid hg
      have HL := Lib.hid hlg
      have HV := Lib.hid hv
      have HE := Lib.hid (bridgesOf_eq hg.ends hm)
      obtain ⟨ao, cap, rfl, _⟩ := hg.pairs.open_
      obtain ⟨c, q, hq, hp1, hp2⟩ := path_both N a b _ ns w hg
      have HP1 := Lib.hid hp1
      have HP2 := Lib.hid hp2
      have hrb : (rbridges ns).length ≤ 4000 := by
        unfold rbridges
        have := List.length_filter_le (bridge ns) (List.range ns.length)
        rw [List.length_range] at this
        omega
      have HRB := Lib.hid hrb
      have hcl : (cst ns).length ≤ 140737488355328 := by rw [cst_len]; omega
      have e1 : (c != c) = false := by simp
      clear hlg hv hp1 hp2 hg hp hrb
      go_enter Try.func3, Try.ntmps3
      go_wp2_with fail
      refine (awake_any _).mono ?_
      rintro e w1 ⟨rfl, hB1⟩
      go_wp2_with fail
      refine (large_any N _ ns.length _ (by omega) ⟨_, _, rfl⟩).mono ?_
      rw [HL.out]
      rintro e w2 ⟨rfl, rfl⟩
      go_wp2_with fail
      refine (bridges_ok N _ ns _ (HG.out.below hB1)).mono ?_
      rintro e w3 ⟨⟨u, rfl, hu⟩, hb3⟩
      have hB3 := bstep hB1 hb3
      have HU3 := Lib.hid hu.sl
      clear hu
      go_wp2_with fail
      refine (HP1.out _ hB3).mono ?_
      rintro e w4 ⟨po, pc, rfl, hp4, hb4⟩
      have hB4 := bstep hB3 hb4
      have HU4 := Lib.hid (HU3.out.below hb4)
      have HP4 := Lib.hid hp4
      clear hp4 HU3
      go_wp2_with fail
      refine (HP2.out _ hB4).mono ?_
      rintro e w5 ⟨qo, qc, rfl, hp5, hb5⟩
      have hB5 := bstep hB4 hb5
      have HU5 := Lib.hid (HU4.out.below hb5)
      have HP5 := Lib.hid (HP4.out.below hb5)
      have HQ5 := Lib.hid hp5
      clear hp5 HU4 HP4
      go_wp2_with fail
      refine (equalN_yes _ _ q q _ HP5.out HQ5.out (by omega) rfl).mono ?_
      rintro e w6 ⟨rfl, hb6⟩
      have hB6 := bstep hB5 hb6
      have HU6 := Lib.hid (HU5.out.below hb6)
      clear HU5 HP5 HQ5
      go_wp2_with fail
      refine (rvalid_any N _ (cst ns) _ (HG.out.below hB6).pairs hcl).mono ?_
      rw [HV.out]
      rintro e w7 ⟨rfl, hb7⟩
      have hB7 := bstep hB6 hb7
      have HU7 := Lib.hid (HU6.out.below hb7)
      clear HU6
      go_wp2_with fail
      refine (rbridges_any N _ ns _ (HG.out.below hB7)).mono ?_
      rintro e w8 ⟨u8, rfl, hu8, hb8⟩
      have hB8 := bstep hB7 hb8
      have HU8 := Lib.hid (HU7.out.below hb8)
      have HR8 := Lib.hid hu8.sl
      rw [HE.out] at HU8
      clear HU7 hu8
      go_wp2_with fail
      refine (equalN_yes _ _ (rbridges ns) (rbridges ns) _ HU8.out HR8.out (by have := HRB.out; omega) rfl).mono ?_
      rintro e w9 ⟨rfl, hb9⟩
      have hB9 := bstep hB8 hb9
      go_wp2
      go_ret
      exact ⟨rfl, hB9⟩
  · have HL := Lib.hid hlg
    obtain ⟨ao, cap, rfl, _⟩ := hp
    have hbl : l.length ≤ 140737488355328 := by omega
    clear hlg bl
    go_enter Try.func3, Try.ntmps3
    go_wp2_with fail
    refine (awake_any _).mono ?_
    rintro e w1 ⟨rfl, hB1⟩
    go_wp2_with fail
    refine (large_any n _ l.length _ hbl ⟨_, _, rfl⟩).mono ?_
    rw [HL.out]
    rintro e w2 ⟨rfl, rfl⟩
    go_wp2
    go_ret
    exact ⟨rfl, hB1⟩
end Go.Proofs.Ytcaeemcobgopmaa
