/-
  Law GraphParts: the walk.
-/
import Derived.Test.YtcaeemcobgopmaaLwB
import Derived.Test.YtcaeemcobgopmaaRfE
namespace Go.Proofs.Ytcaeemcobgopmaa
open Go.RowKit
set_option linter.unusedVariables false

theorem partsOf_rows (n : Nat) (ns : List (Nat × Nat)) : (partsOf n ns).length ≤ n ∧ ∀ r ∈ partsOf n ns, r.length ≤ n := by
  refine ⟨partsTo_len (lbl ns) n n, fun r hr => ?_⟩
  rw [← partsTo_all] at hr
  unfold partsTo at hr
  obtain ⟨x, _, rfl⟩ := List.mem_map.1 hr
  exact partTo_len _ _ _
theorem forestOf_len (ns : List (Nat × Nat)) : (forestOf ns).length ≤ ns.length := by
  unfold forestOf
  have := idxs_len (inF ns) true
  rw [inF_len] at this
  exact this

set_option maxRecDepth 100000 in
set_option maxHeartbeats 4000000 in
theorem graphParts_walk (w : World) (n : Int) (wn : (Lit.int .i64 n).wf = true) (v : Value) (l : List (Int × Int)) (hp : Pairs w v l) (bl : l.length * 16 ≤ 140737488351232) :
    Calls Try.prog 4 #[.int .i64 n, v] w fun e w' => e = .returned (.bool true) ∧ Below w.heap.size w w' := by
  have hbl : l.length ≤ 140737488355328 := by omega
  cases hlg : larg n l.length
  · cases hv : vld n l
    · have HL := Lib.hid hlg
      have HV := Lib.hid hv
      have HP := Lib.hid hp
      obtain ⟨ao, cap, rfl, _⟩ := hp
      clear hlg hv bl
      go_enter Try.func4, Try.ntmps4
      go_wp2_with fail
      refine (awake_any _).mono ?_
      rintro e w1 ⟨rfl, hB1⟩
      go_wp2_with fail
      refine (large_any n _ l.length _ hbl ⟨_, _, rfl⟩).mono ?_
      rw [HL.out]
      rintro e w2 ⟨rfl, rfl⟩
      go_wp2_with fail
      refine (partsNo_any n _ l _ (HP.out.below hB1) hbl HV.out).mono ?_
      rintro e w3 ⟨rfl, hb3⟩
      have hB3 := bstep hB1 hb3
      go_wp2_with fail
      refine (forestNo_any n _ l _ (HP.out.below hB3) hbl HV.out).mono ?_
      rintro e w4 ⟨rfl, hb4⟩
      have hB4 := bstep hB3 hb4
      go_wp2_with fail
      refine (rvalid_any n _ l _ (HP.out.below hB4) hbl).mono ?_
      rw [HV.out]
      rintro e w5 ⟨rfl, hb5⟩
      have hB5 := bstep hB4 hb5
      go_wp2_with fail
      refine (valid_any n _ l _ (HP.out.below hB5) hbl).mono ?_
      rw [HV.out]
      rintro e w6 ⟨rfl, hb6⟩
      have hB6 := bstep hB5 hb6
      go_wp2
      go_ret
      exact ⟨rfl, hB6⟩
    · obtain ⟨N, ns, rfl, rfl, hg⟩ := gr_of hp hv
      have hm := hg.m_le
      have hn := hg.n_le
      rw [cst_len] at hlg bl
      have HG := Lib.hid hg
      have HL := Lib.hid hlg
      have HV := Lib.hid hv
      obtain ⟨ao, cap, rfl, _⟩ := hg.pairs.open_
      have HPR := Lib.hid (partsOf_rows N ns)
      have HFL := Lib.hid (forestOf_len ns)
      clear hlg hv hg hp
      go_enter Try.func4, Try.ntmps4
      go_wp2_with fail
      refine (awake_any _).mono ?_
      rintro e w1 ⟨rfl, hB1⟩
      go_wp2_with fail
      refine (large_any N _ ns.length _ (by omega) ⟨_, _, rfl⟩).mono ?_
      rw [HL.out]
      rintro e w2 ⟨rfl, rfl⟩
      go_wp2_with fail
      refine (parts_ok N _ ns _ (HG.out.below hB1)).mono ?_
      rintro e w3 ⟨⟨V, rfl, hV⟩, hb3⟩
      have hB3 := bstep hB1 hb3
      have HV3 := Lib.hid hV.rows
      clear hV
      go_wp2_with fail
      refine (forest_ok N _ ns _ (HG.out.below hB3)).mono ?_
      rintro e w4 ⟨⟨u, rfl, hu⟩, hb4⟩
      have hB4 := bstep hB3 hb4
      have HV4 := Lib.hid (HV3.out.below hb4)
      have HU4 := Lib.hid hu.sl
      clear hu HV3
      go_wp2_with fail
      refine (rvalid_any N _ (cst ns) _ (HG.out.below hB4).pairs hbl).mono ?_
      rw [HV.out]
      rintro e w5 ⟨rfl, hb5⟩
      have hB5 := bstep hB4 hb5
      have HV5 := Lib.hid (HV4.out.below hb5)
      have HU5 := Lib.hid (HU4.out.below hb5)
      clear HV4 HU4
      go_wp2_with fail
      refine (valid_any N _ (cst ns) _ (HG.out.below hB5).pairs hbl).mono ?_
      rw [HV.out]
      rintro e w6 ⟨rfl, hb6⟩
      have hB6 := bstep hB5 hb6
      have HV6 := Lib.hid (HV5.out.below hb6)
      have HU6 := Lib.hid (HU5.out.below hb6)
      clear HV5 HU5
      go_wp2_with fail
      refine (rparts_any N _ ns _ (HG.out.below hB6)).mono ?_
      rintro e w7 ⟨V7, rfl, hV7, hb7⟩
      have hB7 := bstep hB6 hb7
      have HV7 := Lib.hid (HV6.out.below hb7)
      have HU7 := Lib.hid (HU6.out.below hb7)
      have HR7 := Lib.hid hV7.rows
      clear HV6 HU6 hV7
      go_wp2_with fail
      refine (same_yes _ _ (partsOf N ns) _ HV7.out HR7.out (by have := HPR.out.1; omega) (fun r hr => by have := HPR.out.2 r hr; omega)).mono ?_
      rintro e w8 ⟨rfl, hb8⟩
      have hB8 := bstep hB7 hb8
      have HU8 := Lib.hid (HU7.out.below hb8)
      clear HV7 HU7 HR7
      go_wp2_with fail
      refine (rforest_any N _ ns _ (HG.out.below hB8)).mono ?_
      rintro e w9 ⟨u9, rfl, hu9, hb9⟩
      have hB9 := bstep hB8 hb9
      have HU9 := Lib.hid (HU8.out.below hb9)
      have HR9 := Lib.hid hu9.sl
      clear HU8 hu9
      go_wp2_with fail
      refine (equalN_yes _ _ (forestOf ns) (forestOf ns) _ HU9.out HR9.out (by have := HFL.out; omega) rfl).mono ?_
      rintro e w10 ⟨rfl, hb10⟩
      have hB10 := bstep hB9 hb10
      go_wp2
      go_ret
      exact ⟨rfl, hB10⟩
  · have HL := Lib.hid hlg
    obtain ⟨ao, cap, rfl, _⟩ := hp
    clear hlg bl
    go_enter Try.func4, Try.ntmps4
    go_wp2_with fail
    refine (awake_any _).mono ?_
    rintro e w1 ⟨rfl, hB1⟩
    go_wp2_with fail
    refine (large_any n _ l.length _ hbl ⟨_, _, rfl⟩).mono ?_
    rw [HL.out]
    rintro e w2 ⟨rfl, rfl⟩
    go_wp2
    go_ret
    exact ⟨rfl, hB1⟩
end Go.Proofs.Ytcaeemcobgopmaa
