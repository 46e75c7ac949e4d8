/-
  Points that are near; a path turned and moved.
-/
import Derived.Test.YtpidjgljeooblaaLdG
namespace Go.Proofs.Ytpidjgljeooblaa
open Go.RowKit
set_option linter.unusedVariables false
set_option linter.unusedSimpArgs false

theorem inB_no {n : Int} (h : n < -1048576 ∨ 1048576 < n) : inB n = false := dec_no (by omega)
theorem inB_yes {n : Int} (h : ¬ (n < -1048576 ∨ 1048576 < n)) : inB n = true := dec_yes (by omega)

theorem allN_no {α : Type} {l : List α} {k : Nat} {x : α} {p : α → Bool} (h : l[k]? = some x) (hx : p x = false) : l.all p = false := by
  rw [List.all_eq_false]; exact ⟨x, List.mem_of_getElem? h, by rw [hx]; simp⟩

set_option maxRecDepth 100000 in
set_option maxHeartbeats 2000000 in
theorem fnear_any (v : Value) (l : List Pt) (w : World) (hp : Pts w v l) (hl : l.length ≤ 1099511627776) :
    Calls Try.prog 106 #[v] w fun e w' => e = .returned (.bool (l.all (ptIn 1048576))) ∧ Below w.heap.size w w' := by
  obtain ⟨ao, cap, rfl⟩ := hp.at_
  have HP := Lib.hid hp
  clear hp
  go_enter Try.func106, Try.ntmps106
  go_wp2
  go_loopw [9] (fun i wr => ∃ k : Nat, k ≤ l.length ∧ i = .int .i64 k ∧ Below w.heap.size w wr ∧ Hid (∀ (j : Nat) y, j < k → l[j]? = some y → ptIn 1048576 y = true)) (fun i _ => l.length - (intOf i).toNat)
  case atStart => exact ⟨0, Nat.zero_le _, rfl, Below.refl _ _, fun j _ hj => by omega⟩
  case round =>
    obtain ⟨k, hk, rfl, hBr, hno⟩ := hrel
    by_cases hk2 : k < l.length
    · obtain ⟨p, hy⟩ : ∃ y, l[k]? = some y := ⟨_, List.getElem?_eq_getElem hk2⟩
      obtain ⟨b, off, rfl, hbl, c0, c1, c2⟩ := pts_get (HP.out.below hBr) hy
      have HY := Lib.hid hy
      have HE := Lib.hid (near_eq p)
      have HB := Lib.hid hBr
      have i0 : ∀ W, (Instr.index 128 (.agg #[.int .i64 p.x, .int .i64 p.y, .int .i64 p.z]) (.int .i64 0)).run Try.prog W = .ok (.int .i64 p.x) W := fun _ => by kernel_rfl
      have i1 : ∀ W, (Instr.index 128 (.agg #[.int .i64 p.x, .int .i64 p.y, .int .i64 p.z]) (.int .i64 1)).run Try.prog W = .ok (.int .i64 p.y) W := fun _ => by kernel_rfl
      have i2 : ∀ W, (Instr.index 128 (.agg #[.int .i64 p.x, .int .i64 p.y, .int .i64 p.z]) (.int .i64 2)).run Try.prog W = .ok (.int .i64 p.z) W := fun _ => by kernel_rfl
      clear hy hBr
      go_wp2
      obtain ⟨wo, rfl⟩ : ∃ wo : World, wo = wr := ⟨_, rfl⟩
      go_loop [20] (fun j => ∃ m : Nat, m ≤ 3 ∧ j = .int .i64 m ∧ Hid ((1 ≤ m → inB p.x = true) ∧ (2 ≤ m → inB p.y = true) ∧ (3 ≤ m → inB p.z = true))) (fun j => 3 - (intOf j).toNat)
      case atStart => exact ⟨0, by omega, rfl, ⟨fun h => by omega, fun h => by omega, fun h => by omega⟩⟩
      case round =>
        obtain ⟨m, hm, rfl, HM⟩ := hrel
        obtain rfl | rfl | rfl | rfl : m = 0 ∨ m = 1 ∨ m = 2 ∨ m = 3 := by omega
        · by_cases hb : p.x < -1048576 ∨ 1048576 < p.x
          · have HF := Lib.hid (allN_no HY.out (show ptIn 1048576 p = false by rw [HE.out, inB_no (n := p.x) hb]; simp))
            rcases hb with hb | hb
            · go_wp2
              go_ret
              exact ⟨ret_bool HF.out.symm, HB.out.alloc HB.out.size _⟩
            · have hb' : ¬ p.x < -1048576 := by omega
              go_wp2
              go_ret
              exact ⟨ret_bool HF.out.symm, HB.out.alloc HB.out.size _⟩
          · have HT := Lib.hid (inB_yes (n := p.x) hb)
            have hb1 : ¬ p.x < -1048576 := by omega
            have hb2 : ¬ 1048576 < p.x := by omega
            clear hb
            go_wp2
            go_round
            case rel => exact ⟨1, by omega, by go_num, ⟨fun _ => HT.out, fun h => by omega, fun h => by omega⟩⟩
            case measure => simp [intOf]
        · by_cases hb : p.y < -1048576 ∨ 1048576 < p.y
          · have HF := Lib.hid (allN_no HY.out (show ptIn 1048576 p = false by rw [HE.out, inB_no (n := p.y) hb]; simp))
            rcases hb with hb | hb
            · go_wp2
              go_ret
              exact ⟨ret_bool HF.out.symm, HB.out.alloc HB.out.size _⟩
            · have hb' : ¬ p.y < -1048576 := by omega
              go_wp2
              go_ret
              exact ⟨ret_bool HF.out.symm, HB.out.alloc HB.out.size _⟩
          · have HT := Lib.hid (inB_yes (n := p.y) hb)
            have hb1 : ¬ p.y < -1048576 := by omega
            have hb2 : ¬ 1048576 < p.y := by omega
            clear hb
            go_wp2
            go_round
            case rel => exact ⟨2, by omega, by go_num, ⟨fun _ => HM.out.1 (by omega), fun h => HT.out, fun h => by omega⟩⟩
            case measure => simp [intOf]
        · by_cases hb : p.z < -1048576 ∨ 1048576 < p.z
          · have HF := Lib.hid (allN_no HY.out (show ptIn 1048576 p = false by rw [HE.out, inB_no (n := p.z) hb]; simp))
            rcases hb with hb | hb
            · go_wp2
              go_ret
              exact ⟨ret_bool HF.out.symm, HB.out.alloc HB.out.size _⟩
            · have hb' : ¬ p.z < -1048576 := by omega
              go_wp2
              go_ret
              exact ⟨ret_bool HF.out.symm, HB.out.alloc HB.out.size _⟩
          · have HT := Lib.hid (inB_yes (n := p.z) hb)
            have hb1 : ¬ p.z < -1048576 := by omega
            have hb2 : ¬ 1048576 < p.z := by omega
            clear hb
            go_wp2
            go_round
            case rel => exact ⟨3, by omega, by go_num, ⟨fun _ => HM.out.1 (by omega), fun h => HM.out.2.1 (by omega), fun h => HT.out⟩⟩
            case measure => simp [intOf]
        · have HT := Lib.hid (show ptIn 1048576 p = true by rw [HE.out, HM.out.1 (by omega), HM.out.2.1 (by omega), HM.out.2.2 (by omega)]; rfl)
          go_wp2
          go_roundw
          case rel => exact ⟨k + 1, by omega, by go_num, HB.out.alloc HB.out.size _, fun j z hj hz => by
            by_cases e : j = k
            · subst e; rw [HY.out] at hz; cases hz; exact HT.out
            · exact hno.out j z (by omega) hz⟩
          case measure => simp [intOf]; omega
    · go_wp2
      go_ret
      exact ⟨ret_bool (by
        rw [eq_comm, List.all_eq_true]
        intro x hx
        obtain ⟨j, hj, rfl⟩ := List.getElem_of_mem hx
        exact hno.out j _ (by omega) (List.getElem?_eq_getElem hj)), hBr⟩

def OwnPts (w : World) (base : Nat) (v : Value) (l : List Pt) : Prop := OwnN w base 31 3 ptCells v l

theorem turn_axes {x y : Int} (h : turnB x y = true) : axB x = true ∧ axB y = true := by
  unfold turnB at h; rw [decide_eq_true_eq] at h
  exact ⟨dec_yes h.1.1, dec_yes h.1.2⟩

theorem snoc_map {α β : Type} (f : α → β) {l : List α} {k : Nat} {x : α} (h : l[k]? = some x) : (l.take (k + 1)).map f = (l.take k).map f ++ [f x] := by
  have hk := (List.getElem?_eq_some_iff.1 h).1
  rw [List.take_succ_eq_append_getElem hk, List.map_append, (List.getElem?_eq_some_iff.1 h).2]
  rfl

set_option maxRecDepth 100000 in
set_option maxHeartbeats 2000000 in
theorem fpath_any (x y : Int) (at_ : Pt) (v : Value) (l : List Pt) (w : World) (hp : Pts w v l) (hl : l.length ≤ 1000) (ht : turnB x y = true) (ha : PtIn 1048576 at_) (hn : l.all (ptIn 1048576) = true) :
    Calls Try.prog 92 #[.agg #[.int .i64 x, .int .i64 y], ptv at_, v] w fun e w' => ∃ o, e = .returned (.tuple #[o, .int .i64 0]) ∧ Hid (OwnPts w' w.heap.size o (l.map fun p => padd at_ (img x y p))) ∧ Below w.heap.size w w' := by
  obtain ⟨hx, hy⟩ := turn_axes ht
  obtain ⟨ao, cap, rfl⟩ := hp.at_
  have HP := Lib.hid hp
  have HT := Lib.hid (fun W => turn_any x y W)
  simp only [ht] at HT
  have HN1 : Hid (∀ (ov : Value) (W : World), Pts W ov [at_] → Calls Try.prog 106 #[ov] W fun e w' => e = .returned (.bool true) ∧ Below W.heap.size W w') := fun ov W h => by
    have := fnear_any ov [at_] W h (by simp)
    rw [show [at_].all (ptIn 1048576) = true by simp [ptIn_iff.2 ha]] at this
    exact this
  have HN2 : Hid (∀ (W : World), Below w.heap.size w W → Calls Try.prog 106 #[.slice ao l.length cap] W fun e w' => e = .returned (.bool true) ∧ Below W.heap.size W w') := fun W h => by
    have := fnear_any (.slice ao l.length cap) l W (HP.out.below h) (by omega)
    rw [hn] at this
    exact this
  have HC : Hid (∀ p ∈ l, ∀ W, Calls Try.prog 107 #[.agg #[.int .i64 x, .int .i64 y], ptv at_, ptv p] W fun e w' => e = .returned (ptv (padd at_ (img x y p))) ∧ Below W.heap.size W w') := fun p hpl W =>
    placed_any x y at_ p W hx hy (ptIn_iff.1 (List.all_eq_true.1 hn p hpl)) (ha.mono (by omega))
  clear hp hn ht hx hy ha
  generalize hf : (fun p => padd at_ (img x y p)) = f at *
  have HF : Hid (∀ p, padd at_ (img x y p) = f p) := fun p => by rw [← hf]
  clear hf
  go_enter Try.func92, Try.ntmps92
  go_wp2_with fail
  refine (HT.out _).mono ?_
  rintro e w1 ⟨rfl, hb1⟩
  have HB1 := Lib.hid (bstep (by go_grown) hb1 : Below w.heap.size w w1)
  have BT1 : Hid (BlkIs w1 w.heap.size 58 #[.int .i64 x, .int .i64 y]) := ((BlkIs.new w _ _).alloc _).below hb1
  have BA1 : Hid (BlkIs w1 (w.heap.size + 1) 31 #[.int .i64 at_.x, .int .i64 at_.y, .int .i64 at_.z]) := (BlkIs.new1 w _ _ _).below hb1
  have e3 := BA1.out.cell 0
  have e4 := BA1.out.cell 1
  have e5 := BA1.out.cell 2
  have hz1 : w.heap.size + 1 < w1.heap.size := BA1.out.lt
  clear hb1
  go_wp2_with fail
  refine (HN1.out _ _ (OwnN.fl pt_len (own_lit w1 31 3 ptCells [at_] _ 1 0 (Nat.zero_le _) rfl rfl pt_len (by simp)))).mono ?_
  rintro e w2 ⟨rfl, hb2⟩
  have HB2 := Lib.hid (bstep (HB1.out.alloc HB1.out.size _) hb2)
  have BT2 := Lib.hid ((BT1.out.alloc _).below hb2)
  have BA2 := Lib.hid ((BA1.out.alloc _).below hb2)
  clear hb2 e3 e4 e5 hz1
  go_wp2_with fail
  refine (HN2.out _ HB2.out).mono ?_
  rintro e w3 ⟨rfl, hb3⟩
  have HB3 := Lib.hid (bstep HB2.out hb3)
  have BT := Lib.hid (BT2.out.below hb3)
  have BA := Lib.hid (BA2.out.below hb3)
  clear hb3 HB1 HB2 HN1 HN2 HT BT1 BA1 BT2 BA2
  go_wp2
  go_loopw [8, 31] (fun o i wr => ∃ k : Nat, k ≤ l.length ∧ i = .int .i64 k ∧ Below w3.heap.size w3 wr ∧ OwnPts wr w3.heap.size o ((l.take k).map f)) (fun _ i _ => l.length - (intOf i).toNat)
  case atStart => exact ⟨0, Nat.zero_le _, rfl, Below.refl _ _, OwnN.nil _ _ _ _ _⟩
  case round =>
    obtain ⟨k, hk, rfl, hBr, hown⟩ := hrel
    by_cases hk2 : k < l.length
    · obtain ⟨p, hy⟩ : ∃ y, l[k]? = some y := ⟨_, List.getElem?_eq_getElem hk2⟩
      obtain ⟨b, off, rfl, hbl, c0, c1, c2⟩ := pts_get (HP.out.below (bstep HB3.out hBr)) hy
      have BTr := BT.out.below hBr
      have BAr := BA.out.below hBr
      have d1 := BTr.cell 0
      have d2 := BTr.cell 1
      have d3 := BAr.cell 0
      have d4 := BAr.cell 1
      have d5 := BAr.cell 2
      have hzr : w.heap.size + 1 < wr.heap.size := BAr.lt
      have hzr0 : w.heap.size < wr.heap.size := BTr.lt
      clear BTr BAr
      have HK := Lib.hid (fun W => HC.out p (List.mem_of_getElem? hy) W)
      simp only [HF.out] at HK
      have HM := Lib.hid (snoc_map f hy)
      have HB := Lib.hid hBr
      have HO := Lib.hid hown
      have hl2 : ((l.take k).map f).length + 1 ≤ 1099511627776 := by simp; omega
      have hu : wr.heap.size ≤ wr.heap.size := Nat.le_refl _
      clear hy hBr hown
      go_wp2_with fail
      refine (HK.out _).mono ?_
      rintro e w8 ⟨rfl, hb8⟩
      have HB8 := Lib.hid (bstep (HB.out.alloc HB.out.size _) hb8)
      have HO8 := Lib.hid ((HO.out.alloc _).below hb8)
      have hbase : w3.heap.size ≤ w8.heap.size := HB8.out.size
      clear hb8 d1 d2 d3 d4 d5 c0 c1 c2
      go_wp2_with (at_builtin; refine wpList_pushN w8 rfl _ _ 82 rfl 31 3 24 elemPt w3.heap.size ptCells _ _ (f p) _ rfl rfl (pt_one _) HO8.out rfl rfl hl2 (by omega) hbase ?_; intro v' w' hown' hg' hat'; have HO9 := Lib.hid hown'; have HB9 := Lib.hid (HB8.out.grown hg' HB8.out.size (fun j hj => (HO8.out.lt j hj).1)); clear hown' hg' hat')
      go_roundw
      case rel => exact ⟨k + 1, by omega, by go_num, HB9.out, by rw [HM.out]; exact HO9.out⟩
      case measure => simp [intOf]; omega
    · obtain rfl : k = l.length := by omega
      rw [List.take_length] at hown
      have HO := Lib.hid hown
      have HB := Lib.hid (bstep HB3.out hBr)
      have Z := HB3.out.size
      clear hown hBr
      go_wp2
      go_ret2
      exact ⟨_, rfl, HO.out.mono Z, HB.out⟩
end Go.Proofs.Ytpidjgljeooblaa
