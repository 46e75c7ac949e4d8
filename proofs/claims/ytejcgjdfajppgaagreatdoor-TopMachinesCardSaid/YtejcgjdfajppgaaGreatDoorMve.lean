/-
  verify.isOrder, all, Shop.
-/
import Derived.Test.YtejcgjdfajppgaaGreatDoorMjw
import Derived.Test.YtejcgjdfajppgaaGreatDoorMbd
namespace Go.Proofs.YtejcgjdfajppgaaGreatDoor
section
open Go.RowKit
set_option linter.unusedVariables false
set_option linter.unusedSimpArgs false
attribute [local go_sem ↓] Go.wp_at_zero Go.wp_at_succ

theorem sortN_srt (l : List Nat) : (sortN l).Pairwise (· ≤ ·) := by
  unfold sortN
  have := List.pairwise_mergeSort (le := fun a b : Nat => decide (a ≤ b)) (fun a b c h1 h2 => by simp at *; omega) (fun a b => by simp; omega) l
  exact this.imp (fun h => by simpa using h)
theorem sortN_range {o : List Nat} {n : Nat} (h : o.Perm (List.range n)) : sortN o = List.range n :=
  List.Perm.eq_of_pairwise (le := (· ≤ ·)) (fun a b _ _ h1 h2 => Nat.le_antisymm h1 h2) (sortN_srt o) (List.pairwise_lt_range.imp fun h => Nat.le_of_lt h) ((sortN_perm o).trans h)
theorem ints_getD {w : World} {zo : Option Addr} {zc : Nat} {o : List Nat} (h : Ints w (.slice zo o.length zc) (ntI o)) : ∃ b off, (0 < o.length → zo = some ⟨b, off, none⟩ ∧ b < w.heap.size) ∧ ∀ j, j < o.length → w.cell? ⟨b, off + j, none⟩ = some (.int .i64 ((ntI o).getD j 0)) := by
  obtain ⟨ao', cap', hv, h2⟩ := h
  rw [ntI_len] at hv h2
  cases hv
  by_cases h0 : 0 < o.length
  · obtain ⟨b, off, rfl, hlt, hc⟩ := h2 h0
    refine ⟨b, off, fun _ => ⟨rfl, hlt⟩, fun j hj => ?_⟩
    rw [hc j ((ntI o)[j]'(by rw [ntI_len]; exact hj)) (List.getElem?_eq_getElem (by rw [ntI_len]; exact hj)), List.getD_eq_getElem?_getD, List.getElem?_eq_getElem (by rw [ntI_len]; exact hj)]
    rfl
  · exact ⟨0, 0, fun h => absurd h h0, fun j hj => by omega⟩
set_option maxHeartbeats 1000000 in
set_option maxRecDepth 100000 in
theorem visOrder_any (zo : Option Addr) (zc n : Nat) (o : List Nat) (w : World) (hz : Ints w (.slice zo o.length zc) (ntI o)) (hn : n ≤ 12) (hp : o.Perm (List.range n)) :
    Calls Tryz.prog 28 #[.slice zo o.length zc, .int .i64 (n : Int)] w fun e w' => e = .returned (.bool true) ∧ Below w.heap.size w w' := by
  have hol : o.length = n := by rw [hp.length_eq, List.length_range]
  obtain ⟨w0, hw0⟩ : ∃ w0, w.alloc (.cells #[.slice zo o.length zc] 23) = w0 := ⟨_, rfl⟩
  obtain ⟨B, hB⟩ : ∃ B, w.heap.size = B := ⟨_, rfl⟩
  have hb0 : Below w.heap.size w w0 := by rw [← hw0]; exact below_new _ _
  have BX : BlkIs w0 B 23 #[.slice zo o.length zc] := by rw [← hw0, ← hB]; exact BlkIs.new _ _ _
  have HV := Lib.hid (values_any zo o.length zc w)
  obtain ⟨b, off, hao, hI⟩ := ints_getD hz
  have hlb : ∃ b', b' < w0.heap.size ∧ (0 < o.length → zo = some ⟨b', off, none⟩) ∧ ∀ j, j < o.length → w0.cell? ⟨b', off + j, none⟩ = some (.int .i64 ((ntI o).getD j 0)) := by
    by_cases h0 : 0 < o.length
    · exact ⟨b, Nat.lt_of_lt_of_le (hao h0).2 hb0.size, fun _ => (hao h0).1, fun j hj => (hb0.cell (p := ⟨b, off + j, none⟩) (hao h0).2).trans (hI j hj)⟩
    · exact ⟨B, BX.lt, fun h => absurd h h0, fun j hj => by omega⟩
  obtain ⟨b', hb', hao', hI'⟩ := hlb
  have HS := Lib.hid (sorted_any B b' off o.length zc zo hao' o w0 rfl (by omega) BX.lt hb' (BX.cell 0) hI')
  rw [sortN_range hp] at HS
  have HB0 := Lib.hid hb0
  have HOL := Lib.hid hol
  rw [hw0, hB] at HV
  clear hao hI hao' hI' hb' hz hp hb0 BX hw0 hol
  go_enter Tryz.func28, Tryz.ntmps28
  go_wp2_with fail
  refine HV.out.mono ?_
  rintro e w1 ⟨rfl, rfl⟩
  go_wp2_with fail
  refine HS.out.mono ?_
  rintro e w2 ⟨v, rfl, hv, hb2⟩
  obtain ⟨so, sc, rfl⟩ := hv.shape
  have HO := Lib.hid hv
  have HB2 := Lib.hid (bstep HB0.out hb2)
  rw [List.length_range] at HO ⊢
  rw [HOL.out]
  clear hv hb2 HV HS
  go_wp2_with fail
  go_loopw [13] (fun i wr => ∃ k : Nat, k ≤ n ∧ i = .int .i64 (k : Int) ∧ wr = w2) (fun i _ => n - (intOf i).toNat)
  case atStart => exact ⟨0, Nat.zero_le _, rfl, rfl⟩
  case round =>
    obtain ⟨k, hk, rfl, rfl⟩ := hrel
    by_cases hk2 : k < n
    · obtain ⟨G, _, hgo, hgl, _, _⟩ := Own.form HO.out (by rw [List.length_range]; omega)
      rw [List.length_range] at hgo
      cases hgo
      have c0 := HO.out.cell (k := k) (x := k) (by rw [List.getElem?_range hk2])
      unfold natf at c0
      have z0 : (0 : Int) ≤ (k : Int) := Int.natCast_nonneg _
      have z1 : (k : Int) < (n : Int) := by omega
      go_wp2
      go_roundw
      case rel => exact ⟨k + 1, by omega, by go_num, trivial⟩
      case measure => simp [intOf]; omega
    · obtain rfl : k = n := by omega
      go_wp2
      go_ret
      exact ⟨rfl, HB2.out⟩
/-- A function without arguments that says yes. -/
def YesF (f : Value) (w : World) : Prop := ∃ F caps, f = .func (.func F) #[] caps ∧ (∀ (xs : Array Value) (W : World), (callFunc F xs).run Tryz.prog W = .ok (.enter F xs) W) ∧
  ∀ W : World, Below w.heap.size w W → Calls Tryz.prog F caps W fun e w1 => e = .returned (.bool true) ∧ Below W.heap.size W w1
theorem vall1_any (f : Value) (w W : World) (h : YesF f w) (hW : Below w.heap.size w W) : Calls Tryz.prog 49 #[f] W fun e w' => e = .returned (.bool false) ∧ Below W.heap.size W w' := by
  obtain ⟨F, caps, rfl, hF, hC⟩ := h
  have HC := Lib.hid (hC W hW)
  clear hC hW
  go_enter Tryz.func49, Tryz.ntmps49
  go_wp2_with fail
  refine HC.out.mono ?_
  rintro e w9 ⟨rfl, hb⟩
  go_wp2
  go_ret
  exact ⟨rfl, hb⟩
set_option maxHeartbeats 1000000 in
theorem vnone_any (g : Nat) (f1 f2 f3 : Value) (w : World) (hb : BlkIs w g 24 #[f1, f2, f3]) (h1 : YesF f1 w) (h2 : YesF f2 w) (h3 : YesF f3 w) :
    Calls Tryz.prog 70 #[.slice (some ⟨g, 0, none⟩) 3 3, .func (.func 49) #[] #[]] w fun e w' => e = .returned (.int .i64 (-1)) ∧ Below w.heap.size w w' := by
  have HY := Lib.hid (And.intro h1 (And.intro h2 h3))
  have HB := Lib.hid hb
  clear h1 h2 h3 hb
  go_enter Tryz.func70, Tryz.ntmps70
  go_wp2
  go_loopw [5, 8] (fun _ i wr => ∃ k : Nat, k ≤ 3 ∧ i = .int .i64 k ∧ Below w.heap.size w wr) (fun _ i _ => 3 - (intOf i).toNat)
  case atStart => exact ⟨0, Nat.zero_le _, rfl, Below.refl _ _⟩
  case round =>
    obtain ⟨k, hk, rfl, hBr⟩ := hrel
    by_cases hk2 : k < 3
    · obtain ⟨f, hf, hc⟩ : ∃ f, YesF f w ∧ w.cell? ⟨g, k, none⟩ = some f := by
        rcases (by omega : k = 0 ∨ k = 1 ∨ k = 2) with rfl | rfl | rfl
        · exact ⟨f1, HY.out.1, HB.out.cell 0⟩
        · exact ⟨f2, HY.out.2.1, HB.out.cell 1⟩
        · exact ⟨f3, HY.out.2.2, HB.out.cell 2⟩
      have hlg := HB.out.lt
      have c0 := (hBr.cell (p := ⟨g, k, none⟩) hlg).trans hc
      have HK := Lib.hid (vall1_any f w wr hf hBr)
      have z0 : (0 : Int) ≤ (k : Int) := Int.natCast_nonneg _
      have z1 : (k : Int) < 3 := by omega
      clear hf hc
      go_wp2_with fail
      refine HK.out.mono ?_
      rintro e w9 ⟨rfl, hb9⟩
      have hB9 := bstep hBr hb9
      go_wp2
      go_roundw
      case rel => exact ⟨k + 1, by omega, by go_num, hB9⟩
      case measure => simp [intOf]; omega
    · obtain rfl : k = 3 := by omega
      go_wp2
      go_ret
      exact ⟨rfl, hBr⟩
theorem vcontains_any (g : Nat) (f1 f2 f3 : Value) (w : World) (hb : BlkIs w g 24 #[f1, f2, f3]) (h1 : YesF f1 w) (h2 : YesF f2 w) (h3 : YesF f3 w) :
    Calls Tryz.prog 48 #[.slice (some ⟨g, 0, none⟩) 3 3, .func (.func 49) #[] #[]] w fun e w' => e = .returned (.bool false) ∧ Below w.heap.size w w' := by
  have HI := Lib.hid (vnone_any g f1 f2 f3 w hb h1 h2 h3)
  clear hb h1 h2 h3
  go_enter Tryz.func48, Tryz.ntmps48
  go_wp2_with fail
  refine HI.out.mono ?_
  rintro e w9 ⟨rfl, hb1⟩
  go_wp2
  go_ret
  exact ⟨rfl, hb1⟩
theorem vall_any (g : Nat) (f1 f2 f3 : Value) (w : World) (hb : BlkIs w g 24 #[f1, f2, f3]) (h1 : YesF f1 w) (h2 : YesF f2 w) (h3 : YesF f3 w) :
    Calls Tryz.prog 26 #[.slice (some ⟨g, 0, none⟩) 3 3] w fun e w' => e = .returned (.bool true) ∧ Below w.heap.size w w' := by
  have HI := Lib.hid (vcontains_any g f1 f2 f3 w hb h1 h2 h3)
  clear hb h1 h2 h3
  go_enter Tryz.func26, Tryz.ntmps26
  go_wp2_with fail
  refine HI.out.mono ?_
  rintro e w9 ⟨rfl, hb1⟩
  go_wp2
  go_ret
  exact ⟨rfl, hb1⟩
/-- The claim about the shop: what lies in the boxes. -/
structure ShopW (w : World) (ao zo : Option Addr) (cap zc : Nat) (l : List WkD) (o : List Nat) (B1 B2 B3 : Nat) : Prop where
  jobs : Jobs w ao cap l
  ord : OrdA w zo zc (ntI o)
  perm : o.Perm (List.range l.length)
  best : o.Pairwise (JohnR (cutF l) (bendF l))
  b1 : BlkIs w B1 22 #[.slice ao l.length cap]
  b2 : BlkIs w B2 23 #[.slice zo o.length zc]
  b3 : BlkIs w B3 3 #[.int .i64 (lenJ (cutF l) (bendF l) o)]
theorem ShopW.below {w w1 : World} {ao zo : Option Addr} {cap zc : Nat} {l : List WkD} {o : List Nat} {B1 B2 B3 : Nat} (h : ShopW w ao zo cap zc l o B1 B2 B3) (hb : Below w.heap.size w w1) : ShopW w1 ao zo cap zc l o B1 B2 B3 :=
  ⟨h.jobs.below hb, h.ord.below hb, h.perm, h.best, h.b1.below hb, h.b2.below hb, h.b3.below hb⟩
variable {w : World} {ao zo : Option Addr} {cap zc : Nat} {l : List WkD} {o : List Nat} {B1 B2 B3 : Nat}
theorem shop1_any (h : ShopW w ao zo cap zc l o B1 B2 B3) :
    Calls Tryz.prog 27 #[.pointer (some ⟨B2, 0, none⟩), .pointer (some ⟨B1, 0, none⟩)] w fun e w' => e = .returned (.bool true) ∧ Below w.heap.size w w' := by
  have HI := Lib.hid (visOrder_any zo zc l.length o w (ord_ints h.ord.at_ rfl) h.jobs.few h.perm)
  have c1 := h.b1.cell 0
  have c2 := h.b2.cell 0
  have l1 := h.b1.lt
  have l2 := h.b2.lt
  clear h
  go_enter Tryz.func27, Tryz.ntmps27
  go_wp2_with fail
  refine HI.out.mono ?_
  rintro e w9 ⟨rfl, hb1⟩
  have HB := Lib.hid hb1
  clear hb1 c1 c2 l1 l2
  go_wp2
  go_ret
  exact ⟨rfl, HB.out⟩
set_option maxHeartbeats 1000000 in
theorem shop2_any (h : ShopW w ao zo cap zc l o B1 B2 B3) :
    Calls Tryz.prog 29 #[.pointer (some ⟨B1, 0, none⟩), .pointer (some ⟨B2, 0, none⟩), .pointer (some ⟨B3, 0, none⟩)] w fun e w' => e = .returned (.bool true) ∧ Below w.heap.size w w' := by
  have HI := Lib.hid (mlength_any ao zo cap zc l (ntI o) w h.jobs h.ord)
  rw [ntI_len] at HI
  have HW := Lib.hid h
  have c1 := h.b1.cell 0
  have c2 := h.b2.cell 0
  have l1 := h.b1.lt
  have l2 := h.b2.lt
  clear h
  go_enter Tryz.func29, Tryz.ntmps29
  go_wp2_with fail
  refine HI.out.mono ?_
  rintro e w9 ⟨⟨n, er, rfl, hiff, hn⟩, hb1⟩
  obtain rfl : n = lenJ (cutF l) (bendF l) o := hn o rfl HW.out.perm
  obtain rfl : er = 0 := hiff.2 ⟨o, rfl, HW.out.perm⟩
  have HB := Lib.hid hb1
  have c3 := (HW.out.below hb1).b3.cell 0
  have l3 := (HW.out.below hb1).b3.lt
  clear hb1 c1 c2 l1 l2 hiff hn HI HW
  generalize lenJ (cutF l) (bendF l) o = L at *
  go_wp2
  go_ret
  exact ⟨by first | rfl | simp, HB.out⟩
set_option maxHeartbeats 1000000 in
theorem shop3_any (h : ShopW w ao zo cap zc l o B1 B2 B3) :
    Calls Tryz.prog 30 #[.pointer (some ⟨B1, 0, none⟩), .pointer (some ⟨B3, 0, none⟩)] w fun e w' => e = .returned (.bool true) ∧ Below w.heap.size w w' := by
  have HI := Lib.hid (mjohnson_any ao cap l w h.jobs)
  have HW := Lib.hid h
  have c1 := h.b1.cell 0
  have l1 := h.b1.lt
  clear h
  go_enter Tryz.func30, Tryz.ntmps30
  go_wp2_with fail
  refine HI.out.mono ?_
  rintro e w9 ⟨zo2, zc2, o2, rfl, hb1, _, hp2, _⟩
  have hle : lenJ (cutF l) (bendF l) o ≤ lenJ (cutF l) (bendF l) o2 := johnson_best HW.out.best (HW.out.perm.nodup_iff.2 List.nodup_range) (hp2.trans HW.out.perm.symm)
  have HB := Lib.hid hb1
  have c3 := (HW.out.below hb1).b3.cell 0
  have l3 := (HW.out.below hb1).b3.lt
  clear hb1 c1 l1 HI HW hp2
  generalize lenJ (cutF l) (bendF l) o = L at *
  generalize lenJ (cutF l) (bendF l) o2 = L2 at *
  have hge : L2 ≥ L := hle
  go_wp2
  go_ret
  exact ⟨by first | rfl | (simp; omega), HB.out⟩
set_option maxHeartbeats 2000000 in
set_option maxRecDepth 100000 in
theorem vshop_any (hj : Jobs w ao cap l) (hz : OrdA w zo zc (ntI o)) (hp : o.Perm (List.range l.length)) (hb : o.Pairwise (JohnR (cutF l) (bendF l))) :
    Calls Tryz.prog 10 #[.slice ao l.length cap, .slice zo o.length zc, .int .i64 (lenJ (cutF l) (bendF l) o)] w fun e w' => e = .returned (.tuple #[.bool true, .int .i64 0]) ∧ Below w.heap.size w w' := by
  obtain ⟨w1, hw1⟩ : ∃ w1, w.alloc (.cells #[.slice ao l.length cap] 22) = w1 := ⟨_, rfl⟩
  obtain ⟨w2, hw2⟩ : ∃ w2, w1.alloc (.cells #[.slice zo o.length zc] 23) = w2 := ⟨_, rfl⟩
  obtain ⟨w3, hw3⟩ : ∃ w3, w2.alloc (.cells #[.int .i64 (lenJ (cutF l) (bendF l) o)] 3) = w3 := ⟨_, rfl⟩
  obtain ⟨g1, hg1⟩ : ∃ g, w.heap.size = g := ⟨_, rfl⟩
  obtain ⟨g2, hg2⟩ : ∃ g, w1.heap.size = g := ⟨_, rfl⟩
  obtain ⟨g3, hg3⟩ : ∃ g, w2.heap.size = g := ⟨_, rfl⟩
  have b1 : Below w.heap.size w w1 := by rw [← hw1]; exact below_new _ _
  have b2 : Below w1.heap.size w1 w2 := by rw [← hw2]; exact below_new _ _
  have b3 : Below w2.heap.size w2 w3 := by rw [← hw3]; exact below_new _ _
  have B1 : BlkIs w1 g1 22 #[.slice ao l.length cap] := by rw [← hw1, ← hg1]; exact BlkIs.new _ _ _
  have B2 : BlkIs w2 g2 23 #[.slice zo o.length zc] := by rw [← hw2, ← hg2]; exact BlkIs.new _ _ _
  have B3 : BlkIs w3 g3 3 #[.int .i64 (lenJ (cutF l) (bendF l) o)] := by rw [← hw3, ← hg3]; exact BlkIs.new _ _ _
  have hB3 : Below w.heap.size w w3 := bstep (bstep b1 b2) b3
  have HB3 := Lib.hid hB3
  have HW := Lib.hid (show ShopW w3 ao zo cap zc l o g1 g2 g3 from ⟨hj.below hB3, hz.below hB3, hp, hb, (B1.below b2).below b3, B2.below b3, B3⟩)
  have HV := Lib.hid HW.out.jobs.valid
  have c1 := HW.out.b1.cell 0
  have l1 := HW.out.b1.lt
  clear b1 b2 b3 B1 B2 B3 hB3 hj hz hp hb
  generalize lenJ (cutF l) (bendF l) o = L at *
  go_enter Tryz.func10, Tryz.ntmps10
  go_wp2_with fail
  refine HV.out.mono ?_
  rintro e w4 ⟨rfl, hb4⟩
  have HB4 := Lib.hid (bstep HB3.out hb4)
  have HW4 := Lib.hid (HW.out.below hb4)
  clear hb4 HV c1 l1 hw1 hw2 hw3 HW HB3
  have b5 := below_new w4 (.cells #[.func (.func 27) #[] #[.pointer (some ⟨g2, 0, none⟩), .pointer (some ⟨g1, 0, none⟩)], .func (.func 29) #[] #[.pointer (some ⟨g1, 0, none⟩), .pointer (some ⟨g2, 0, none⟩), .pointer (some ⟨g3, 0, none⟩)], .func (.func 30) #[] #[.pointer (some ⟨g1, 0, none⟩), .pointer (some ⟨g3, 0, none⟩)]] 24)
  have HB5 := Lib.hid (bstep HB4.out b5)
  have HA := Lib.hid (vall_any w4.heap.size _ _ _ _ (BlkIs.new w4 #[.func (.func 27) #[] #[.pointer (some ⟨g2, 0, none⟩), .pointer (some ⟨g1, 0, none⟩)], .func (.func 29) #[] #[.pointer (some ⟨g1, 0, none⟩), .pointer (some ⟨g2, 0, none⟩), .pointer (some ⟨g3, 0, none⟩)], .func (.func 30) #[] #[.pointer (some ⟨g1, 0, none⟩), .pointer (some ⟨g3, 0, none⟩)]] 24)
    ⟨_, _, rfl, fun xs W => by go_simp, fun W hW => shop1_any ((HW4.out.below b5).below hW)⟩
    ⟨_, _, rfl, fun xs W => by go_simp, fun W hW => shop2_any ((HW4.out.below b5).below hW)⟩
    ⟨_, _, rfl, fun xs W => by go_simp, fun W hW => shop3_any ((HW4.out.below b5).below hW)⟩)
  clear b5
  go_wp2_with fail
  refine HA.out.mono ?_
  rintro e w6 ⟨rfl, hb6⟩
  have HB6 := Lib.hid (bstep HB5.out hb6)
  clear hb6 HA
  go_wp2
  go_ret2
  exact ⟨rfl, HB6.out⟩
end
end Go.Proofs.YtejcgjdfajppgaaGreatDoor
