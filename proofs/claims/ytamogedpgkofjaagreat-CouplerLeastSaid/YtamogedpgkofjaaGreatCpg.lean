/-
  Couplers: begin.
-/
import Derived.Test.YtamogedpgkofjaaGreatCpr
namespace Go.Proofs.YtamogedpgkofjaaGreat
section
open Go.RowKit
set_option linter.unusedVariables false
set_option linter.unusedSimpArgs false
attribute [local go_sem ↓] Go.wp_at_zero Go.wp_at_succ

theorem cbegin_bad (v vr xv : Value) (X : List Int) (l : List BarD) (rs : List RunD) (w : World) (hA : SqA w v vr l rs) (hx : Ints w xv X) (hlx : X.length ≤ 140737488355328) (c : Int) (hc : sqC l rs X = c) (h0 : c ≠ 0) :
    Calls Tryz.prog 39 #[v, vr, xv] w fun e w' => e = .returned (.tuple #[.agg #[.int .i64 0, .slice none 0 0], .int .i64 c]) ∧ Below w.heap.size w w' := by
  have HE : Hid (∀ W, Below w.heap.size w W → Calls Tryz.prog 11 #[v, vr, xv] W fun e w' => e = .returned (.tuple #[.slice none 0 0, .int .i64 c]) ∧ Below W.heap.size W w') := by
    intro W hW
    have hB := hA.below hW
    cases hok : laidOk l rs with
    | false =>
      unfold sqC allE at hc
      rw [hok] at hc
      obtain rfl : c = 1 := by simpa using hc.symm
      refine (edgesI_bad v vr xv l rs W hB.hp hB.hr hA.hl hA.hlr hA.hf hok).mono ?_
      rintro e w' ⟨o, rfl, _, h2, h3⟩
      rw [h2 h0]
      exact ⟨rfl, h3⟩
    | true =>
      unfold sqC allE at hc
      rw [hok] at hc
      obtain rfl : edgE (lgsOf l rs).length X = c := by simpa using hc
      refine (edgesI_good v vr xv X l rs W hB.hp hB.hr (Sl.below hx hW) hA.hl hA.hlr hlx hA.hf hok).mono ?_
      rintro e w' ⟨o, rfl, _, h2, h3⟩
      rw [h2 h0]
      exact ⟨rfl, h3⟩
  have hb : (c != 0) = true := bne_yes h0
  clear hA hx hc
  go_enter Tryz.func39, Tryz.ntmps39
  go_wp2_with fail
  refine (HE.out _ (below_new _ _)).mono ?_
  rintro e w1 ⟨rfl, hb1⟩
  have HB1 := Lib.hid (bstep (below_new w (.cells #[.int .i64 0, .slice none 0 0] 75)) hb1 : Below w.heap.size w w1)
  have BG := Lib.hid ((BlkIs.new w #[.int .i64 0, .slice none 0 0] 75).below hb1)
  have c0 := BG.out.cell 0
  have c1 := BG.out.cell 1
  have f0 := BG.out.free 0
  have f1 := BG.out.free 1
  have l0 := BG.out.lt
  clear hb1 HE
  go_wp2
  have B2 := (BG.out.set 0 (.int .i64 0)).set 1 (.slice none 0 0)
  have HB2 : Below w.heap.size w ((w1.setCell ⟨w.heap.size, 0, none⟩ (.int .i64 0)).setCell ⟨w.heap.size, 1, none⟩ (.slice none 0 0)) := (HB1.out.setCell (Nat.le_refl _) _).setCell (Nat.le_refl _) _
  generalize (w1.setCell ⟨w.heap.size, 0, none⟩ (.int .i64 0)).setCell ⟨w.heap.size, 1, none⟩ (.slice none 0 0) = W2 at *
  have k0 := B2.cell 0
  have k1 := B2.cell 1
  simp at k0 k1
  exact bodyPost_ret (v := .tuple #[.agg #[.int .i64 0, .slice none 0 0], .int .i64 c]) (by simp [results, Tryz.results39, go_sem, k0, k1]) rfl ⟨rfl, HB2⟩
theorem cbegin_good (v vr xv : Value) (X : List Int) (l : List BarD) (rs : List RunD) (w : World) (hA : SqA w v vr l rs) (hx : Ints w xv X) (hlx : X.length ≤ 140737488355328) (hc : sqC l rs X = 0) :
    Calls Tryz.prog 39 #[v, vr, xv] w fun e w' => ∃ o, e = .returned (.tuple #[.agg #[.int .i64 ((lgsOf l rs).length : Int), o], .int .i64 0]) ∧ Dg w' (lgsOf l rs).length o (sqEs l rs X) ∧ Below w.heap.size w w' := by
  obtain ⟨hok, he⟩ := sqC_zero hc
  have h14 := hA.h14 hok
  have HE := Lib.hid (fun W (hW : Below w.heap.size w W) => edgesI_good v vr xv X l rs W (hA.hp.below hW) (hA.hr.below hW) (Sl.below hx hW) hA.hl hA.hlr hlx hA.hf hok)
  rw [he] at HE
  have HC := Lib.hid (fun W (hW : Below w.heap.size w W) => count_good v vr l rs W (hA.hp.below hW) (hA.hr.below hW) hA.hl hA.hlr hA.hf hok)
  have hcn : (cumN rs : Int) = ((lgsOf l rs).length : Int) := by rw [lgsOf_len]
  rw [hcn] at HC
  have hEl : (edgL (lgsOf l rs) (szsOf l rs) X (lgsOf l rs).length (lgsOf l rs).length).length ≤ 196 := Nat.le_trans (edgL_len _ _ _ _ _) (Nat.mul_le_mul h14 h14)
  have HD := Lib.hid (fun W B o (h : OwnPr W B o (edgL (lgsOf l rs) (szsOf l rs) X (lgsOf l rs).length (lgsOf l rs).length)) => dg_edges h h14)
  unfold sqEs
  generalize edN (lgsOf l rs) (szsOf l rs) X (lgsOf l rs).length = es at *
  generalize edgL (lgsOf l rs) (szsOf l rs) X (lgsOf l rs).length (lgsOf l rs).length = E at *
  generalize (lgsOf l rs).length = n at *
  have k1 : decide ((1000 : Int) < (E.length : Int)) = false := dec_no (by omega)
  have k2 : decide (1000 < E.length) = false := dec_no (by omega)
  clear hA hx hc hok he hcn
  go_enter Tryz.func39, Tryz.ntmps39
  go_wp2_with fail
  refine (HE.out _ (below_new _ _)).mono ?_
  rintro e w1 ⟨o, rfl, h1, _, hb1⟩
  have HO := Lib.hid (h1 rfl)
  have HB1 := Lib.hid (bstep (below_new w (.cells #[.int .i64 0, .slice none 0 0] 75)) hb1 : Below w.heap.size w w1)
  have BG := Lib.hid ((BlkIs.new w #[.int .i64 0, .slice none 0 0] 75).below hb1)
  obtain ⟨ao, cap, rfl⟩ := (h1 rfl).shape
  have hlt : w.heap.size + 1 ≤ w1.heap.size := by have := hb1.size; simpa using this
  clear hb1 HE h1
  generalize E.length = m at *
  go_wp2_with fail
  refine (HC.out _ HB1.out).mono ?_
  rintro e w2 ⟨rfl, hb2⟩
  have HB2 := Lib.hid (bstep HB1.out hb2)
  have BG2 := Lib.hid (BG.out.below hb2)
  have HO2 := Lib.hid (OwnN.below HO.out hb2)
  have c0 := BG2.out.cell 0
  have c1 := BG2.out.cell 1
  have f0 := BG2.out.free 0
  have f1 := BG2.out.free 1
  have l0 := BG2.out.lt
  clear hb2 HB1 BG HO
  go_wp2
  have B2 := (BG2.out.set 0 (.int .i64 (n : Int))).set 1 (.slice ao m cap)
  have HB3 : Below w.heap.size w ((w2.setCell ⟨w.heap.size, 0, none⟩ (.int .i64 (n : Int))).setCell ⟨w.heap.size, 1, none⟩ (.slice ao m cap)) := (HB2.out.setCell (Nat.le_refl _) _).setCell (Nat.le_refl _) _
  have HO3 : OwnPr ((w2.setCell ⟨w.heap.size, 0, none⟩ (.int .i64 (n : Int))).setCell ⟨w.heap.size, 1, none⟩ (.slice ao m cap)) (w.alloc (.cells #[.int .i64 0, .slice none 0 0] 75)).heap.size (.slice ao m cap) E := OwnN.far (OwnN.far HO2.out (by simp)) (by simp)
  generalize (w2.setCell ⟨w.heap.size, 0, none⟩ (.int .i64 (n : Int))).setCell ⟨w.heap.size, 1, none⟩ (.slice ao m cap) = W2 at *
  have k0 := B2.cell 0
  have k3 := B2.cell 1
  simp at k0 k3
  exact bodyPost_ret (v := .tuple #[.agg #[.int .i64 (n : Int), .slice ao m cap], .int .i64 0]) (by simp [results, Tryz.results39, go_sem, k0, k3]) rfl ⟨_, rfl, HD.out _ _ _ HO3, HB3⟩
end
end Go.Proofs.YtamogedpgkofjaaGreat
