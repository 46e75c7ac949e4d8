/-
  Couplers: the order with couplers.
-/
import Derived.Test.YtamogedpgkofjaaGreatCpo
namespace Go.Proofs.YtamogedpgkofjaaGreat
section
open Go.RowKit
set_option linter.unusedVariables false
set_option linter.unusedSimpArgs false
attribute [local go_sem ↓] Go.wp_at_zero Go.wp_at_succ

def ordR (n : Nat) (es : List (Nat × Nat)) (l : List Int) : Int × List Nat := match ordC n es l with | some D => (0, D) | none => (23, [])
theorem dg_sub {w : World} {B : Nat} {v : Value} {es : List (Nat × Nat)} {nodes : List Nat} (h : OwnPr w B v (cst (subE es nodes))) (hn : nodes.length ≤ 60) (hes : es.length ≤ 1000) : Dg w nodes.length v (subE es nodes) := by
  have h2 := subE_len es nodes
  exact ⟨prs_of (OwnN.fl (fun _ => rfl) h), hn, by omega, subE_ends es nodes⟩
theorem corder_any (n : Nat) (ev lv : Value) (es : List (Nat × Nat)) (l : List Int) (w : World) (he : NPairs w ev es) (hes : es.length ≤ 1000) (hn : n ≤ 60) (hl : Ints w lv l) (hll : l.length ≤ 1000) :
    Calls Tryz.prog 41 #[.agg #[.int .i64 (n : Int), ev], lv] w (LPost w (ordR n es l)) := by
  obtain ⟨eo, ec, rfl, hop⟩ := he.open_
  have HOT := Lib.hid (fun W (hW : Below w.heap.size w W) => cothers_any n _ lv es l W (he.below hW) hes hn (Sl.below hl hW) hll)
  have hol := othN_len n l
  have HDG := Lib.hid (fun W B v (h : OwnPr W B v (cst (subE es (othN n l)))) => dg_sub h (by omega) hes)
  clear he hl hop
  go_enter Tryz.func41, Tryz.ntmps41
  go_wp2_with fail
  refine (HOT.out _ (below_new _ _)).mono ?_
  rintro e w1 ⟨nv, sv, rfl, ho, hb1⟩
  obtain ⟨no, nc, rfl⟩ := ho.out.1.shape
  have HB1 := Lib.hid (bstep (below_new w _) hb1)
  have HN1 := Lib.hid ho.out.1
  have HO := Lib.hid (ordTop_ok _ sv _ w1 (HDG.out _ _ _ ho.out.2))
  clear ho hb1 HOT HDG
  go_wp2_with fail
  refine HO.out.mono ?_
  intro e w2 h2
  obtain ⟨u, rfl, h3, h4⟩ := top_lpost h2 HB1.out
  have HU := Lib.hid h3
  have HB2 := Lib.hid h4
  have HN2 := Lib.hid (HN1.out.below (h2.2 : Below w1.heap.size w1 w2))
  clear h2 h3 h4 HO HN1
  cases ho : orderOf (othN n l).length (subE es (othN n l)) with
  | none =>
    have HR : Hid (ordR n es l = (23, [])) := by
      show ordR n es l = (23, [])
      unfold ordR ordC
      rw [ho]; rfl
    have hs : sqOrd 0 (othN n l).length (subE es (othN n l)) = (23, []) := by unfold sqOrd; rw [if_pos rfl, ho]
    rw [hs] at HU ⊢
    clear ho hs
    go_wp2
    go_ret2
    exact lpost_nil HR.out HB2.out
  | some D =>
    have HR : Hid (ordR n es l = (0, namN (othN n l) D)) := by
      show ordR n es l = (0, namN (othN n l) D)
      unfold ordR ordC
      rw [ho]; rfl
    have hs : sqOrd 0 (othN n l).length (subE es (othN n l)) = (0, D) := by unfold sqOrd; rw [if_pos rfl, ho]
    rw [hs] at HU ⊢
    obtain ⟨hDl, hDO⟩ := ordTo_ok _ D ho
    have HNA := Lib.hid (cnamed_any (.slice no (othN n l).length nc) u (othN n l) D w2 HN2.out.sl HU.out.sl (by omega) hDO.lt)
    clear ho hs hDO hDl
    generalize (othN n l).length = ol at *
    obtain ⟨uo, uc, rfl⟩ := HU.out.shape
    go_wp2_with fail
    refine HNA.out.mono ?_
    rintro e w3 ⟨o, rfl, hoo, hb3⟩
    have HOO := Lib.hid hoo.out
    have HB3 := Lib.hid hb3
    clear hoo hb3
    go_wp2
    go_ret2
    rw [HR.out]
    exact ⟨o, rfl, HOO.out.mono HB2.out.size, bstep HB2.out HB3.out⟩
end
end Go.Proofs.YtamogedpgkofjaaGreat
