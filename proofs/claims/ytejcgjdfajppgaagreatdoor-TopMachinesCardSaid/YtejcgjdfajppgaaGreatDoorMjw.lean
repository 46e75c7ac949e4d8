/-
  The walk of machine.Johnson.
-/
import Derived.Test.YtejcgjdfajppgaaGreatDoorMjo
namespace Go.Proofs.YtejcgjdfajppgaaGreatDoor
section
open Go.RowKit
set_option linter.unusedVariables false
set_option linter.unusedSimpArgs false
attribute [local go_sem ↓] Go.wp_at_zero Go.wp_at_succ

theorem mjohnson_bad (ao : Option Addr) (cap : Nat) (l : List WkD) (w : World) (hp : Wks w (.slice ao l.length cap) l) (hl : l.length ≤ 12) (hf : FitW l) (hcap : l.length ≤ cap) (hb : wksOk l = false) :
    Calls Tryz.prog 7 #[.slice ao l.length cap] w fun e w' => e = .returned (.tuple #[.slice none 0 0, .int .i64 0, .int .i64 1]) ∧ Below w.heap.size w w' := by
  obtain ⟨w0, hw0⟩ : ∃ w0, w.alloc (.cells #[.slice ao l.length cap] 22) = w0 := ⟨_, rfl⟩
  obtain ⟨B, hB⟩ : ∃ B, w.heap.size = B := ⟨_, rfl⟩
  have hb0 : Below w.heap.size w w0 := by rw [← hw0]; exact below_new _ _
  have BX : BlkIs w0 B 22 #[.slice ao l.length cap] := by rw [← hw0, ← hB]; exact BlkIs.new _ _ _
  have HB0 := Lib.hid hb0
  have HV := Lib.hid (mvalid_any ao cap l w0 (hp.below hb0) hl hf hcap)
  rw [hb] at HV
  have c0 := BX.cell 0
  have l0 := BX.lt
  clear hb0 hp BX hb
  go_enter Tryz.func7, Tryz.ntmps7
  go_wp2_with fail
  refine HV.out.mono ?_
  rintro e w1 ⟨rfl, hb1⟩
  have HB1 := Lib.hid (bstep HB0.out hb1)
  clear hb1 HV c0 l0
  go_wp2
  go_ret3
  exact ⟨rfl, HB1.out⟩
def JPost (l : List WkD) (w : World) (e : Ending) (w' : World) : Prop :=
  ∃ zo zc o, e = .returned (.tuple #[.slice zo o.length zc, .int .i64 (lenJ (cutF l) (bendF l) o), .int .i64 0]) ∧ Below w.heap.size w w' ∧ Own w' w.heap.size 3 intv (.slice zo o.length zc) (ntI o) ∧ o.Perm (List.range l.length) ∧ o.Pairwise (JohnR (cutF l) (bendF l))
theorem fLn_len (l : List WkD) (k : Nat) : (ntI (fL l k)).length ≤ k := by rw [ntI_len]; exact fL_len l k
theorem gLn_len (l : List WkD) (k : Nat) : (ntI (gL l k)).length ≤ k := by rw [ntI_len]; exact gL_len l k
theorem fLn_in {l : List WkD} {n : Nat} {x : Int} (h : x ∈ ntI (fL l n)) : InR n x := by
  unfold ntI at h
  obtain ⟨i, hi, rfl⟩ := List.mem_map.1 h
  exact ⟨i, (fL_mem.1 hi).1, rfl⟩
theorem gLn_in {l : List WkD} {n : Nat} {x : Int} (h : x ∈ ntI (gL l n)) : InR n x := by
  unfold ntI at h
  obtain ⟨i, hi, rfl⟩ := List.mem_map.1 h
  exact ⟨i, (gL_mem.1 hi).1, rfl⟩
set_option maxHeartbeats 4000000 in
set_option maxRecDepth 100000 in
theorem mjohnson_any (ao : Option Addr) (cap : Nat) (l : List WkD) (w : World) (hj : Jobs w ao cap l) :
    Calls Tryz.prog 7 #[.slice ao l.length cap] w (JPost l w) := by
  obtain ⟨w0, hw0⟩ : ∃ w0, w.alloc (.cells #[.slice ao l.length cap] 22) = w0 := ⟨_, rfl⟩
  obtain ⟨B, hB⟩ : ∃ B, w.heap.size = B := ⟨_, rfl⟩
  have hb0 : Below w.heap.size w w0 := by rw [← hw0]; exact below_new _ _
  have BX : BlkIs w0 B 22 #[.slice ao l.length cap] := by rw [← hw0, ← hB]; exact BlkIs.new _ _ _
  have HBX := Lib.hid BX
  have HB0 := Lib.hid hb0
  have HJ := Lib.hid hj
  have hfew := hj.few
  have HV := Lib.hid (hj.below hb0).valid
  have c0 := BX.cell 0
  have l0 := BX.lt
  clear hb0 hj BX
  go_enter Tryz.func7, Tryz.ntmps7
  go_wp2_with fail
  refine HV.out.mono ?_
  rintro e w1 ⟨rfl, hb1⟩
  have HB1 := Lib.hid (bstep HB0.out hb1)
  have HX1 := Lib.hid (HBX.out.below hb1)
  clear hb1 HV c0 l0 HB0 HBX hw0
  have c0 := HX1.out.cell 0
  have l0 := HX1.out.lt
  go_wp2_with fail
  clear c0 l0
  go_loopw [5, 6, 18] (fun u v i wr => ∃ k : Nat, k ≤ l.length ∧ i = .int .i64 (k : Int) ∧ Hid (JW w1 u v (ntI (fL l k)) (ntI (gL l k)) wr)) (fun _ _ i _ => l.length - (intOf i).toNat)
  case atStart => exact ⟨0, Nat.zero_le _, rfl, Lib.hid (JW.start w1)⟩
  case round =>
    obtain ⟨k, hk, rfl, HR⟩ := hrel
    by_cases hk2 : k < l.length
    · obtain ⟨x, hx⟩ : ∃ x, l[k]? = some x := ⟨_, List.getElem?_eq_getElem hk2⟩
      obtain ⟨b, off, rfl, hbl, d0, d1, d2⟩ := wks_get ((HJ.out.below HB1.out).below HR.out.bl).at_ hx
      rw [← cutF_at hx] at d1
      rw [← bendF_at hx] at d2
      obtain ⟨w5, hw5⟩ : ∃ w5, wr.alloc (.cells #[.string x.mark, .int .i64 (cutF l k), .int .i64 (bendF l k)] 27) = w5 := ⟨_, rfl⟩
      obtain ⟨g, hg⟩ : ∃ g, wr.heap.size = g := ⟨_, rfl⟩
      have hb5 : Below wr.heap.size wr w5 := by rw [← hw5]; exact below_new _ _
      have BY : BlkIs w5 g 27 #[.string x.mark, .int .i64 (cutF l k), .int .i64 (bendF l k)] := by rw [← hw5, ← hg]; exact BlkIs.new _ _ _
      have H5 := Lib.hid (HR.out.below hb5)
      have x1 := BY.cell 1
      have x2 := BY.cell 2
      have lx := BY.lt
      have z0 : (0 : Int) ≤ (k : Int) := Int.natCast_nonneg _
      have z1 : (k : Int) < (l.length : Int) := by omega
      have hl1 : (ntI (fL l k)).length + 1 ≤ 1099511627776 := by have := fLn_len l k; omega
      have hl2 : (ntI (gL l k)).length + 1 ≤ 1099511627776 := by have := gLn_len l k; omega
      have hbs := H5.out.bl.size
      clear hx hb5 BY
      cases hq : isF l k with
      | true =>
        have HF := Lib.hid (fL_yes hq)
        have hle : cutF l k ≤ bendF l k := of_decide_eq_true hq
        clear hq
        generalize cutF l k = ck at *
        generalize bendF l k = bk at *
        go_wp2_with (at_builtin; refine wpList_pushO w5 w5.heap.size rfl rfl _ _ 23 rfl 3 8 elemInt w1.heap.size intv _ _ (k : Int) rfl H5.out.f rfl rfl hl1 (by omega) hbs ?_; intro v' w' hown' hg' hat'; have HN := Lib.hid (H5.out.pushF hown' hg' hat'); clear hown' hg' hat')
        go_roundw
        case rel => exact ⟨k + 1, by omega, by go_num, by rw [HF.out.1, HF.out.2, ntI_snoc]; exact HN⟩
        case measure => simp [intOf]; omega
      | false =>
        have HF := Lib.hid (fL_no hq)
        have hle : ¬ cutF l k ≤ bendF l k := of_decide_eq_false hq
        clear hq
        generalize cutF l k = ck at *
        generalize bendF l k = bk at *
        go_wp2_with (at_builtin; refine wpList_pushO w5 w5.heap.size rfl rfl _ _ 23 rfl 3 8 elemInt w1.heap.size intv _ _ (k : Int) rfl H5.out.g rfl rfl hl2 (by omega) hbs ?_; intro v' w' hown' hg' hat'; have HN := Lib.hid (H5.out.pushG hown' hg' hat'); clear hown' hg' hat')
        go_roundw
        case rel => exact ⟨k + 1, by omega, by go_num, by rw [HF.out.1, HF.out.2, ntI_snoc]; exact HN⟩
        case measure => simp [intOf]; omega
    · obtain rfl : k = l.length := by omega
      have HS1 := Lib.hid (sortStable_any 20 #[.pointer (some ⟨B, 0, none⟩)] (fun x y => compZ (cutZ l x) (cutZ l y)) (cutZ l) _ _ w1.heap.size wr HR.out.f (by have := fLn_len l l.length; omega) ⟨fun xs W => by go_simp, fun x y _ _ => compZ_neg _ _, fun x y W hx hy hg => by
        have hBW : Below w1.heap.size w1 W := below_grown HR.out.bl hg HR.out.bl.size (fun g e => (HR.out.f.lt g e).1)
        exact jcut_any B ao cap l x y W ((HJ.out.below HB1.out).below hBW).at_ hfew ((hBW.cell (p := ⟨B, 0, none⟩) HX1.out.lt).trans (HX1.out.cell 0)) (fLn_in hx) (fLn_in hy)⟩)
      go_wp2_with fail
      refine HS1.out.mono ?_
      rintro e w2 ⟨rfl, F, hpF, hoF, hF, hg2⟩
      have H2 := Lib.hid (HR.out.pushF hF hg2 (.inl rfl))
      have HOF := Lib.hid (And.intro hpF hoF)
      clear hpF hoF hF hg2 HS1 HR
      have HS2 := Lib.hid (sortStable_any 22 #[.pointer (some ⟨B, 0, none⟩)] (fun x y => compZ (bendZ l y) (bendZ l x)) (fun x => - bendZ l x) _ _ w1.heap.size w2 H2.out.g (by have := gLn_len l l.length; omega) ⟨fun xs W => by go_simp, fun x y _ _ => by show compZ (bendZ l y) (bendZ l x) < 0 ↔ - bendZ l x < - bendZ l y; rw [compZ_neg]; omega, fun x y W hx hy hg => by
        have hBW : Below w1.heap.size w1 W := below_grown H2.out.bl hg H2.out.bl.size (fun g e => (H2.out.g.lt g e).1)
        exact jbend_any B ao cap l x y W ((HJ.out.below HB1.out).below hBW).at_ hfew ((hBW.cell (p := ⟨B, 0, none⟩) HX1.out.lt).trans (HX1.out.cell 0)) (gLn_in hx) (gLn_in hy)⟩)
      go_wp2_with fail
      refine HS2.out.mono ?_
      rintro e w3 ⟨rfl, G, hpG, hoG, hG, hg3⟩
      have H3 := Lib.hid (H2.out.pushG hG hg3 (.inl rfl))
      have HOG := Lib.hid (And.intro hpG hoG)
      clear hpG hoG hG hg3 HS2 H2
      obtain ⟨oF, hFe, hFp⟩ := ntI_perm HOF.out.1
      obtain ⟨oG, hGe, hGp⟩ := ntI_perm HOG.out.1
      have hlF : F.length ≤ 12 := by have := fLn_len l l.length; rw [HOF.out.1.length_eq]; omega
      have hlG : G.length ≤ 12 := by have := gLn_len l l.length; rw [HOG.out.1.length_eq]; omega
      have HP : Hid ((oF ++ oG).Perm (List.range l.length) ∧ (oF ++ oG).Pairwise (JohnR (cutF l) (bendF l)) ∧ F ++ G = ntI (oF ++ oG)) := Lib.hid ⟨(hFp.append hGp).trans (fg_perm l l.length), by
        have h1 := HOF.out.2
        have h2 := HOG.out.2
        rw [hFe] at h1
        rw [hGe] at h2
        exact john_pairs hFp hGp h1 h2, by rw [ntI_append, ← hFe, ← hGe]⟩
      generalize oF ++ oG = o at *
      clear hFe hFp hGe hGp HOF HOG
      have hbs := H3.out.bl.size
      go_wp2_with (at_builtin; refine wpList_app w3 rfl _ _ 23 rfl 3 8 elemInt w1.heap.size w1.heap.size intv _ _ F G (fun _ => rfl) H3.out.f H3.out.g rfl rfl (by omega) (by omega) hbs ?_; intro v' w4 hown' hg' hat'; rw [HP.out.2.2] at hown'; have hB4 : Below w1.heap.size w1 w4 := below_grown H3.out.bl hg' H3.out.bl.size (fun g e => (H3.out.f.lt g e).1); have HB4 := Lib.hid hB4; have cB := (hB4.cell (p := ⟨B, 0, none⟩) HX1.out.lt).trans (HX1.out.cell 0); have lB : B < w4.heap.size := Nat.lt_of_lt_of_le HX1.out.lt hB4.size; obtain ⟨zo, zc, rfl⟩ := hown'.shape; rw [ntI_len] at hown' ⊢; have HO4 := Lib.hid hown'; clear hown' hg' hat' hB4)
      have hol : o.length = l.length := by rw [HP.out.1.length_eq, List.length_range]
      have HR4 := Lib.hid (mrun_any ao zo cap zc l o w4 ((HJ.out.below HB1.out).below HB4.out).at_ (by have := Own.sl HO4.out; rw [← ntI_len o] at this ⊢; exact this) hfew (by omega) (wks_tm HJ.out.ok) (HP.out.1.nodup_iff.2 List.nodup_range) (fun i hi => List.mem_range.1 (HP.out.1.mem_iff.1 hi)))
      clear hol cB lB H3 hlF hlG hbs
      refine HR4.out.mono ?_
      rintro e w5 ⟨G1, G2, A, A2, rfl, hb5, _⟩
      have HF := Lib.hid (And.intro (bstep (bstep HB1.out HB4.out) hb5) ((HO4.out.below hb5).mono HB1.out.size))
      clear hb5 HR4
      go_wp2
      go_ret3
      exact ⟨zo, zc, o, rfl, HF.out.1, HF.out.2, HP.out.1, HP.out.2.1⟩
end
end Go.Proofs.YtejcgjdfajppgaaGreatDoor
