/-
  The walk of LaidBalances.
-/
import Derived.Test.YtpidjgljeooblaaLbr
namespace Go.Proofs.Ytpidjgljeooblaa
open Go.RowKit
set_option linter.unusedVariables false
set_option linter.unusedSimpArgs false
attribute [local go_sem ↓] Go.wp_at_zero Go.wp_at_succ

def addM (m : ByteArray → Int) (x : ByteArray) : ByteArray → Int := sput m x (m x + 1)
def cntM (L : List ByteArray) : ByteArray → Int := L.foldl addM (fun _ => 0)
theorem cntM_snoc {L : List ByteArray} {k : Nat} {x : ByteArray} (h : L[k]? = some x) : cntM (L.take (k + 1)) = sput (cntM (L.take k)) x (cntM (L.take k) x + 1) := by
  have hk := (List.getElem?_eq_some_iff.1 h).1
  unfold cntM
  rw [List.take_succ_eq_append_getElem hk, List.foldl_append, (List.getElem?_eq_some_iff.1 h).2]
  rfl
theorem cntM_bd (L : List ByteArray) : ∀ k, k ≤ L.length → ∀ s, 0 ≤ cntM (L.take k) s ∧ cntM (L.take k) s ≤ k := by
  intro k
  induction k with
  | zero => intro _ s; rw [List.take_zero]; exact ⟨Int.le_refl _, Int.le_refl _⟩
  | succ k ih =>
    intro hk s
    obtain ⟨x, hx⟩ : ∃ y, L[k]? = some y := ⟨_, List.getElem?_eq_getElem hk⟩
    rw [cntM_snoc hx]
    have h1 := ih (by omega) s
    have h2 := ih (by omega) x
    unfold sput
    split <;> omega
theorem rep_add (x : ByteArray) (s : ByteArray) : ∀ (c : Nat) (m : ByteArray → Int), ((List.replicate c x).foldl addM m) s = m s + if x = s then (c : Int) else 0 := by
  intro c
  induction c with
  | zero => intro m; simp
  | succ c ih =>
    intro m
    rw [List.replicate_succ, List.foldl_cons, ih]
    unfold addM sput
    by_cases e : x = s
    · subst e
      simp; omega
    · rw [if_neg (fun h => e h.symm), if_neg e, if_neg e]
theorem cntM_laid {rs : List RunD} (h : ∀ r ∈ rs, 1 ≤ r.count) (s : ByteArray) : cntM (laidMarks rs) s = laidN rs s := by
  have key : ∀ (rs : List RunD) (m : ByteArray → Int), (∀ r ∈ rs, 1 ≤ r.count) → ((laidMarks rs).foldl addM m) s = (rs.map fun r => if r.mark = s then r.count else 0).foldl (· + ·) (m s) := by
    intro rs
    induction rs with
    | nil => intro m _; rfl
    | cons r rs ih =>
      intro m h
      have h1 := h r (List.mem_cons_self ..)
      have e : laidMarks (r :: rs) = List.replicate r.count.toNat r.mark ++ laidMarks rs := rfl
      rw [e, List.foldl_append, ih _ (fun x hx => h x (List.mem_cons_of_mem _ hx)), rep_add]
      simp only [List.map_cons, List.foldl_cons]
      congr 1
      split <;> omega
  exact key rs _ h
theorem laidMarks_mem {rs : List RunD} {m : ByteArray} (h : m ∈ laidMarks rs) : ∃ r ∈ rs, r.mark = m := by
  unfold laidMarks at h
  obtain ⟨r, hr, h2⟩ := List.mem_flatMap.1 h
  exact ⟨r, hr, (List.mem_replicate.1 h2).2.symm⟩
theorem laid_find {l : List BarD} {rs : List RunD} (h : laidOk l rs = true) {m : ByteArray} (hm : m ∈ laidMarks rs) : 0 ≤ findZ l m := by
  obtain ⟨q1, q2, q3, q4⟩ := laidOk_parts h
  obtain ⟨r, hr, rfl⟩ := laidMarks_mem hm
  obtain ⟨b, h1, _⟩ := right_parts q1 (q3 r hr)
  obtain ⟨i, h2, _⟩ := lineOf_some h1
  omega

structure LbW (w : World) (B n : Nat) (m : ByteArray → Int) (base : Nat) (o : Value) (G : List (Int × ByteArray)) (wr : World) : Prop where
  below : Below w.heap.size w wr
  map : SMap wr B n m
  far : w.heap.size ≤ B
  own : OwnFds wr base o G
  old : ∀ g, o.ownBlock = some g → g < B
section
variable {w wr w' : World} {B n n' : Nat} {m m' : ByteArray → Int} {base : Nat} {o : Value} {G : List (Int × ByteArray)}
theorem LbW.after (h : LbW w B n m base o G wr) (hb : Below wr.heap.size wr w') : LbW w B n m base o G w' := ⟨bstep h.below hb, h.map.below hb, h.far, OwnN.below h.own hb, h.old⟩
theorem LbW.step (h : LbW w B n m base o G wr) (hm : SMap w' B n' m') (hg : wr.grownBy w' (some B)) : LbW w B n' m' base o G w' :=
  ⟨h.below.grown hg h.below.size (fun j hj => by cases hj; exact h.far), hm, h.far, OwnN.only h.own hg (fun g hv e => by have := h.old g hv; cases e; omega), h.old⟩
end
theorem findR_cases (rs : List RunD) (b : BarD) : (findR rs b = [] ∧ laidN rs b.mark = b.count) ∨ (findR rs b = [(1, b.mark)] ∧ laidN rs b.mark < b.count) ∨ (findR rs b = [(2, b.mark)] ∧ b.count < laidN rs b.mark) := by
  unfold findR
  by_cases h1 : laidN rs b.mark < b.count
  · rw [if_pos h1]; exact .inr (.inl ⟨rfl, h1⟩)
  · by_cases h2 : b.count < laidN rs b.mark
    · rw [if_neg h1, if_pos h2]; exact .inr (.inr ⟨rfl, h2⟩)
    · rw [if_neg h1, if_neg h2]; exact .inl ⟨rfl, by omega⟩
theorem find_at {rs : List RunD} {l : List BarD} {j : Nat} {b : BarD} {f : Int × ByteArray} (hj : l[j]? = some b) (hf : findR rs b = [f]) :
    (l.flatMap (findR rs))[((l.take j).flatMap (findR rs)).length]? = some f := by
  have hlt := (List.getElem?_eq_some_iff.1 hj).1
  have e : l.flatMap (findR rs) = (l.take (j + 1)).flatMap (findR rs) ++ (l.drop (j + 1)).flatMap (findR rs) := by rw [← List.flatMap_append, List.take_append_drop]
  rw [e, findR_snoc rs hj, hf, List.append_assoc, List.getElem?_append_right (Nat.le_refl _)]
  simp

/-- How many findings the first j lines give. -/
def fcnt (rs : List RunD) (l : List BarD) (j : Nat) : Nat := ((l.take j).flatMap (findR rs)).length
theorem fcnt_zero (rs : List RunD) (l : List BarD) : fcnt rs l 0 = 0 := by unfold fcnt; rw [List.take_zero]; rfl
theorem fcnt_all (rs : List RunD) (l : List BarD) : fcnt rs l l.length = (l.flatMap (findR rs)).length := by unfold fcnt; rw [List.take_length]
theorem fcnt_succ (rs : List RunD) {l : List BarD} {j : Nat} {b : BarD} (h : l[j]? = some b) : fcnt rs l (j + 1) = fcnt rs l j + (findR rs b).length := by unfold fcnt; rw [findR_snoc rs h, List.length_append]
theorem fcnt_le (rs : List RunD) (l : List BarD) (j : Nat) : fcnt rs l j ≤ l.length := by unfold fcnt; have := findR_len rs (l.take j); rw [List.length_take] at this; omega

set_option maxRecDepth 100000 in
set_option maxHeartbeats 8000000 in
theorem laidBalances_walk (w : World) (v : Value) (l : List BarD) (hp : Bars w v l) (hf : FitB l) (hl : l.length * 64 ≤ 140737488351232) (vr : Value) (rs : List RunD) (hr : Runs w vr rs) (hm : ∀ r ∈ rs, r.mark.size ≤ maxLen) (hlr : rs.length * 88 ≤ 140737488351232) :
    Calls Try.prog 6 #[v, vr] w fun e w' => e = .returned (.bool true) ∧ Below w.heap.size w w' := by
  have hl2 : l.length ≤ 140737488355328 := by omega
  have hlr2 : rs.length ≤ 140737488355328 := by omega
  have HLA := Lib.hid (fun W (hW : Below w.heap.size w W) => large_any v vr l rs W (hp.below hW) (hr.below hW) hl2 hlr2)
  have HP := Lib.hid hp
  have HR := Lib.hid hr
  have HFI := Lib.hid hf
  have HM := Lib.hid hm
  clear hp hr hf hl hlr hm
  cases hok : laidOk l rs with
  | false =>
    have HC := Lib.hid (fun W (hW : Below w.heap.size w W) => count_bad v vr l rs W (HP.out.below hW) (HR.out.below hW) hl2 hlr2 HFI.out hok)
    have HBA := Lib.hid (fun W (hW : Below w.heap.size w W) => balance_bad v vr l rs W (HP.out.below hW) (HR.out.below hW) hl2 hlr2 HFI.out hok)
    clear hok
    go_enter Try.func6, Try.ntmps6
    go_wp2_with fail
    refine (awake_any _).mono ?_
    rintro e w1 ⟨rfl, hb1⟩
    have HB1 := Lib.hid hb1
    clear hb1
    go_wp2_with fail
    refine (HLA.out _ HB1.out).mono ?_
    rintro e w2 ⟨q, rfl, hb2⟩
    have HB2 := Lib.hid (bstep HB1.out hb2)
    clear hb2
    cases q
    · go_wp2_with fail
      refine (HBA.out _ HB2.out).mono ?_
      rintro e w3 ⟨rfl, hb3⟩
      have HB3 := Lib.hid (bstep HB2.out hb3)
      clear hb3
      go_wp2_with fail
      refine (HC.out _ HB3.out).mono ?_
      rintro e w4 ⟨rfl, hb4⟩
      have HB4 := Lib.hid (bstep HB3.out hb4)
      clear hb4
      go_wp2
      go_ret
      exact ⟨rfl, HB4.out⟩
    · go_wp2
      go_ret
      exact ⟨rfl, HB2.out⟩
  | true =>
    have HC := Lib.hid (fun W (hW : Below w.heap.size w W) => count_good v vr l rs W (HP.out.below hW) (HR.out.below hW) hl2 hlr2 HFI.out hok)
    have HMK := Lib.hid (fun (i : Int) (h64 : i ≤ 9223372036854775807) W (hW : Below w.heap.size w W) => mark_good v vr i l rs W (HP.out.below hW) (HR.out.below hW) hl2 hlr2 HFI.out hok h64)
    obtain ⟨b1, b2, b3⟩ := laid_bars hok
    have HBA := Lib.hid (fun W (hW : Below w.heap.size w W) => balance_good v vr l rs W (HP.out.below hW) (HR.out.below hW) hl2 hlr2 HFI.out hok HM.out b1 b2)
    obtain ⟨s1, s2, s3, s4, s5⟩ := laid_sum hok
    have HBE := Lib.hid (bal_eq rs b3)
    have HFN := Lib.hid (fun m (hm : m ∈ laidMarks rs) => laid_find hok hm)
    have HFD := Lib.hid (fun m W (hW : Below w.heap.size w W) => rfind_any v l m W (HP.out.below hW) hl2)
    have HMS : Hid (∀ m ∈ laidMarks rs, m.size ≤ 9223372036854775807) := fun m hm => by
      obtain ⟨r, hr, rfl⟩ := laidMarks_mem hm
      have := HM.out r hr
      unfold maxLen at this
      omega
    have HBS : Hid (∀ b ∈ l, b.mark.size ≤ 9223372036854775807) := fun b hb => by
      have := (HFI.out b hb).1
      unfold maxLen at this
      omega
    have HCL := Lib.hid (fun s => cntM_laid (fun r hr => (s3 r hr).1) s)
    have HML := Lib.hid (laidMarks_len rs)
    have HMB := Lib.hid (cntM_bd (laidMarks rs))
    have HCB := Lib.hid b1
    have hGL : (l.flatMap (findR rs)).length ≤ 60 := by have := findR_len rs l; omega
    have HGT := Lib.hid (fun j => fcnt_le rs l j)
    have HFZ := Lib.hid (fcnt_all rs l)
    have HFA0 : Hid (∀ (j : Nat) b f, l[j]? = some b → findR rs b = [f] → (l.flatMap (findR rs))[fcnt rs l j]? = some f) := fun j b f h1 h2 => find_at h1 h2
    rw [HBE.out] at HBA
    have hc1 : cumN rs ≤ 2000 := by omega
    clear hok s1 s2 s3 s4 s5 b1 b3 HBE HR HFI HM
    generalize l.flatMap (findR rs) = G at *
    go_enter Try.func6, Try.ntmps6
    go_wp2_with fail
    refine (awake_any _).mono ?_
    rintro e w1 ⟨rfl, hb1⟩
    have HB1 := Lib.hid hb1
    clear hb1
    go_wp2_with fail
    refine (HLA.out _ HB1.out).mono ?_
    rintro e w2 ⟨q, rfl, hb2⟩
    have HB2 := Lib.hid (bstep HB1.out hb2)
    clear hb2
    cases q
    · go_wp2_with fail
      refine (HBA.out _ HB2.out).mono ?_
      rintro e w3 ⟨o, rfl, ho3, hb3⟩
      have HB3 := Lib.hid (bstep HB2.out hb3)
      have HO3 := Lib.hid ho3
      clear hb3 ho3
      go_wp2_with fail
      refine (HC.out _ HB3.out).mono ?_
      rintro e w4 ⟨rfl, hb4⟩
      have HB4 := Lib.hid (bstep HB3.out hb4)
      have HO4 := Lib.hid (OwnN.below HO3.out hb4)
      obtain ⟨oo, oc, rfl⟩ := OwnN.shape HO3.out
      clear hb4 HO3 HLA HC HBA HB1 HB3
      have hmm := @run_makeMap Try.prog
      have HW0 : Hid (LbW w w4.heap.size 0 (cntM ((laidMarks rs).take 0)) w2.heap.size (.slice oo G.length oc) G (w4.alloc (.map #[] 0))) :=
        ⟨HB4.out.alloc HB4.out.size _, SMap.new _, HB4.out.size, OwnN.alloc HO4.out _, fun g hg => (OwnN.lt HO4.out g hg).2⟩
      go_wp2_with fail
      clear hmm
      go_loopw [50] (fun i wr => ∃ k : Nat, k ≤ cumN rs ∧ i = .int .i64 k ∧ LbW w w4.heap.size k (cntM ((laidMarks rs).take k)) w2.heap.size (.slice oo G.length oc) G wr) (fun i _ => cumN rs - (intOf i).toNat)
      case atStart => exact ⟨0, Nat.zero_le _, rfl, HW0.out⟩
      case round =>
        clear HW0
        obtain ⟨k, hk, rfl, hW⟩ := hrel
        have HW := Lib.hid hW
        clear hW
        by_cases hk2 : k < cumN rs
        · have HMX := Lib.hid (HMK.out (k : Int) (by omega) wr HW.out.below)
          go_wp2_with fail
          refine HMX.out.mono ?_
          rintro e w5 (⟨m, _, hm, rfl, hb5⟩ | ⟨hi, _, _⟩)
          · have hm' : (laidMarks rs)[k]? = some m := hm
            have HMM := Lib.hid (List.mem_of_getElem? hm')
            have HSN := Lib.hid (cntM_snoc hm')
            have HW5 := Lib.hid (HW.out.after hb5)
            have hf0 := HFN.out m HMM.out
            obtain ⟨c0, c1⟩ := HMB.out k (by rw [HML.out]; exact hk) m
            have hms := HMS.out m HMM.out
            clear hm hm' hb5
            go_wp2_with fail
            refine (HFD.out m _ HW5.out.below).mono ?_
            rintro e w6 ⟨rfl, rfl⟩
            generalize findZ l m = fz at *
            have df : decide (fz < 0) = false := dec_no (by omega)
            have hlk := HW5.out.map.look (x := m) hms
            have hy : (Lit.int .i64 (cntM ((laidMarks rs).take k) m + 1)).wf = true := WalkArith.wf_i64 (by omega)
            generalize cntM ((laidMarks rs).take k) m = cm at *
            go_wp2_with (at_mapUpdate; refine wpList_sput _ rfl _ _ _ rfl w4.heap.size k _ HW5.out.map (by omega) m hms (cm + 1) hy rfl rfl rfl ?_; intro w7 hmp7 hg7; have HW7 := Lib.hid (HW5.out.step hmp7 hg7); clear hmp7 hg7)
            go_roundw
            case rel => exact ⟨k + 1, by omega, by go_num, by rw [HSN.out]; exact HW7.out⟩
            case measure => simp [intOf]; omega
          · omega
        · obtain rfl : k = cumN rs := by omega
          have HMT : Hid ((laidMarks rs).take (cumN rs) = laidMarks rs) := List.take_of_length_le (by rw [HML.out]; exact Nat.le_refl _)
          rw [HMT.out] at HW
          clear HMK HMB HFN HFD HMT HMS
          obtain ⟨ao, cap, rfl⟩ := HP.out.at_
          go_wp2_with fail
          go_loopw [13, 75] (fun t i wr => ∃ j : Nat, j ≤ l.length ∧ i = .int .i64 j ∧ t = .int .i64 (fcnt rs l j : Int) ∧ LbW w w4.heap.size (cumN rs) (cntM (laidMarks rs)) w2.heap.size (.slice oo G.length oc) G wr) (fun _ i _ => l.length - (intOf i).toNat)
          case atStart => exact ⟨0, Nat.zero_le _, rfl, by rw [fcnt_zero]; rfl, HW.out⟩
          case round =>
            clear HW
            obtain ⟨j, hj, rfl, rfl, hW⟩ := hrel
            have HW := Lib.hid hW
            clear hW
            by_cases hj2 : j < l.length
            · obtain ⟨b, hy⟩ : ∃ y, l[j]? = some y := ⟨_, List.getElem?_eq_getElem hj2⟩
              obtain ⟨bb, off, rfl, hbl, x0, x1, x2, x3, uo, uc, x4, hdx⟩ := bars_get (HP.out.below HW.out.below) hy
              have HSN := Lib.hid (fcnt_succ rs hy)
              have HFA := Lib.hid (fun f (hf : findR rs b = [f]) => HFA0.out j b f hy hf)
              have HGJ := Lib.hid (HGT.out j)
              have hbs := HBS.out b (List.mem_of_getElem? hy)
              obtain ⟨d0, d1⟩ := HCB.out b (List.mem_of_getElem? hy)
              have HW2 := Lib.hid (HW.out.after (below_new wr (.cells #[.string b.mark, .int .i64 b.size, .int .i64 b.count, .int .i64 b.code, .slice uo b.dims.length uc] 54)))
              have hlk := HW2.out.map.look (x := b.mark) hbs
              have HCX := Lib.hid (HCL.out b.mark)
              rw [HCX.out] at hlk
              clear hy hdx
              rcases findR_cases rs b with ⟨h1, h2⟩ | ⟨h1, h2⟩ | ⟨h1, h2⟩
              · have HF := Lib.hid h1
                clear h1
                rw [h2] at hlk
                clear h2
                go_wp2
                go_roundw
                case rel => exact ⟨j + 1, by omega, by go_num, by rw [HSN.out, HF.out]; rfl, HW2.out⟩
                case measure => simp [intOf]; omega
              · have hfa := HFA.out _ h1
                have hkk := (List.getElem?_eq_some_iff.1 hfa).1
                obtain ⟨gb, goff, e, hgl, y0, y1⟩ := fds_get (OwnN.fl fin_len HW2.out.own) hfa
                cases e
                have HF : Hid (fcnt rs l (j + 1) = fcnt rs l j + 1) := by unfold Hid; rw [HSN.out, h1]; rfl
                have hq2 : ∀ W, (Op.equalIn 10000 50 (.agg #[.int .i64 1, .string b.mark]) (.agg #[.int .i64 1, .string b.mark])).run Try.prog W = .ok true W := fun W => by
                  have := run_eq_fd (1, b.mark) (1, b.mark) W
                  rw [dec_yes rfl] at this
                  exact this
                have z0 := (BlkIs.new wr #[.string b.mark, .int .i64 b.size, .int .i64 b.count, .int .i64 b.code, .slice uo b.dims.length uc] 54).cell 0
                have c0 := fun d os => cell_regrown y0 d os
                have c1 := fun d os => cell_regrown y1 d os
                have c2 := fun d os => cell_regrown z0 d os
                clear hfa y0 y1 z0 hgl h1 HSN HFA
                generalize fcnt rs l j = kk at *
                have k0 : (0 : Int) ≤ (kk : Int) := by omega
                have k1 : (kk : Int) < (G.length : Int) := by omega
                have d2 : decide (G.length ≤ kk) = false := dec_no (by omega)
                have d3 : decide ((G.length : Int) ≤ (kk : Int)) = false := dec_no (by omega)
                go_upto_region 28 with fail
                refine wp_region_quiet_below (by kernel_rfl) (by kernel_rfl) ?_
                repeat (go_big_quiet_step ((first
                  | fail)))
                refine wpQuiet_nil ?_
                intro _ hw'
                obtain ⟨⟨nq, osq⟩, hw''⟩ := hw'
                subst hw''
                have HW9 := Lib.hid (HW2.out.after (below_regrown _ nq osq))
                clear c0 c1 c2 hq2 HW2 hlk
                generalize Go.Sort.grow (redrawn _ nq) osq = W9 at *
                go_wp2_with fail
                go_roundw
                case rel => exact ⟨j + 1, by omega, by go_num, by rw [HF.out]; go_num, HW9.out⟩
                case measure => simp [intOf]; omega
              · have hfa := HFA.out _ h1
                have hkk := (List.getElem?_eq_some_iff.1 hfa).1
                obtain ⟨gb, goff, e, hgl, y0, y1⟩ := fds_get (OwnN.fl fin_len HW2.out.own) hfa
                cases e
                have HF : Hid (fcnt rs l (j + 1) = fcnt rs l j + 1) := by unfold Hid; rw [HSN.out, h1]; rfl
                have hq2 : ∀ W, (Op.equalIn 10000 50 (.agg #[.int .i64 2, .string b.mark]) (.agg #[.int .i64 2, .string b.mark])).run Try.prog W = .ok true W := fun W => by
                  have := run_eq_fd (2, b.mark) (2, b.mark) W
                  rw [dec_yes rfl] at this
                  exact this
                have z0 := (BlkIs.new wr #[.string b.mark, .int .i64 b.size, .int .i64 b.count, .int .i64 b.code, .slice uo b.dims.length uc] 54).cell 0
                have c0 := fun d os => cell_regrown y0 d os
                have c1 := fun d os => cell_regrown y1 d os
                have c2 := fun d os => cell_regrown z0 d os
                clear hfa y0 y1 z0 hgl h1 HSN HFA
                generalize fcnt rs l j = kk at *
                have k0 : (0 : Int) ≤ (kk : Int) := by omega
                have k1 : (kk : Int) < (G.length : Int) := by omega
                have d2 : decide (G.length ≤ kk) = false := dec_no (by omega)
                have d3 : decide ((G.length : Int) ≤ (kk : Int)) = false := dec_no (by omega)
                go_upto_region 28 with fail
                refine wp_region_quiet_below (by kernel_rfl) (by kernel_rfl) ?_
                repeat (go_big_quiet_step ((first
                  | fail)))
                refine wpQuiet_nil ?_
                intro _ hw'
                obtain ⟨⟨nq, osq⟩, hw''⟩ := hw'
                subst hw''
                have HW9 := Lib.hid (HW2.out.after (below_regrown _ nq osq))
                clear c0 c1 c2 hq2 HW2 hlk
                generalize Go.Sort.grow (redrawn _ nq) osq = W9 at *
                go_wp2_with fail
                go_roundw
                case rel => exact ⟨j + 1, by omega, by go_num, by rw [HF.out]; go_num, HW9.out⟩
                case measure => simp [intOf]; omega
            · obtain rfl : j = l.length := by omega
              rw [HFZ.out]
              go_wp2
              go_ret
              exact ⟨rfl, HW.out.below⟩
    · go_wp2
      go_ret
      exact ⟨rfl, HB2.out⟩
end Go.Proofs.Ytpidjgljeooblaa
