/-
  Reference 08: Nodes, Check.
-/
import Derived.Test.YthhhcaleoiopgaaRdA
import Derived.Test.YthhhcaleoiopgaaChB
namespace Go.Proofs.Ythhhcaleoiopgaa
open Go.RowKit
set_option linter.unusedVariables false
attribute [local go_sem ↓] Go.wp_at_zero Go.wp_at_succ

def nodesRes (n : Nat) (l : List Int) : Int := if l.length ≠ n then 3 else if l.any (badN n) then 2 else if l.Nodup then 0 else 10

set_option maxRecDepth 100000 in
set_option maxHeartbeats 1000000 in
theorem rnodes_any (n : Nat) (u : Value) (l : List Int) (w : World) (hw : Ints w u l) (hn : n ≤ 100000) (hlw : l.length ≤ 140737488355328) :
    Calls Try.prog 25 #[.int .i64 (n : Int), u] w fun e w' => e = .returned (.int .i64 (nodesRes n l)) ∧ Below w.heap.size w w' := by
  obtain ⟨uo, uc, rfl, hi⟩ := hw
  have HI := Lib.hid hi
  clear hi
  by_cases hl : l.length = n
  · have hq : ((l.length : Int) != (n : Int)) = false := bne_no (by omega)
    have HL := Lib.hid hl
    rw [hl] at hq HI ⊢
    clear hl
    go_enter Try.func25, Try.ntmps25
    go_wp2
    go_loop [5] (fun s5 => ∃ i : Nat, i ≤ n ∧ s5 = .int .i64 (i : Int) ∧ Hid (∀ (j : Nat) y, j < i → l[j]? = some y → badN n y = false)) (fun s5 => n - (intOf s5).toNat)
    case atStart => exact ⟨0, Nat.zero_le _, rfl, fun j y h => by omega⟩
    case round =>
      obtain ⟨i, hin, rfl, HT⟩ := hrel
      by_cases hlt : i < n
      · obtain ⟨b, off, rfl, hbl, hc⟩ := HI.out (by omega)
        obtain ⟨y, hy⟩ : ∃ y, l[i]? = some y := ⟨_, List.getElem?_eq_getElem (by have := HL.out; omega)⟩
        have c1 := hc i y hy
        have HY := Lib.hid hy
        have i0 : (0 : Int) ≤ (i : Int) := Int.natCast_nonneg _
        have i1 : (i : Int) < (n : Int) := by omega
        clear hc hy
        by_cases h1 : y < 0
        · have HR := Lib.hid (show nodesRes n l = 2 by unfold nodesRes; rw [if_neg (by have := HL.out; omega), if_pos (List.any_eq_true.2 ⟨y, List.mem_of_getElem? HY.out, dec_yes (.inl h1)⟩)])
          go_wp2
          go_ret
          exact ⟨ret_int HR.out.symm, Below.refl _ _⟩
        · by_cases h2 : (n : Int) ≤ y
          · have HR := Lib.hid (show nodesRes n l = 2 by unfold nodesRes; rw [if_neg (by have := HL.out; omega), if_pos (List.any_eq_true.2 ⟨y, List.mem_of_getElem? HY.out, dec_yes (.inr h2)⟩)])
            go_wp2
            go_ret
            exact ⟨ret_int HR.out.symm, Below.refl _ _⟩
          · have HN : Hid (∀ (j : Nat) y, j < i + 1 → l[j]? = some y → badN n y = false) := fun j z hj hz => by
              by_cases e : j = i
              · subst e; rw [HY.out] at hz; cases hz; exact dec_no (by omega)
              · exact HT.out j z (by omega) hz
            go_wp2
            go_round
            case rel => exact ⟨i + 1, by omega, by go_num, HN.out⟩
            case measure => simp [intOf]; omega
      · obtain rfl : i = n := by omega
        have HA := Lib.hid (show l.any (badN i) = false from List.any_eq_false.2 fun x hx => by
          obtain ⟨j, hj, rfl⟩ := List.getElem_of_mem hx
          rw [HT.out j _ (by have := HL.out; omega) (List.getElem?_eq_getElem hj)]; simp)
        go_wp2
        go_loopw [6] (fun s6 wr => ∃ k : Nat, k ≤ i ∧ s6 = .int .i64 (k : Int) ∧ Below w.heap.size w wr ∧ Hid ((l.take k).Nodup)) (fun s6 _ => i - (intOf s6).toNat)
        case atStart => exact ⟨0, Nat.zero_le _, rfl, Below.refl _ _, by show List.Nodup _; simp⟩
        case round =>
          obtain ⟨k, hk, rfl, hB, HN⟩ := hrel
          by_cases hlt : k < i
          · obtain ⟨b, off, rfl, hbl, hc⟩ := HI.out (by omega)
            have HC := Lib.hid hc
            obtain ⟨y, hy⟩ : ∃ y, l[k]? = some y := ⟨_, List.getElem?_eq_getElem (by have := HL.out; omega)⟩
            have HY := Lib.hid hy
            clear hc hy
            obtain ⟨wo, rfl⟩ : ∃ wo : World, wo = wr := ⟨_, rfl⟩
            go_wp2
            go_loopw [7] (fun s7 wr => ∃ t : Nat, t ≤ k ∧ s7 = .int .i64 (t : Int) ∧ Below w.heap.size w wr ∧ Hid (∀ (j : Nat) z, j < t → l[j]? = some z → z ≠ y)) (fun s7 _ => k - (intOf s7).toNat)
            case atStart => exact ⟨0, Nat.zero_le _, rfl, hB, fun j y h => by omega⟩
            case round =>
              clear hB
              obtain ⟨t, ht, rfl, hB, HT2⟩ := hrel
              by_cases htk : t < k
              · obtain ⟨z, hz⟩ : ∃ z, l[t]? = some z := ⟨_, List.getElem?_eq_getElem (by have := HL.out; omega)⟩
                have c1 := (hB.cell (p := ⟨b, off + k, none⟩) hbl).trans (HC.out k y HY.out)
                have c2 := (hB.cell (p := ⟨b, off + t, none⟩) hbl).trans (HC.out t z hz)
                have HZ := Lib.hid hz
                have k0 : (0 : Int) ≤ (k : Int) := Int.natCast_nonneg _
                have k1 : (k : Int) < (i : Int) := by omega
                have t0 : (0 : Int) ≤ (t : Int) := Int.natCast_nonneg _
                have t1 : (t : Int) < (i : Int) := by omega
                clear hz
                by_cases hzy : z = y
                · have hb := beq_yes hzy
                  have HR := Lib.hid (show nodesRes i l = 10 by
                    unfold nodesRes
                    rw [if_neg (by have := HL.out; omega), if_neg (by rw [HA.out]; simp), if_neg (fun hnd => ?_)]
                    have h1 := HZ.out
                    have h2 := HY.out
                    rw [hzy] at h1
                    have := (List.getElem?_inj (List.getElem?_eq_some_iff.1 h1).1 hnd).1 (h1.trans h2.symm)
                    omega)
                  clear hzy
                  go_wp2
                  go_quiet (fail)
                  go_wp2
                  go_ret
                  exact ⟨ret_int HR.out.symm, below_drewN' hB _⟩
                · have hb := beq_no hzy
                  have HN2 : Hid (∀ (j : Nat) x, j < t + 1 → l[j]? = some x → x ≠ y) := fun j x hj hx => by
                    by_cases e : j = t
                    · subst e; rw [HZ.out] at hx; cases hx; exact hzy
                    · exact HT2.out j x (by omega) hx
                  clear hzy
                  go_wp2
                  go_quiet (fail)
                  go_wp2
                  go_roundw
                  case rel => exact ⟨t + 1, by omega, by go_num, below_drewN' hB _, HN2.out⟩
                  case measure => simp [intOf]; omega
              · obtain rfl : t = k := by omega
                have HN3 : Hid ((l.take (t + 1)).Nodup) := by
                  show List.Nodup _
                  rw [List.take_succ_eq_append_getElem (by have := HL.out; omega), List.nodup_append]
                  refine ⟨HN.out, by simp, fun x hx z hz e => ?_⟩
                  rw [List.mem_singleton.1 hz, (List.getElem?_eq_some_iff.1 HY.out).2] at e
                  obtain ⟨j, hj, rfl⟩ := List.getElem_of_mem hx
                  rw [List.length_take] at hj
                  refine HT2.out j _ (by omega) (List.getElem?_eq_getElem (by omega)) ?_
                  rw [List.getElem_take] at e
                  exact e
                go_wp2
                go_roundw
                case rel => exact ⟨t + 1, by omega, by go_num, hB, HN3.out⟩
                case measure => simp [intOf]; omega
          · obtain rfl : k = i := by omega
            have HR := Lib.hid (show nodesRes k l = 0 by
              unfold nodesRes
              have := HN.out
              rw [List.take_of_length_le (by have := HL.out; omega)] at this
              rw [if_neg (by have := HL.out; omega), if_neg (by rw [HA.out]; simp), if_pos this])
            go_wp2
            go_ret
            exact ⟨ret_int HR.out.symm, hB⟩
  · have hq : ((l.length : Int) != (n : Int)) = true := bne_yes (by omega)
    have HR := Lib.hid (show nodesRes n l = 3 by unfold nodesRes; rw [if_pos hl])
    clear hl
    go_enter Try.func25, Try.ntmps25
    go_wp2
    go_ret
    exact ⟨ret_int HR.out.symm, Below.refl _ _⟩

/-! ### Check -/
def atI (q : List Nat) (k i : Nat) : Int := if i ∈ q.take k then (q.idxOf i : Int) else 0
structure RC (w : World) (n : Nat) (A : List Int) (wr : World) : Prop where
  low : Below w.heap.size w wr
  own : Own wr w.heap.size 3 intf (.slice (some ⟨w.heap.size, 0, none⟩) n n) A

set_option maxRecDepth 100000 in
set_option maxHeartbeats 1000000 in
theorem rcheck_any (n : Nat) (v u : Value) (es : List (Nat × Nat)) (q : List Nat) (w : World) (hg : Dg w n v es) (hw : Nats w u q) (hl : q.length = n) (hr : ∀ i ∈ q, i < n) (hnd : q.Nodup) :
    Calls Try.prog 26 #[.int .i64 (n : Int), v, u] w fun e w' => e = .returned (.bool (chkN es q).1) ∧ Below w.heap.size w w' := by
  have hn60 := hg.n_le
  have hm := hg.m_le
  have HG := Lib.hid hg
  have HW := Lib.hid hw
  obtain ⟨eao, ecap, rfl, _⟩ := hg.pairs.open_
  obtain ⟨uo, uc, rfl, _⟩ := hw
  have HL := Lib.hid hl
  have HRG := Lib.hid hr
  have HND := Lib.hid hnd
  rw [hl] at HW ⊢
  have hmk := fun W => run_make_one (P := Try.prog) 23 3 8 (.int .i64 0) Try.underlying23 (by kernel_rfl) (by omega) n (by omega) W
  have HR0 : Hid (RC w n (fl n (atI q 0)) (w.alloc (.cells (madeCells (Value.int .i64 0).cells n) 3))) := by
    refine ⟨below_new _ _, ?_⟩
    have := own_made w 3 intf 0 (.int .i64 0) rfl n (by omega) w.heap.size (Nat.le_refl _)
    rw [fl_const, fl_ext (g := atI q 0) (fun k hk => by simp [atI])] at this
    exact this
  clear hg hl hr hnd
  go_enter Try.func26, Try.ntmps26
  go_wp2_with fail
  go_loopw [8] (fun s8 wr => ∃ i : Nat, i ≤ n ∧ s8 = .int .i64 (i : Int) ∧ Hid (RC w n (fl n (atI q i)) wr)) (fun s8 _ => n - (intOf s8).toNat)
  case atStart => exact ⟨0, Nat.zero_le _, rfl, HR0.out⟩
  case round =>
    clear HR0
    obtain ⟨i, hin, rfl, HI⟩ := hrel
    by_cases hlt : i < n
    · obtain ⟨x, hx⟩ : ∃ x, q[i]? = some x := ⟨_, List.getElem?_eq_getElem (by have := HL.out; omega)⟩
      have hxn := HRG.out x (List.mem_of_getElem? hx)
      obtain ⟨b, off, rfl, hbl, hc⟩ := nats_get HW.out hx
      have c1 := (HI.out.low.cell (p := ⟨b, off + i, none⟩) hbl).trans hc
      have f1 := HI.out.own.free x
      obtain ⟨z2, c2⟩ : ∃ z, wr.cell? ⟨w.heap.size, x, none⟩ = some z := ⟨_, HI.out.own.cell (fl_get _ hxn)⟩
      have hgl := (HI.out.own.lt w.heap.size rfl).2
      have i0 : (0 : Int) ≤ (i : Int) := Int.natCast_nonneg _
      have i1 : (i : Int) < (n : Int) := by omega
      have x0 : (0 : Int) ≤ (x : Int) := Int.natCast_nonneg _
      have x1 : (x : Int) < (n : Int) := by omega
      have hno : x ∉ q.take i := fun h => by
        have hnd := HND.out
        have e : q.take (i + 1) = q.take i ++ [x] := by rw [List.take_succ_eq_append_getElem (by have := HL.out; omega), (List.getElem?_eq_some_iff.1 hx).2]
        have h1 : (q.take (i + 1)).Nodup := hnd.sublist (List.take_sublist _ _)
        rw [e, List.nodup_append] at h1
        exact h1.2.2 x h x (by simp) rfl
      have HST : Hid (RC w n (fl n (atI q (i + 1))) (wr.setCell ⟨w.heap.size, x, none⟩ (.int .i64 (i : Int)))) := by
        refine ⟨HI.out.low.setCell (p := ⟨w.heap.size, x, none⟩) (Nat.le_refl _) _, ?_⟩
        have := HI.out.own.set x (i : Int)
        rw [fl_set, fl_ext (g := atI q (i + 1)) (fun k hk => ?_)] at this
        · exact this
        · have e : q.take (i + 1) = q.take i ++ [x] := by rw [List.take_succ_eq_append_getElem (by have := HL.out; omega), (List.getElem?_eq_some_iff.1 hx).2]
          unfold atI
          rw [e]
          by_cases hk : k = x
          · subst hk
            rw [if_pos rfl, if_pos (by simp), idxOf_at hx hno]
          · rw [if_neg hk]
            by_cases h : k ∈ q.take i
            · rw [if_pos h, if_pos (by simp [h])]
            · rw [if_neg h, if_neg (by simp only [List.mem_append, List.mem_singleton]; rintro (h1 | h1); exact h h1; exact hk h1)]
      clear hx hc hno
      go_wp2
      go_roundw
      case rel => exact ⟨i + 1, by omega, by go_num, HST.out⟩
      case measure => simp [intOf]; omega
    · obtain rfl : i = n := by omega
      have HA : Hid (RC w i (fl i (fun k => (q.idxOf k : Int))) wr) := by
        have := HI.out
        rw [fl_ext (g := fun k => (q.idxOf k : Int)) (fun k hk => ?_)] at this
        · exact this
        · unfold atI
          rw [List.take_of_length_le (by have := HL.out; omega), if_pos (nodup_full HND.out HRG.out HL.out hk)]
      clear HI
      obtain ⟨wo, rfl⟩ : ∃ wo : World, wo = wr := ⟨_, rfl⟩
      go_wp2_with fail
      go_loopw [9] (fun s9 wr => ∃ j : Nat, j ≤ es.length ∧ s9 = .int .i64 (j : Int) ∧ Below wo.heap.size wo wr ∧ Hid (∀ (t : Nat) e, t < j → es[t]? = some e → q.idxOf e.1 < q.idxOf e.2)) (fun s9 _ => es.length - (intOf s9).toNat)
      case atStart => exact ⟨0, Nat.zero_le _, rfl, Below.refl _ _, fun t e h => by omega⟩
      case round =>
        obtain ⟨j, hj, rfl, hB, HT⟩ := hrel
        by_cases hjm : j < es.length
        · obtain ⟨e, he⟩ : ∃ e, es[j]? = some e := ⟨_, List.getElem?_eq_getElem hjm⟩
          obtain ⟨x, y⟩ := e
          obtain ⟨hx, hy⟩ := HG.out.ends j _ he
          simp only at hx hy
          obtain ⟨b, off, rfl, hbl, hc1, hc2⟩ := HG.out.pairs.edge he
          have hBw := bstep HA.out.low hB
          have d1 := (hBw.cell (p := ⟨b, off + j * 2, none⟩) hbl).trans hc1
          have d2 := (hBw.cell (p := ⟨b, off + j * 2 + 1, none⟩) hbl).trans hc2
          have hgl := (HA.out.own.lt w.heap.size rfl).2
          have c1 := (hB.cell (p := ⟨w.heap.size, x, none⟩) hgl).trans (HA.out.own.cell (fl_get _ hx))
          have c2 := (hB.cell (p := ⟨w.heap.size, y, none⟩) hgl).trans (HA.out.own.cell (fl_get _ hy))
          unfold intf at c1 c2
          have x0 : (0 : Int) ≤ (x : Int) := Int.natCast_nonneg _
          have x1 : (x : Int) < (i : Int) := by omega
          have y0 : (0 : Int) ≤ (y : Int) := Int.natCast_nonneg _
          have y1 : (y : Int) < (i : Int) := by omega
          have j0 : (0 : Int) ≤ (j : Int) := Int.natCast_nonneg _
          have j1 : (j : Int) < (es.length : Int) := by omega
          have HE := Lib.hid he
          obtain ⟨p1, hp1⟩ : ∃ p, q.idxOf x = p := ⟨_, rfl⟩
          obtain ⟨p2, hp2⟩ : ∃ p, q.idxOf y = p := ⟨_, rfl⟩
          rw [hp1] at c1
          rw [hp2] at c2
          have HP := Lib.hid (And.intro hp1 hp2)
          clear he hc1 hc2 hp1 hp2
          by_cases hp : p2 ≤ p1
          · have HR := Lib.hid (show (chkN es q).1 = false by
              unfold chkN
              rw [if_pos HND.out]
              refine List.all_eq_false.2 ⟨(x, y), List.mem_of_getElem? HE.out, ?_⟩
              have h1 := HP.out
              simp only [h1.1, h1.2]
              simpa using hp)
            go_wp2
            go_quiet (fail)
            go_wp2
            go_ret
            exact ⟨ret_bool HR.out.symm, below_drewN' hBw _⟩
          · have HN : Hid (∀ (t : Nat) e, t < j + 1 → es[t]? = some e → q.idxOf e.1 < q.idxOf e.2) := fun t e ht he => by
              by_cases h : t = j
              · subst h
                rw [HE.out] at he
                cases he
                simp only [HP.out.1, HP.out.2]
                omega
              · exact HT.out t e (by omega) he
            go_wp2
            go_quiet (fail)
            go_wp2
            go_roundw
            case rel => exact ⟨j + 1, by omega, by go_num, below_drewN' hB _, HN.out⟩
            case measure => simp [intOf]; omega
        · obtain rfl : j = es.length := by omega
          have HR := Lib.hid (show (chkN es q).1 = true by
            unfold chkN
            rw [if_pos HND.out]
            refine List.all_eq_true.2 fun e he => ?_
            obtain ⟨t, ht⟩ := List.mem_iff_getElem?.1 he
            simpa using HT.out t e (List.getElem?_eq_some_iff.1 ht).1 ht)
          have hBw := bstep HA.out.low hB
          go_wp2
          go_ret
          exact ⟨ret_bool HR.out.symm, hBw⟩
end Go.Proofs.Ythhhcaleoiopgaa
