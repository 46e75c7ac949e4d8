/-
  slices.Collect and Sorted over slices.Values of integers; coupler's given.
-/
import Derived.Test.YtamogedpgkofjaaGreatCpw
import Derived.Test.YtamogedpgkofjaaGreatCqm
namespace Go.Proofs.YtamogedpgkofjaaGreat
section
open Go.RowKit
set_option linter.unusedVariables false
set_option linter.unusedSimpArgs false
attribute [local go_sem ↓] Go.wp_at_zero Go.wp_at_succ

theorem collect_any (Bs b off len cap : Nat) (ao : Option Addr) (hao : 0 < len → ao = some ⟨b, off, none⟩) (zs : List Int) (w : World) (hlen : zs.length = len) (hl : len ≤ 1000) (hBs : Bs < w.heap.size) (hb : b < w.heap.size) (hc : w.cell? ⟨Bs, 0, none⟩ = some (.slice ao len cap)) (hI : ∀ j, j < len → w.cell? ⟨b, off + j, none⟩ = some (.int .i64 (zs.getD j 0))) :
    Calls Tryz.prog 108 #[.func (.func 109) #[] #[.pointer (some ⟨Bs, 0, none⟩)]] w fun e w' => ∃ v, e = .returned v ∧ Own w' w.heap.size 3 intf v zs ∧ Below w.heap.size w w' := by
  have HA := Lib.hid (apseq_any Bs b off len cap ao hao zs w hlen hl hBs hb hc hI)
  clear hao hlen hl hBs hb hc hI
  go_enter Tryz.func108, Tryz.ntmps108
  go_wp2_with fail
  refine HA.out.mono ?_
  rintro e w1 ⟨v, rfl, h1, h2⟩
  have H1 := Lib.hid h1
  have H2 := Lib.hid h2
  clear h1 h2
  go_wp2
  go_ret
  exact ⟨_, rfl, H1.out, H2.out⟩
theorem own_nat {w : World} {B : Nat} {e : TypeId} {v : Value} {L : List Nat} (h : Own w B e intf v (ntI L)) : Own w B e natf v L := by
  unfold Own at h ⊢
  rw [ntI_len, show (ntI L).map intf = L.map natf from natf_map L] at h
  exact h
theorem sorted_any (Bs b off len cap : Nat) (ao : Option Addr) (hao : 0 < len → ao = some ⟨b, off, none⟩) (L : List Nat) (w : World) (hlen : L.length = len) (hl : len ≤ 1000) (hBs : Bs < w.heap.size) (hb : b < w.heap.size) (hc : w.cell? ⟨Bs, 0, none⟩ = some (.slice ao len cap)) (hI : ∀ j, j < len → w.cell? ⟨b, off + j, none⟩ = some (.int .i64 ((ntI L).getD j 0))) :
    Calls Tryz.prog 82 #[.func (.func 109) #[] #[.pointer (some ⟨Bs, 0, none⟩)]] w fun e w' => ∃ v, e = .returned v ∧ Own w' w.heap.size 3 natf v (sortN L) ∧ Below w.heap.size w w' := by
  have HA := Lib.hid (collect_any Bs b off len cap ao hao (ntI L) w (by rw [ntI_len]; exact hlen) hl hBs hb hc hI)
  have hll : L.length < 4611686018427387904 := by omega
  clear hao hlen hl hBs hb hc hI
  go_enter Tryz.func82, Tryz.ntmps82
  go_wp2_with fail
  refine HA.out.mono ?_
  rintro e w1 ⟨v, rfl, h1, h2⟩
  have HS := Lib.hid (sort_own (own_nat h1) hll)
  have HL := Lib.hid (fun g (e : v.ownBlock = some g) => (h1.lt g e).1)
  have H2 := Lib.hid h2
  clear h1 h2 HA
  go_wp2_with fail
  refine HS.out.mono ?_
  rintro e w2 ⟨rfl, h3, h4⟩
  have H3 := Lib.hid h3
  have H4 := Lib.hid (H2.out.grown h4 H2.out.size HL.out)
  clear h3 h4
  go_wp2
  go_ret
  exact ⟨_, rfl, H3.out, H4.out⟩
/-- The error of a list of bars with couplers. -/
def gvnC (n : Nat) (l : List Int) : Int := if l.any (badN n) = true then 2 else if l.Nodup then 0 else 10
theorem gvn_bad {n : Nat} {l : List Int} (h : l.any (badN n) = true) : gvnC n l = 2 := if_pos h
theorem gvn_nat {n : Nat} {l : List Int} (h : l.any (badN n) = false) : l = ntI (l.map Int.toNat) ∧ (∀ x ∈ l.map Int.toNat, x < n) ∧ ((l.map Int.toNat).Nodup ↔ l.Nodup) := by
  have hb : ∀ x ∈ l, 0 ≤ x ∧ x < n := fun x hx => by
    have h1 := List.any_eq_false.1 h x hx
    unfold badN at h1
    rw [decide_eq_true_eq] at h1
    omega
  refine ⟨?_, ?_, ?_⟩
  · unfold ntI
    rw [List.map_map]
    have : ∀ x ∈ l, ((fun k : Nat => (k : Int)) ∘ Int.toNat) x = x := fun x hx => by have := hb x hx; simp; omega
    rw [List.map_congr_left this, List.map_id'']
    exact fun x => rfl
  · intro x hx
    obtain ⟨y, hy, rfl⟩ := List.mem_map.1 hx
    have := hb y hy
    omega
  · unfold List.Nodup
    rw [List.pairwise_map]
    constructor
    · intro hp
      exact List.Pairwise.imp_of_mem (fun {a b} ha hb2 hne heq => hne (by rw [heq])) hp
    · intro hp
      exact List.Pairwise.imp_of_mem (fun {a b} ha hb2 hne heq => hne (by have := hb a ha; have := hb b hb2; omega)) hp
theorem not_nodup {L : List Nat} (h : ¬ L.Nodup) : ∃ i j, i < j ∧ j < L.length ∧ L[i]? = L[j]? := by
  by_cases hex : ∃ i j, i < j ∧ j < L.length ∧ L[i]? = L[j]?
  · exact hex
  · refine absurd ?_ h
    unfold List.Nodup
    rw [List.pairwise_iff_getElem]
    intro i j hi hj hij he
    exact hex ⟨i, j, hij, hj, by rw [List.getElem?_eq_getElem hi, List.getElem?_eq_getElem hj, he]⟩
/-- The members of a list, each once, ascending. -/
def memN (n : Nat) (L : List Nat) : List Nat := (List.range n).filter fun i => decide (i ∈ L)
theorem memN_mem {n : Nat} {L : List Nat} (h : ∀ x ∈ L, x < n) (x : Nat) : x ∈ memN n L ↔ x ∈ L := by
  unfold memN
  rw [List.mem_filter, List.mem_range, decide_eq_true_eq]
  exact ⟨fun h => h.2, fun hx => ⟨h x hx, hx⟩⟩
theorem memN_sort (n : Nat) (L : List Nat) : (memN n L).Pairwise (· < ·) := List.pairwise_lt_range.sublist List.filter_sublist
theorem memN_len {n : Nat} {L : List Nat} (h : ∀ x ∈ L, x < n) : (memN n L).length < L.length ↔ ¬ L.Nodup := by
  have hn : (memN n L).Nodup := List.nodup_range.sublist List.filter_sublist
  constructor
  · intro hlt hd
    have := sub_len L (memN n L) hd (fun x hx => (memN_mem h x).2 hx)
    omega
  · intro hd
    obtain ⟨i, j, hij, hj, he⟩ := not_nodup hd
    have hs : ∀ x ∈ memN n L, x ∈ L.eraseIdx j := by
      intro x hx
      obtain ⟨k, hk⟩ := List.getElem?_of_mem ((memN_mem h x).1 hx)
      have hget : ∀ m, m < j → (L.eraseIdx j)[m]? = L[m]? := fun m hm => by rw [List.getElem?_eraseIdx, if_pos hm]
      rcases Nat.lt_trichotomy k j with h1 | h1 | h1
      · exact List.mem_of_getElem? ((hget k h1).trans hk)
      · subst h1; exact List.mem_of_getElem? ((hget i hij).trans (he.trans hk))
      · refine List.mem_of_getElem? (i := k - 1) ?_
        rw [List.getElem?_eraseIdx, if_neg (by omega), show k - 1 + 1 = k by omega]; exact hk
    have h1 := sub_len _ _ hn hs
    rw [List.length_eraseIdx, if_pos hj] at h1
    omega
theorem values_any (ao : Option Addr) (n c : Nat) (w : World) : Calls Tryz.prog 83 #[.slice ao n c] w fun e w' => e = .returned (.func (.func 109) #[] #[.pointer (some ⟨w.heap.size, 0, none⟩)]) ∧ w.alloc (.cells #[.slice ao n c] 24) = w' := by
  go_enter Tryz.func83, Tryz.ntmps83
  go_wp2
  go_ret
  exact ⟨rfl, rfl⟩
theorem gbad_any (n x : Int) (B : Nat) (ev : Value) (w : World) (hB : w.cell? ⟨B, 0, none⟩ = some (.int .i64 n)) :
    Calls Tryz.prog 80 #[.int .i64 x, .pointer (some ⟨B, 0, none⟩)] w fun e w' => e = .returned (.bool (badN n x)) ∧ Below w.heap.size w w' := by
  by_cases h1 : x < 0
  · have E := Lib.hid (show badN n x = true from dec_yes (.inl h1))
    go_enter Tryz.func80, Tryz.ntmps80
    go_wp2
    go_ret
    exact ⟨ret_bool (by first | exact E.out.symm | (rw [E.out]; simp <;> omega)), Below.refl _ _⟩
  · by_cases h2 : n ≤ x
    · have E := Lib.hid (show badN n x = true from dec_yes (.inr h2))
      go_enter Tryz.func80, Tryz.ntmps80
      go_wp2
      go_ret
      exact ⟨ret_bool (by first | exact E.out.symm | (rw [E.out]; simp <;> omega)), Below.refl _ _⟩
    · have E := Lib.hid (show badN n x = false from dec_no (by omega))
      go_enter Tryz.func80, Tryz.ntmps80
      go_wp2
      go_ret
      exact ⟨ret_bool (by first | exact E.out.symm | (rw [E.out]; simp <;> omega)), Below.refl _ _⟩
set_option maxRecDepth 100000 in
set_option maxHeartbeats 2000000 in
theorem cgiven_any (n : Nat) (ev lv : Value) (l : List Int) (w : World) (hl : Ints w lv l) (hll : l.length ≤ 1000) :
    Calls Tryz.prog 50 #[.agg #[.int .i64 (n : Int), ev], lv] w fun e w' => e = .returned (.int .i64 (gvnC n l)) ∧ Below w.heap.size w w' := by
  obtain ⟨ao, cap, rfl, hcl⟩ := hl
  have HL : Hid (Ints w (.slice ao l.length cap) l) := ⟨ao, cap, rfl, hcl⟩
  have HCL := Lib.hid hcl
  clear hcl
  obtain ⟨w0, hw0⟩ : ∃ w0, w.alloc (.cells #[.int .i64 (n : Int), ev] 75) = w0 := ⟨_, rfl⟩
  have HW0 : Hid (Below w.heap.size w w0 ∧ BlkIs w0 w.heap.size 75 #[.int .i64 (n : Int), ev]) := by
    rw [← hw0]
    exact ⟨below_new _ _, BlkIs.new _ _ _⟩
  have HP : Hid (IntPred 80 #[.pointer (some ⟨w.heap.size, 0, none⟩)] (badN n) l w0) :=
    ⟨fun xs W => by go_simp, fun x W _ hW => gbad_any n x w.heap.size ev W ((HW0.out.2.below hW).cell 0)⟩
  have HA := Lib.hid (anyInts_any _ _ _ _ l w0 (Sl.below HL.out HW0.out.1) (by omega) HP.out)
  go_enter Tryz.func50, Tryz.ntmps50
  go_wp2_with fail
  (try rw [hw0])
  clear hw0
  refine HA.out.mono ?_
  rintro e w1 ⟨rfl, hb1⟩
  have HB1 := Lib.hid (bstep HW0.out.1 hb1)
  clear hb1 HA HP
  cases hq : l.any (badN n) with
  | true =>
    have HG := Lib.hid (gvn_bad hq)
    clear hq
    go_wp2
    go_ret
    exact ⟨by rw [HG.out]; rfl, HB1.out⟩
  | false =>
    obtain ⟨g1, g2, g3⟩ := gvn_nat hq
    have HQ := Lib.hid hq
    obtain ⟨L, hL⟩ : ∃ L, l.map Int.toNat = L := ⟨_, rfl⟩
    rw [hL] at g1 g2 g3
    have hln : L.length = l.length := by rw [← hL, List.length_map]
    have HM := Lib.hid (memN_len g2)
    have HMM := Lib.hid (memN_mem g2)
    have HG1 := Lib.hid g1
    have HG3 := Lib.hid g3
    have HLN := Lib.hid hln
    generalize l.length = ll at *
    clear hq hL g1 g2 g3 hln
    obtain ⟨w2, hw2⟩ : ∃ w2, w1.alloc (.cells #[.slice ao ll cap] 24) = w2 := ⟨_, rfl⟩
    have HW2 : Hid (Below w.heap.size w w2 ∧ BlkIs w2 w1.heap.size 24 #[.slice ao ll cap]) := by
      rw [← hw2]
      exact ⟨bstep HB1.out (below_new _ _), BlkIs.new _ _ _⟩
    have HSO : Hid (Calls Tryz.prog 82 #[.func (.func 109) #[] #[.pointer (some ⟨w1.heap.size, 0, none⟩)]] w2 fun e w' => ∃ v, e = .returned v ∧ Own w' w2.heap.size 3 natf v (sortN L) ∧ Below w2.heap.size w2 w') := by
      have h4 := HW2.out.1.size
      have h5 := HW2.out.2.lt
      by_cases h0 : 0 < ll
      · obtain ⟨b, off, rfl, hb, hI⟩ := HCL.out h0
        refine sorted_any w1.heap.size b off ll cap _ (fun _ => rfl) L w2 HLN.out hll h5 (by omega) (HW2.out.2.cell 0) (fun j hj => ?_)
        have h6 : l[j]? = some ((ntI L).getD j 0) := by
          have h7 : j < (ntI L).length := by rw [ntI_len, HLN.out]; exact hj
          conv => lhs; rw [HG1.out]
          rw [List.getElem?_eq_getElem h7, List.getD_eq_getElem?_getD, List.getElem?_eq_getElem h7]; rfl
        exact (HW2.out.1.cell (p := ⟨b, off + j, none⟩) hb).trans (hI j _ h6)
      · refine sorted_any w1.heap.size w1.heap.size 0 ll cap ao (fun h => absurd h h0) L w2 HLN.out hll h5 h5 (HW2.out.2.cell 0) (fun j hj => by omega)
    have HVA := Lib.hid (values_any ao ll cap w1)
    rw [hw2] at HVA
    clear hw2
    go_wp2_with fail
    refine HVA.out.mono ?_
    rintro e w9 ⟨rfl, rfl⟩
    clear HVA
    go_wp2_with fail
    refine HSO.out.mono ?_
    rintro e w3 ⟨v3, rfl, ho3, hb3⟩
    have HC3 := Lib.hid (compact_own ho3 (by rw [(sortN_perm L).length_eq, HLN.out]; omega) (sortN_sorted L) (memN_sort n L) (fun x => by rw [sortN_mem]; exact HMM.out x))
    have HLT := Lib.hid (fun g (e : v3.ownBlock = some g) => (ho3.lt g e).1)
    have HB3 := Lib.hid (bstep HW2.out.1 hb3)
    have hws := HW2.out.1.size
    clear ho3 hb3 HSO
    go_wp2_with fail
    refine HC3.out.mono ?_
    rintro e w4 ⟨v4, rfl, ho4, _, hg4⟩
    have HB4 := Lib.hid (HB3.out.grown hg4 HB3.out.size (fun g e => by have := HLT.out g e; omega))
    obtain ⟨co, cc, rfl⟩ := ho4.shape
    have hMl := HM.out
    rw [HLN.out] at hMl
    clear ho4 hg4 HC3 HLT HMM
    generalize (memN n L).length = ml at *
    by_cases hnd : l.Nodup
    · have hG : gvnC n l = 0 := by
        unfold gvnC
        rw [if_neg (by rw [HQ.out]; simp), if_pos hnd]
      have HG := Lib.hid hG
      have h1 : ¬ ml < ll := fun h => hMl.1 h (HG3.out.2 hnd)
      have d1 : decide ((ml : Int) < (ll : Int)) = false := dec_no (by omega)
      have d2 : decide (ml < ll) = false := dec_no h1
      clear hnd hMl hG
      go_wp2
      go_ret
      exact ⟨by rw [HG.out]; rfl, HB4.out⟩
    · have hG : gvnC n l = 10 := by
        unfold gvnC
        rw [if_neg (by rw [HQ.out]; simp), if_neg hnd]
      have HG := Lib.hid hG
      have h1 : ml < ll := hMl.2 (fun h => hnd (HG3.out.1 h))
      have d1 : decide ((ml : Int) < (ll : Int)) = true := dec_yes (by omega)
      have d2 : decide (ml < ll) = true := dec_yes h1
      clear hnd hMl hG
      go_wp2
      go_ret
      exact ⟨by rw [HG.out]; rfl, HB4.out⟩
end
end Go.Proofs.YtamogedpgkofjaaGreat
