/-
  The reference's balance; short bars; small schedules and runs.
-/
import Derived.Test.YtpidjgljeooblaaRmJ
import Derived.Test.YtpidjgljeooblaaBal
namespace Go.Proofs.Ytpidjgljeooblaa
open Go.RowKit
set_option linter.unusedVariables false
set_option linter.unusedSimpArgs false

/-- How many bars of a mark are laid. -/
def laidN (rs : List RunD) (m : ByteArray) : Int := sumI (rs.map fun r => if r.mark = m then r.count else 0)
theorem laidN_snoc {rs : List RunD} {k : Nat} {r : RunD} (m : ByteArray) (h : rs[k]? = some r) : laidN (rs.take (k + 1)) m = laidN (rs.take k) m + if r.mark = m then r.count else 0 := by
  unfold laidN
  have h2 : (rs.map fun r => if r.mark = m then r.count else 0)[k]? = some (if r.mark = m then r.count else 0) := by rw [List.getElem?_map, h]; rfl
  have := sumI_snoc h2
  rw [List.map_take, this, ← List.map_take]
theorem laidN_bd {rs : List RunD} (h : ∀ r ∈ rs, 1 ≤ r.count ∧ r.count ≤ 1000) (m : ByteArray) : ∀ k, k ≤ rs.length → 0 ≤ laidN (rs.take k) m ∧ laidN (rs.take k) m ≤ k * 1000 := by
  intro k
  induction k with
  | zero => intro _; rw [List.take_zero]; exact ⟨Int.le_refl _, Int.le_refl _⟩
  | succ k ih =>
    intro hk
    obtain ⟨r, hr⟩ : ∃ y, rs[k]? = some y := ⟨_, List.getElem?_eq_getElem hk⟩
    obtain ⟨h1, h2⟩ := h r (List.mem_of_getElem? hr)
    obtain ⟨i1, i2⟩ := ih (by omega)
    rw [laidN_snoc m hr]
    split <;> omega

set_option maxHeartbeats 1000000 in
theorem rlaidn_any (v : Value) (rs : List RunD) (m : ByteArray) (w : World) (hr : Runs w v rs) (hl : rs.length ≤ 1000000) (hs : ∀ r ∈ rs, 1 ≤ r.count ∧ r.count ≤ 1000) :
    Calls Try.prog 49 #[v, .string m] w fun e w' => e = .returned (.int .i64 (laidN rs m)) ∧ w = w' := by
  obtain ⟨ao, cap, rfl⟩ := hr.at_
  have HR := Lib.hid hr
  have HS := Lib.hid (laidN_bd hs m)
  have HC := Lib.hid hs
  clear hr hs
  go_enter Try.func49, Try.ntmps49
  go_wp2
  go_loop [5, 6] (fun t i => ∃ k : Nat, k ≤ rs.length ∧ i = .int .i64 k ∧ t = .int .i64 (laidN (rs.take k) m)) (fun _ i => rs.length - (intOf i).toNat)
  case atStart => exact ⟨0, Nat.zero_le _, rfl, by rw [List.take_zero]; rfl⟩
  case round =>
    obtain ⟨k, hk, rfl, rfl⟩ := hrel
    by_cases hk2 : k < rs.length
    · obtain ⟨r, hy⟩ : ∃ y, rs[k]? = some y := ⟨_, List.getElem?_eq_getElem hk2⟩
      obtain ⟨b, off, rfl, hbl, c0, c1, c2, c3, c4, c5, c6, c7, c8, c9⟩ := runs_get HR.out hy
      have HSN := Lib.hid (laidN_snoc m hy)
      obtain ⟨b1, b2⟩ := HS.out k hk
      obtain ⟨n1, n2⟩ := HC.out r (List.mem_of_getElem? hy)
      have hq := bytes_beq r.mark m
      clear hy c1 c2 c3 c4 c5 c6 c7 c8
      generalize laidN (rs.take k) m = q at *
      by_cases he : r.mark = m
      · have hq2 : (r.mark.toList == m.toList) = true := hq.trans (dec_yes he)
        have HE : Hid (laidN (rs.take (k + 1)) m = q + r.count) := by unfold Hid; rw [HSN.out, if_pos he]
        clear he hq
        go_wp2
        go_round
        case rel => exact ⟨k + 1, by omega, by go_num, by rw [HE.out]⟩
        case measure => simp [intOf]; omega
      · have hq2 : (r.mark.toList == m.toList) = false := hq.trans (dec_no he)
        have HE : Hid (laidN (rs.take (k + 1)) m = q) := by unfold Hid; rw [HSN.out, if_neg he]; omega
        clear he hq
        go_wp2
        go_round
        case rel => exact ⟨k + 1, by omega, by go_num, by rw [HE.out]⟩
        case measure => simp [intOf]; omega
    · obtain rfl : k = rs.length := by omega
      rw [List.take_length]
      go_wp2
      go_ret
      exact ⟨rfl, rfl⟩

/-! ### the balance -/
theorem runF_eq (m : ByteArray → Int) (rs : List RunD) (x : ByteArray) : ∀ k, k ≤ rs.length → runF m (rs.take k) x = m x - laidN (rs.take k) x := by
  intro k
  induction k with
  | zero => intro _; rw [List.take_zero]; show m x = m x - 0; omega
  | succ k ih =>
    intro hk
    obtain ⟨r, hr⟩ : ∃ y, rs[k]? = some y := ⟨_, List.getElem?_eq_getElem hk⟩
    have h1 := ih (by omega)
    rw [runF_snoc m hr, laidN_snoc x hr]
    by_cases e : x = r.mark
    · subst e
      rw [sput_same, if_pos rfl]
      omega
    · rw [sput_other _ _ e, if_neg (fun h => e h.symm)]
      omega
theorem cntF_eq {l : List BarD} (h : schedOk l = true) {i : Nat} {b : BarD} (hb : l[i]? = some b) : ∀ k, k ≤ l.length → i < k → cntF (l.take k) b.mark = b.count := by
  intro k
  induction k with
  | zero => intro _ h; omega
  | succ k ih =>
    intro hk hik
    obtain ⟨c, hc⟩ : ∃ y, l[k]? = some y := ⟨_, List.getElem?_eq_getElem hk⟩
    rw [cntF_snoc hc]
    by_cases e : i = k
    · subst e
      rw [hb] at hc
      cases hc
      rw [sput_same]
    · have hne : b.mark ≠ c.mark := fun hm => by
        have h1 := (sched_line h hb).2
        have h2 := (sched_line h hc).2
        rw [hm, h2] at h1
        omega
      rw [sput_other _ _ hne]
      exact ih (by omega) (by omega)
def findR (rs : List RunD) (b : BarD) : List (Int × ByteArray) := if laidN rs b.mark < b.count then [(1, b.mark)] else if b.count < laidN rs b.mark then [(2, b.mark)] else []
theorem bal_eq {l : List BarD} (rs : List RunD) (h : schedOk l = true) : balOf l rs = l.flatMap (findR rs) := by
  unfold balOf balN
  have e : ∀ b ∈ l, findB (runF (cntF l) rs) b = findR rs b := by
    intro b hb
    obtain ⟨i, hi, rfl⟩ := List.getElem_of_mem hb
    have h1 := cntF_eq h (List.getElem?_eq_getElem hi) l.length (Nat.le_refl _) hi
    rw [List.take_length] at h1
    have h2 := runF_eq (cntF l) rs l[i].mark rs.length (Nat.le_refl _)
    rw [List.take_length, h1] at h2
    unfold findB findR
    rw [h2]
    by_cases a : laidN rs l[i].mark < l[i].count
    · rw [if_pos a, if_pos (by omega)]
    · by_cases b : l[i].count < laidN rs l[i].mark
      · rw [if_neg a, if_pos b, if_neg (by omega), if_pos (by omega)]
      · rw [if_neg a, if_neg b, if_neg (by omega), if_neg (by omega)]
  rw [List.flatMap_def, List.flatMap_def, List.map_congr_left e]
theorem findR_snoc (rs : List RunD) {l : List BarD} {k : Nat} {x : BarD} (h : l[k]? = some x) : (l.take (k + 1)).flatMap (findR rs) = (l.take k).flatMap (findR rs) ++ findR rs x := by
  have hk := (List.getElem?_eq_some_iff.1 h).1
  rw [List.take_succ_eq_append_getElem hk, List.flatMap_append, (List.getElem?_eq_some_iff.1 h).2]
  simp
theorem findR_len (rs : List RunD) (l : List BarD) : (l.flatMap (findR rs)).length ≤ l.length := by
  induction l with
  | nil => simp
  | cons b l ih =>
    have : (findR rs b).length ≤ 1 := by unfold findR; (repeat' split) <;> simp
    simp only [List.flatMap_cons, List.length_append, List.length_cons]; omega

set_option maxRecDepth 100000 in
set_option maxHeartbeats 2000000 in
theorem rbalance_any (v vr : Value) (l : List BarD) (rs : List RunD) (w : World) (hp : Bars w v l) (hr : Runs w vr rs) (hl : l.length ≤ 1000000) (hlr : rs.length ≤ 1000000) (hs : ∀ r ∈ rs, 1 ≤ r.count ∧ r.count ≤ 1000) :
    Calls Try.prog 24 #[v, vr] w fun e w' => ∃ o, e = .returned o ∧ Hid (OwnFds w' w.heap.size o (l.flatMap (findR rs))) ∧ Below w.heap.size w w' := by
  obtain ⟨ao, cap, rfl⟩ := hp.at_
  obtain ⟨ro, rcap, rfl⟩ := hr.at_
  have HP := Lib.hid hp
  have HLN := Lib.hid (fun m W (hW : Below w.heap.size w W) => rlaidn_any (.slice ro rs.length rcap) rs m W (hr.below hW) hlr hs)
  have HBD : Hid (∀ m, 0 ≤ laidN rs m ∧ laidN rs m ≤ 1000000000) := fun m => by
    have := laidN_bd hs m rs.length (Nat.le_refl _)
    rw [List.take_length] at this
    omega
  clear hp hr hs
  go_enter Try.func24, Try.ntmps24
  go_wp2
  go_loopw [5, 6] (fun o i wr => ∃ k : Nat, k ≤ l.length ∧ i = .int .i64 k ∧ Below w.heap.size w wr ∧ OwnFds wr w.heap.size o ((l.take k).flatMap (findR rs))) (fun _ i _ => l.length - (intOf i).toNat)
  case atStart => exact ⟨0, Nat.zero_le _, rfl, Below.refl _ _, OwnN.nil _ _ _ _ _⟩
  case round =>
    obtain ⟨k, hk, rfl, hBr, hown⟩ := hrel
    by_cases hk2 : k < l.length
    · obtain ⟨x, hy⟩ : ∃ y, l[k]? = some y := ⟨_, List.getElem?_eq_getElem hk2⟩
      obtain ⟨b, off, rfl, hbl, x0, x1, x2, x3, uo, uc, x4, hdx⟩ := bars_get HP.out hy
      have HX2 := Lib.hid (And.intro hbl x2)
      have c0 := (hBr.cell (p := ⟨b, off + k * 5, none⟩) hbl).trans x0
      have c2 := (hBr.cell (p := ⟨b, off + k * 5 + 2, none⟩) hbl).trans x2
      have HSN := Lib.hid (findR_snoc rs hy)
      have HLX := Lib.hid (HLN.out x.mark wr hBr)
      obtain ⟨m1, m2⟩ := HBD.out x.mark
      have HB := Lib.hid hBr
      have HO := Lib.hid hown
      have hl2 : ((l.take k).flatMap (findR rs)).length + 1 ≤ 1099511627776 := by have := findR_len rs (l.take k); rw [List.length_take] at this; omega
      have hbase : w.heap.size ≤ wr.heap.size := hBr.size
      have HFD : Hid (findR rs x = if laidN rs x.mark < x.count then [(1, x.mark)] else if x.count < laidN rs x.mark then [(2, x.mark)] else []) := rfl
      clear hy hBr hown hdx x0 x1 x2 x3 x4 hbl
      generalize laidN rs x.mark = n at *
      by_cases h1 : n < x.count
      · have HF : Hid (findR rs x = [(1, x.mark)]) := HFD.out.trans (if_pos h1)
        clear HFD
        go_wp2_with fail
        refine HLX.out.mono ?_
        rintro e w9 ⟨rfl, rfl⟩
        go_wp2_with (at_builtin; refine wpList_pushAt _ wr.heap.size rfl rfl _ _ 45 rfl 50 2 24 elemFd w.heap.size finCells _ _ (1, x.mark) _ rfl rfl (fin_one _) HO.out rfl rfl hl2 (by omega) hbase ?_; intro v' w' hown' hg' hat'; have HO9 := Lib.hid hown'; have HB9 := Lib.hid (HB.out.grown hg' HB.out.size (fun j hj => (HO.out.lt j hj).1)); have d2 := (HB9.out.cell HX2.out.1).trans HX2.out.2; clear hown' hg' hat')
        go_roundw
        case rel => exact ⟨k + 1, by omega, by go_num, HB9.out, by rw [HSN.out, HF.out]; exact HO9.out⟩
        case measure => simp [intOf]; omega
      · by_cases h2 : x.count < n
        · have HF : Hid (findR rs x = [(2, x.mark)]) := HFD.out.trans ((if_neg h1).trans (if_pos h2))
          clear HFD
          go_wp2_with fail
          refine HLX.out.mono ?_
          rintro e w9 ⟨rfl, rfl⟩
          go_wp2_with (at_builtin; refine wpList_pushAt _ wr.heap.size rfl rfl _ _ 45 rfl 50 2 24 elemFd w.heap.size finCells _ _ (2, x.mark) _ rfl rfl (fin_one _) HO.out rfl rfl hl2 (by omega) hbase ?_; intro v' w' hown' hg' hat'; have HO9 := Lib.hid hown'; have HB9 := Lib.hid (HB.out.grown hg' HB.out.size (fun j hj => (HO.out.lt j hj).1)); have d2 := (HB9.out.cell HX2.out.1).trans HX2.out.2; clear hown' hg' hat')
          go_roundw
          case rel => exact ⟨k + 1, by omega, by go_num, HB9.out, by rw [HSN.out, HF.out]; exact HO9.out⟩
          case measure => simp [intOf]; omega
        · have HF : Hid (findR rs x = []) := HFD.out.trans ((if_neg h1).trans (if_neg h2))
          clear HFD
          go_wp2_with fail
          refine HLX.out.mono ?_
          rintro e w9 ⟨rfl, rfl⟩
          go_wp2
          go_roundw
          case rel => exact ⟨k + 1, by omega, by go_num, HB.out, by rw [HSN.out, HF.out, List.append_nil]; exact HO.out⟩
          case measure => simp [intOf]; omega
    · obtain rfl : k = l.length := by omega
      rw [List.take_length] at hown
      have HO := Lib.hid hown
      have HB := Lib.hid hBr
      clear hown hBr
      go_wp2
      go_ret
      exact ⟨_, rfl, HO.out, HB.out⟩
end Go.Proofs.Ytpidjgljeooblaa
