/-
  slices.IsSorted at a sorted list; Check at lists of bars.
-/
import Derived.Test.YtamogedpgkofjaaGreatClb
import Derived.BigQuiet
namespace Go.Proofs.YtamogedpgkofjaaGreat
section
open Go.RowKit
set_option linter.unusedVariables false
set_option linter.unusedSimpArgs false

theorem isNaN_any (x : Int) (w : World) : Calls Tryz.prog 89 #[.int .i64 x] w fun e w' => e = .returned (.bool false) ∧ w = w' := by
  have e1 := bne_no (show x = x from rfl)
  go_enter Tryz.func89, Tryz.ntmps89
  go_wp2
  go_ret
  exact ⟨rfl, rfl⟩
theorem less_any (x y : Int) (w : World) : Calls Tryz.prog 61 #[.int .i64 x, .int .i64 y] w fun e w' => e = .returned (.bool (decide (x < y))) ∧ w = w' := by
  go_enter Tryz.func61, Tryz.ntmps61
  go_wp2_with fail
  refine (isNaN_any x _).mono ?_
  rintro e w1 ⟨rfl, rfl⟩
  go_wp2
  go_ret
  exact ⟨rfl, rfl⟩

set_option maxHeartbeats 400000 in
theorem isSorted_yes (v : Value) (l : List Nat) (w : World) (h : Nats w v l) (hl : l.length ≤ 1000000) (hs : l.Pairwise (· < ·)) :
    Calls Tryz.prog 28 #[v] w fun e w' => e = .returned (.bool true) ∧ Below w.heap.size w w' := by
  have H := Lib.hid h
  have HS : Hid (∀ (i j x y : Nat), i < j → l[i]? = some x → l[j]? = some y → x < y) := by
    intro i j x y hij hx hy
    obtain ⟨h1, rfl⟩ := List.getElem?_eq_some_iff.1 hx
    obtain ⟨h2, rfl⟩ := List.getElem?_eq_some_iff.1 hy
    exact List.pairwise_iff_getElem.1 hs i j h1 h2 hij
  obtain ⟨ao, cap, rfl, _⟩ := h
  clear hs
  rcases Nat.eq_zero_or_pos l.length with h0 | h0
  · rw [h0]
    clear h0
    go_enter Tryz.func28, Tryz.ntmps28
    go_wp2_with fail
    refine wp_loop_rounds 1 ?_
    rw [rounds_succ]
    go_wp2
    go_ret
    exact ⟨rfl, Below.refl _ _⟩
  go_enter Tryz.func28, Tryz.ntmps28
  go_wp2_with fail
  go_loopw [3] (fun s3 wr => ∃ k : Nat, k < l.length ∧ s3 = .int .i64 (k : Int) ∧ Below w.heap.size w wr) (fun s3 _ => (intOf s3).toNat)
  case atStart => exact ⟨l.length - 1, by omega, val_int (by omega), Below.refl _ _⟩
  case round =>
    obtain ⟨k, hk, rfl, hB⟩ := hrel
    by_cases hk0 : 0 < k
    · obtain ⟨x, hx⟩ : ∃ x, l[k]? = some x := ⟨_, List.getElem?_eq_getElem hk⟩
      obtain ⟨y, hy⟩ : ∃ x, l[k - 1]? = some x := ⟨_, List.getElem?_eq_getElem (by omega)⟩
      have hlt := HS.out (k - 1) k y x (by omega) hy hx
      obtain ⟨b, off, rfl, hbl, c1⟩ := nats_get (H.out.below hB) hx
      obtain ⟨b', off', hx', _, c2⟩ := nats_get (H.out.below hB) hy
      cases hx'
      have hL := Lib.hid (fun W => less_any (x : Int) (y : Int) W)
      have hd : Hid (decide ((x : Int) < (y : Int)) = false) := dec_no (by omega)
      have k0 : (0 : Int) ≤ (k : Int) := Int.natCast_nonneg _
      have k1 : (k : Int) < (l.length : Int) := by omega
      have k2 : (0 : Int) ≤ (k : Int) - 1 := by omega
      have k3 : IntKind.i64.wrap ((k : Int) - 1) = (k : Int) - 1 := IntWalk.i64_in _ (by omega)
      have k4 : ((k : Int) - 1).toNat = k - 1 := by omega
      have hL2 : Hid (∀ W, Calls Tryz.prog 61 #[.int .i64 (x : Int), .int .i64 (y : Int)] W fun e w' => e = .returned (.bool false) ∧ W = w') := by
        intro W
        have := hL.out W
        rw [hd.out] at this
        exact this
      clear hx hy hL hd
      go_wp2
      go_quiet ((go_at_call 61; exact Calls.quiet_of_same ((hL2.out _).mono fun e w' h => ⟨h.1, h.2.symm⟩)))
      clear k3 k4
      go_wp2
      go_roundw
      case rel => exact ⟨k - 1, by omega, val_int (by omega), below_drewN' hB _⟩
      case measure => simp [intOf]; omega
    · obtain rfl : k = 0 := by omega
      go_wp2
      go_ret
      exact ⟨rfl, hB⟩
theorem gvn_ok {n : Nat} {L : List Nat} (hn : L.Nodup) (hl : ∀ x ∈ L, x < n) : gvnC n (ntI L) = 0 := by
  have hany : (ntI L).any (badN n) = false := by
    rw [List.any_eq_false]
    intro y hy
    unfold ntI at hy
    obtain ⟨x, hx, rfl⟩ := List.mem_map.1 hy
    have := hl x hx
    unfold badN
    rw [decide_eq_true_eq]
    omega
  have hnd : (ntI L).Nodup := by
    unfold ntI List.Nodup
    rw [List.pairwise_map]
    exact hn.imp (fun {a b} h he => h (by omega))
  unfold gvnC
  rw [if_neg (by rw [hany]; simp), if_pos hnd]
theorem chk_true (v vr xv tv : Value) (X : List Int) (L : List Nat) (l : List BarD) (rs : List RunD) (w : World) (hC : Cg w v vr xv X l rs) (hc : sqC l rs X = 0) (ht : Nats w tv L) (hl : L.length ≤ 1000) (hn : L.Nodup) (hlt : ∀ x ∈ L, x < (lgsOf l rs).length) (hb : brkC (lgsOf l rs).length (sqEs l rs X) (ntI L)) :
    Calls Tryz.prog 19 #[v, vr, xv, tv] w fun e w' => e = .returned (.tuple #[.bool true, .int .i64 0]) ∧ Below w.heap.size w w' := by
  obtain ⟨D, _, hD⟩ := ord_yes hb
  have hR : ordF (sqC l rs X) (lgsOf l rs).length (sqEs l rs X) (ntI L) = (0, namN (othN (lgsOf l rs).length (ntI L)) D) := by
    rw [hc]
    unfold ordF
    rw [if_pos rfl, if_pos (gvn_ok hn hlt), ordR_some hD]
  exact ccheck_any v vr xv tv X (ntI L) l rs w hC (Sl.map_ ht (fun k : Nat => (k : Int)) (fun _ => rfl)) (by rw [ntI_len]; exact hl) _ hR (true, 0) rfl
theorem chk_false (v vr xv tv : Value) (X : List Int) (L : List Nat) (l : List BarD) (rs : List RunD) (w : World) (hC : Cg w v vr xv X l rs) (hc : sqC l rs X = 0) (ht : Nats w tv L) (hl : L.length ≤ 1000) (hn : L.Nodup) (hlt : ∀ x ∈ L, x < (lgsOf l rs).length) (hb : ¬ brkC (lgsOf l rs).length (sqEs l rs X) (ntI L)) :
    Calls Tryz.prog 19 #[v, vr, xv, tv] w fun e w' => e = .returned (.tuple #[.bool false, .int .i64 0]) ∧ Below w.heap.size w w' := by
  have hD : ordC (lgsOf l rs).length (sqEs l rs X) (ntI L) = none := by
    cases ho : ordC (lgsOf l rs).length (sqEs l rs X) (ntI L) with
    | none => rfl
    | some D => exact absurd (ord_brk ho) hb
  have hR : ordF (sqC l rs X) (lgsOf l rs).length (sqEs l rs X) (ntI L) = (23, []) := by
    rw [hc]
    unfold ordF
    rw [if_pos rfl, if_pos (gvn_ok hn hlt), ordR_none hD]
  exact ccheck_any v vr xv tv X (ntI L) l rs w hC (Sl.map_ ht (fun k : Nat => (k : Int)) (fun _ => rfl)) (by rw [ntI_len]; exact hl) _ hR (false, 0) rfl
/-- What Check says of any list: an error, a loop, or that all loops are broken by no fewer bars than are needed. -/
theorem chk_any (v vr xv tv : Value) (X q : List Int) (l : List BarD) (rs : List RunD) (w : World) (hC : Cg w v vr xv X l rs) (hc : sqC l rs X = 0) (ht : Ints w tv q) (hl : q.length ≤ 1000) :
    ∃ (b : Bool) (c : Int), ((b = true ∧ c = 0 ∧ (needC (lgsOf l rs).length (sqEs l rs X)).length ≤ q.length) ∨ (b = false)) ∧
    Calls Tryz.prog 19 #[v, vr, xv, tv] w fun e w' => e = .returned (.tuple #[.bool b, .int .i64 c]) ∧ Below w.heap.size w w' := by
  obtain ⟨R, hR⟩ : ∃ R, ordF (sqC l rs X) (lgsOf l rs).length (sqEs l rs X) q = R := ⟨_, rfl⟩
  have hk := ccheck_any v vr xv tv X q l rs w hC ht hl R hR _ rfl
  refine ⟨_, _, ?_, hk⟩
  by_cases h0 : R.1 = 0
  · left
    rw [hc] at hR
    obtain ⟨hg, ho⟩ := ordF_ok hR h0
    refine ⟨by unfold chkF; rw [h0]; rfl, by unfold chkF; rw [h0]; rfl, ?_⟩
    have hany : q.any (badN (lgsOf l rs).length) = false := by
      cases h : q.any (badN (lgsOf l rs).length) with
      | false => rfl
      | true => rw [gvn_bad h] at hg; omega
    obtain ⟨g1, _, _⟩ := gvn_nat hany
    have hb := ord_brk ho
    rw [g1] at hb
    have := (need_ok _ _).least _ hb
    rw [List.length_map] at this
    exact this
  · right
    unfold chkF
    exact dec_no h0
end
end Go.Proofs.YtamogedpgkofjaaGreat
