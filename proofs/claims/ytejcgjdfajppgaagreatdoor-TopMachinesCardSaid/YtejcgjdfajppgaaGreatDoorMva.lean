/-
  machine.Valid.
-/
import Derived.Test.YtejcgjdfajppgaaGreatDoorMwk
namespace Go.Proofs.YtejcgjdfajppgaaGreatDoor
section
open Go.RowKit
set_option linter.unusedVariables false
set_option linter.unusedSimpArgs false
attribute [local go_sem ↓] Go.wp_at_zero Go.wp_at_succ

def tmOk (x : WkD) : Bool := decide (0 ≤ x.cut) && (decide (0 ≤ x.bend) && (decide (x.cut ≤ 10000) && decide (x.bend ≤ 10000)))
def wk1 (l : List WkD) (i : Nat) (x : WkD) : Bool := nameB x.mark && (tmOk x && !((l.take i).any (sameM x.mark)))
def wkAt (l : List WkD) (i : Nat) : Bool := match l[i]? with | some x => wk1 l i x | none => true
def wksOk (l : List WkD) : Bool := (List.range l.length).all (wkAt l)
def FitW (l : List WkD) : Prop := ∀ x ∈ l, x.mark.size ≤ maxLen
theorem wkAt_some {l : List WkD} {i : Nat} {x : WkD} (h : l[i]? = some x) : wkAt l i = wk1 l i x := by unfold wkAt; rw [h]
theorem wks_no {l : List WkD} {i : Nat} {x : WkD} (h : l[i]? = some x) (hb : wk1 l i x = false) : wksOk l = false := by
  unfold wksOk
  rw [List.all_eq_false]
  exact ⟨i, List.mem_range.2 (List.getElem?_eq_some_iff.1 h).1, by rw [wkAt_some h, hb]; decide⟩
theorem wks_yes {l : List WkD} (h2 : ∀ (i : Nat) x, i < l.length → l[i]? = some x → wk1 l i x = true) : wksOk l = true := by
  unfold wksOk
  rw [List.all_eq_true]
  intro i hi
  have hi' := List.mem_range.1 hi
  rw [wkAt_some (List.getElem?_eq_getElem hi')]
  exact h2 i _ hi' (List.getElem?_eq_getElem hi')
def TmIn (l : List WkD) : Prop := ∀ x ∈ l, 0 ≤ x.cut ∧ 0 ≤ x.bend ∧ x.cut ≤ 10000 ∧ x.bend ≤ 10000
theorem tm_iff (x : WkD) : tmOk x = true ↔ (0 ≤ x.cut ∧ 0 ≤ x.bend ∧ x.cut ≤ 10000 ∧ x.bend ≤ 10000) := by
  unfold tmOk
  simp only [Bool.and_eq_true, decide_eq_true_eq]
theorem wks_tm {l : List WkD} (h : wksOk l = true) : TmIn l := by
  intro x hx
  obtain ⟨i, hi, rfl⟩ := List.getElem_of_mem hx
  unfold wksOk at h
  rw [List.all_eq_true] at h
  have h1 := h i (List.mem_range.2 hi)
  rw [wkAt_some (List.getElem?_eq_getElem hi)] at h1
  unfold wk1 at h1
  simp only [Bool.and_eq_true] at h1
  exact (tm_iff _).1 h1.2.1
theorem wk1_name {l : List WkD} {i : Nat} {x : WkD} (h : nameB x.mark = false) : wk1 l i x = false := by unfold wk1; rw [h]; rfl
theorem wk1_tm {l : List WkD} {i : Nat} {x : WkD} (h : ¬ (0 ≤ x.cut ∧ 0 ≤ x.bend ∧ x.cut ≤ 10000 ∧ x.bend ≤ 10000)) : wk1 l i x = false := by
  have : tmOk x = false := by
    cases hq : tmOk x
    · rfl
    · exact absurd ((tm_iff x).1 hq) h
  unfold wk1
  rw [this]
  simp
theorem wk1_any {l : List WkD} {i : Nat} {x : WkD} (h : (l.take i).any (sameM x.mark) = true) : wk1 l i x = false := by unfold wk1; rw [h]; simp
theorem wk1_yes {l : List WkD} {i : Nat} {x : WkD} (h : nameB x.mark = true) (h2 : 0 ≤ x.cut ∧ 0 ≤ x.bend ∧ x.cut ≤ 10000 ∧ x.bend ≤ 10000) (h3 : (l.take i).any (sameM x.mark) = false) : wk1 l i x = true := by
  unfold wk1
  rw [h, (tm_iff x).2 h2, h3]
  rfl
set_option maxHeartbeats 2000000 in
set_option maxRecDepth 100000 in
theorem mvalid_any (ao : Option Addr) (cap : Nat) (l : List WkD) (w : World) (hp : Wks w (.slice ao l.length cap) l) (hl : l.length ≤ 12) (hf : FitW l) (hcap : l.length ≤ cap) :
    Calls Tryz.prog 8 #[.slice ao l.length cap] w fun e w' => e = .returned (.bool (wksOk l)) ∧ Below w.heap.size w w' := by
  have HP := Lib.hid hp
  have HF := Lib.hid hf
  clear hp hf
  have e1 : decide ((l.length : Int) > 60) = false := by simp; omega
  go_enter Tryz.func8, Tryz.ntmps8
  go_wp2_with fail
  clear e1
  go_loopw [10] (fun i wr => ∃ k : Nat, k ≤ l.length ∧ i = .int .i64 (k : Int) ∧ Hid (Below w.heap.size w wr ∧ ∀ (j : Nat) y, j < k → l[j]? = some y → wk1 l j y = true)) (fun i _ => l.length - (intOf i).toNat)
  case atStart => exact ⟨0, Nat.zero_le _, rfl, Lib.hid ⟨Below.refl _ _, fun j _ hj => by omega⟩⟩
  case round =>
    obtain ⟨k, hk, rfl, HR⟩ := hrel
    by_cases hk2 : k < l.length
    · obtain ⟨x, hx⟩ : ∃ x, l[k]? = some x := ⟨_, List.getElem?_eq_getElem hk2⟩
      have HX := Lib.hid hx
      have hsz := HF.out x (List.mem_of_getElem? hx)
      obtain ⟨b, off, rfl, hbl, d0, d1, d2⟩ := wks_get (HP.out.below HR.out.1) hx
      obtain ⟨mk, ct, bd⟩ := x
      simp only at hsz d0 d1 d2
      obtain ⟨w5, hw5⟩ : ∃ w5, wr.alloc (.cells #[.string mk, .int .i64 ct, .int .i64 bd] 27) = w5 := ⟨_, rfl⟩
      obtain ⟨g, hg⟩ : ∃ g, wr.heap.size = g := ⟨_, rfl⟩
      have hb5 : Below wr.heap.size wr w5 := by rw [← hw5]; exact below_new _ _
      have BX : BlkIs w5 g 27 #[.string mk, .int .i64 ct, .int .i64 bd] := by rw [← hw5, ← hg]; exact BlkIs.new _ _ _
      have HB5 := Lib.hid (bstep HR.out.1 hb5)
      have x0 := BX.cell 0
      have x1 := BX.cell 1
      have x2 := BX.cell 2
      have lx := BX.lt
      have z0 : (0 : Int) ≤ (k : Int) := Int.natCast_nonneg _
      have z1 : (k : Int) < (l.length : Int) := by omega
      obtain ⟨po, pc, hsl, hpt⟩ := partW_of HP.out hcap k hk
      have htl : (l.take k).length = k := by rw [List.length_take]; omega
      have HA := Lib.hid (anyWks_any 25 #[.pointer (some ⟨g, 0, none⟩)] (sameM mk) _ (l.take k) w5 (hpt.below HB5.out) (by rw [htl]; omega) ⟨fun xs W => by go_simp, fun y W hW => wsame_any g ⟨mk, ct, bd⟩ y W ((hW.cell (p := ⟨g, 0, none⟩) lx).trans x0) (by have := hW.size; omega)⟩)
      obtain ⟨q, hq⟩ : ∃ q, nameB mk = q := ⟨_, rfl⟩
      have HQ := Lib.hid hq
      have HN := Lib.hid (name_any mk w5 hsz)
      rw [hq] at HN
      clear hx hb5 BX hpt htl hq
      cases q
      · have HNO := Lib.hid (wks_no HX.out (wk1_name HQ.out))
        go_wp2_with (go_at_call 24; refine HN.out.mono ?_; rintro e w9 ⟨rfl, rfl⟩)
        all_goals
          go_ret
          exact ⟨by rw [HNO.out]; rfl, HB5.out⟩
      · by_cases h1 : min ct bd < 0
        · have HNO := Lib.hid (wks_no HX.out (wk1_tm (by simp only; omega)))
          have e1 : decide (min ct bd < 0) = true := decide_eq_true h1
          go_wp2_with (go_at_call 24; refine HN.out.mono ?_; rintro e w9 ⟨rfl, rfl⟩)
          all_goals
            go_ret
            exact ⟨by rw [HNO.out]; rfl, HB5.out⟩
        · have e1 : decide (min ct bd < 0) = false := decide_eq_false h1
          by_cases h2 : max ct bd > 10000
          · have HNO := Lib.hid (wks_no HX.out (wk1_tm (by simp only; omega)))
            have e2 : decide (max ct bd > 10000) = true := decide_eq_true h2
            go_wp2_with (go_at_call 24; refine HN.out.mono ?_; rintro e w9 ⟨rfl, rfl⟩)
            all_goals
              go_ret
              exact ⟨by rw [HNO.out]; rfl, HB5.out⟩
          · have e2 : decide (max ct bd > 10000) = false := decide_eq_false h2
            have HT := Lib.hid (show 0 ≤ ct ∧ 0 ≤ bd ∧ ct ≤ 10000 ∧ bd ≤ 10000 by omega)
            obtain ⟨q2, hq2⟩ : ∃ q, (l.take k).any (sameM mk) = q := ⟨_, rfl⟩
            rw [hq2] at HA
            have HQ2 := Lib.hid hq2
            clear hq2
            cases q2
            · have HY := Lib.hid (wk1_yes (l := l) (i := k) (x := ⟨mk, ct, bd⟩) HQ.out HT.out HQ2.out)
              go_wp2_with (first
                | (go_at_call 24; refine HN.out.mono ?_; rintro e w9 ⟨rfl, rfl⟩)
                | (go_at_call 5; refine HA.out.mono ?_; rintro e w9 ⟨rfl, hb9⟩; have HB9 := Lib.hid (bstep HB5.out hb9); clear hb9))
              all_goals
                go_roundw
                case rel => exact ⟨k + 1, by omega, by go_num, Lib.hid ⟨HB9.out, fun j y hj hy => by
                  by_cases ej : j = k
                  · subst ej; rw [HX.out] at hy; cases hy; exact HY.out
                  · exact HR.out.2 j y (by omega) hy⟩⟩
                case measure => simp [intOf]; omega
            · have HNO := Lib.hid (wks_no HX.out (wk1_any HQ2.out))
              go_wp2_with (first
                | (go_at_call 24; refine HN.out.mono ?_; rintro e w9 ⟨rfl, rfl⟩)
                | (go_at_call 5; refine HA.out.mono ?_; rintro e w9 ⟨rfl, hb9⟩; have HB9 := Lib.hid (bstep HB5.out hb9); clear hb9))
              all_goals
                go_ret
                exact ⟨by rw [HNO.out]; rfl, HB9.out⟩
    · obtain rfl : k = l.length := by omega
      have HY := Lib.hid (wks_yes HR.out.2)
      go_wp2
      go_ret
      exact ⟨by rw [HY.out]; rfl, HR.out.1⟩
end
end Go.Proofs.YtejcgjdfajppgaaGreatDoor
