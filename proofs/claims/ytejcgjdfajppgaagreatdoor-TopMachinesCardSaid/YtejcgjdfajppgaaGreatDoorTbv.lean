/-
  What is wrong with bundles and a greatest mass.
-/
import Derived.Test.YtejcgjdfajppgaaGreatDoorTbu
namespace Go.Proofs.YtejcgjdfajppgaaGreatDoor
section
open Go.RowKit
set_option linter.unusedVariables false
set_option linter.unusedSimpArgs false
attribute [local go_sem ↓] Go.wp_at_zero Go.wp_at_succ

/-- Contracts of a predicate over bundles. -/
def BunPred (F : Nat) (caps : Array Value) (p : BunD → Bool) (w : World) : Prop :=
  (∀ (xs : Array Value) (W : World), (callFunc F xs).run Tryz.prog W = .ok (.enter F xs) W) ∧
  ∀ (x : BunD) (W : World), Below w.heap.size w W → Calls Tryz.prog F (#[bunv x] ++ caps) W fun e w1 => e = .returned (.bool (p x)) ∧ Below W.heap.size W w1
set_option maxHeartbeats 1000000 in
theorem indexBuns_any (F : Nat) (caps : Array Value) (p : BunD → Bool) (v : Value) (l : List BunD) (w : World) (hp : Buns w v l) (hl : l.length ≤ 140737488355328) (hC : BunPred F caps p w) :
    Calls Tryz.prog 83 #[v, .func (.func F) #[] caps] w fun e w' => e = .returned (.int .i64 (idxZ l p)) ∧ Below w.heap.size w w' := by
  obtain ⟨hF, hC⟩ := hC
  obtain ⟨ao, cap, rfl⟩ := hp.at_
  have HC := Lib.hid hC
  have HP := Lib.hid hp
  clear hC hp
  go_enter Tryz.func83, Tryz.ntmps83
  go_wp2
  go_loopw [5, 8] (fun _ i wr => ∃ k : Nat, k ≤ l.length ∧ i = .int .i64 k ∧ Below w.heap.size w wr ∧ Hid (∀ (j : Nat) y, j < k → l[j]? = some y → p y = false)) (fun _ i _ => l.length - (intOf i).toNat)
  case atStart => exact ⟨0, Nat.zero_le _, rfl, Below.refl _ _, fun j _ hj => by omega⟩
  case round =>
    obtain ⟨k, hk, rfl, hBr, hno⟩ := hrel
    by_cases hk2 : k < l.length
    · obtain ⟨x, hy⟩ : ∃ y, l[k]? = some y := ⟨_, List.getElem?_eq_getElem hk2⟩
      obtain ⟨b, off, rfl, hbl, c0, c1, c2, c3⟩ := buns_get (HP.out.below hBr) hy
      have HK := Lib.hid (HC.out x wr hBr)
      have HY := Lib.hid hy
      obtain ⟨q, hq⟩ : ∃ q, p x = q := ⟨_, rfl⟩
      rw [hq] at HK
      have HQ := Lib.hid hq
      clear hy hq
      cases q
      · go_wp2_with fail
        refine HK.out.mono ?_
        rintro e w9 ⟨rfl, hb9⟩
        have hB9 := bstep hBr hb9
        go_wp2
        go_roundw
        case rel => exact ⟨k + 1, by omega, by go_num, hB9, fun j z hj hz => by
          by_cases e : j = k
          · subst e; rw [HY.out] at hz; cases hz; exact HQ.out
          · exact hno j z (by omega) hz⟩
        case measure => simp [intOf]; omega
      · have HR := Lib.hid (idxZ_hit hno.out HY.out HQ.out)
        go_wp2_with fail
        refine HK.out.mono ?_
        rintro e w9 ⟨rfl, hb9⟩
        have hB9 := bstep hBr hb9
        go_wp2
        go_ret
        exact ⟨ret_int HR.out.symm, hB9⟩
    · have HR := Lib.hid (idxZ_miss (p := p) (fun j y hy => hno j y (by have := (List.getElem?_eq_some_iff.1 hy).1; omega) hy))
      go_wp2
      go_ret
      exact ⟨ret_int HR.out.symm, hBr⟩
theorem idxZ_any {α : Type} (l : List α) (p : α → Bool) : decide (0 ≤ idxZ l p) = l.any p := by
  cases h : l.findIdx? p with
  | none =>
    have : idxZ l p = -1 := by unfold idxZ; rw [h]
    rw [this]
    rw [List.findIdx?_eq_none_iff] at h
    rw [List.any_eq_false.2 (fun x hx => by rw [h x hx]; simp)]; rfl
  | some i =>
    have : idxZ l p = i := by unfold idxZ; rw [h]
    rw [this]
    rw [List.findIdx?_eq_some_iff_getElem] at h
    obtain ⟨h1, h2, _⟩ := h
    rw [List.any_eq_true.2 ⟨l[i], List.getElem_mem _, h2⟩]; simp
theorem anyBuns_any (F : Nat) (caps : Array Value) (p : BunD → Bool) (v : Value) (l : List BunD) (w : World) (hp : Buns w v l) (hl : l.length ≤ 140737488355328) (hC : BunPred F caps p w) :
    Calls Tryz.prog 60 #[v, .func (.func F) #[] caps] w fun e w' => e = .returned (.bool (l.any p)) ∧ Below w.heap.size w w' := by
  have HI := Lib.hid (indexBuns_any F caps p v l w hp hl hC)
  have HR := Lib.hid (idxZ_any l p)
  clear hC hp
  go_enter Tryz.func60, Tryz.ntmps60
  go_wp2_with fail
  refine HI.out.mono ?_
  rintro e w9 ⟨rfl, hb1⟩
  go_wp2
  go_ret
  exact ⟨ret_bool HR.out, hb1⟩
def overM (most : Int) (b : BunD) : Bool := decide (most < b.mass)
theorem lover_any (B : Nat) (m : Int) (x : BunD) (w : World) (hB : w.cell? ⟨B, 0, none⟩ = some (.int .i64 m)) (hlt : B < w.heap.size) :
    Calls Tryz.prog 61 #[bunv x, .pointer (some ⟨B, 0, none⟩)] w fun e w' => e = .returned (.bool (overM m x)) ∧ Below w.heap.size w w' := by
  obtain ⟨t, mk, co, ms⟩ := x
  have H := Lib.hid (show decide (m < ms) = overM m ⟨t, mk, co, ms⟩ from rfl)
  have c2 := (heap_alloc_new w (.cells #[.string t, .string mk, .int .i64 co, .int .i64 ms] 73))
  unfold bunv
  go_enter Tryz.func61, Tryz.ntmps61
  go_wp2
  go_ret
  exact ⟨ret_bool H.out, by go_grown⟩
def inM (m : Int) : Bool := decide (1 ≤ m) && decide (m ≤ 1099511627776)
theorem within_any (m : Int) (w : World) : Calls Tryz.prog 59 #[.int .i64 m] w fun e w' => e = .returned (.bool (inM m)) ∧ w = w' := by
  have H := Lib.hid (show inM m = (decide (1 ≤ m) && decide (m ≤ 1099511627776)) from rfl)
  by_cases h1 : 1 ≤ m
  · by_cases h2 : m ≤ 1099511627776
    · have H2 := Lib.hid (H.out.trans (by simp [h1, h2]) : inM m = true)
      go_enter Tryz.func59, Tryz.ntmps59
      go_wp2
      go_ret
      exact ⟨ret_bool H2.out.symm, rfl⟩
    · have H2 := Lib.hid (H.out.trans (by simp [h1, h2]) : inM m = false)
      go_enter Tryz.func59, Tryz.ntmps59
      go_wp2
      go_ret
      exact ⟨ret_bool H2.out.symm, rfl⟩
  · have H2 := Lib.hid (H.out.trans (by simp [h1]) : inM m = false)
    go_enter Tryz.func59, Tryz.ntmps59
    go_wp2
    go_ret
    exact ⟨ret_bool H2.out.symm, rfl⟩
/-- What is wrong with bundles and a greatest mass. -/
def givU (l : List BunD) (m : Int) : Int := if bunsOk l then (if inM m then (if l.any (overM m) then 20 else 0) else 2) else 1
set_option maxHeartbeats 1000000 in
theorem lgiven_any (v : Value) (l : List BunD) (m : Int) (w : World) (hp : Buns w v l) (hl : l.length ≤ 140737488355328) (hf : FitU l) :
    Calls Tryz.prog 37 #[v, .int .i64 m] w fun e w' => e = .returned (.int .i64 (givU l m)) ∧ Below w.heap.size w w' := by
  have hb0 := below_new w (.cells #[.int .i64 m] 3)
  have HB0 := Lib.hid hb0
  have BG := Lib.hid (BlkIs.new w #[.int .i64 m] 3)
  have HV := Lib.hid (bvalid_any v l _ (hp.below hb0) hl hf)
  have HG := Lib.hid (show givU l m = if bunsOk l then (if inM m then (if l.any (overM m) then 20 else 0) else 2) else 1 from rfl)
  have HP := Lib.hid hp
  clear hp hb0
  generalize bunsOk l = q1 at *
  go_enter Tryz.func37, Tryz.ntmps37
  go_wp2_with fail
  refine HV.out.mono ?_
  rintro e w1 ⟨rfl, hb1⟩
  have BG1 := Lib.hid (BG.out.below hb1)
  have HB1 := Lib.hid (bstep HB0.out hb1)
  have HA := Lib.hid (anyBuns_any 61 #[.pointer (some ⟨w.heap.size, 0, none⟩)] (overM m) v l w1 (HP.out.below HB1.out) hl ⟨fun xs W => by go_simp, fun x W hW => lover_any w.heap.size m x W ((hW.cell (p := ⟨w.heap.size, 0, none⟩) BG1.out.lt).trans (BG1.out.cell 0)) (Nat.lt_of_lt_of_le BG1.out.lt hW.size)⟩)
  clear hb1
  generalize l.any (overM m) = q3 at *
  cases q1
  · go_wp2
    go_ret
    exact ⟨ret_int HG.out.symm, HB1.out⟩
  · have c0 := BG1.out.cell 0
    have l0 := BG1.out.lt
    go_wp2_with fail
    refine (within_any _ _).mono ?_
    rintro e w2 ⟨rfl, rfl⟩
    generalize inM m = q2 at *
    cases q2
    · go_wp2
      go_ret
      exact ⟨ret_int HG.out.symm, HB1.out⟩
    · go_wp2_with fail
      refine HA.out.mono ?_
      rintro e w3 ⟨rfl, hb3⟩
      have HB3 := Lib.hid (bstep HB1.out hb3)
      clear hb3
      cases q3
      · go_wp2
        go_ret
        exact ⟨ret_int HG.out.symm, HB3.out⟩
      · go_wp2
        go_ret
        exact ⟨ret_int HG.out.symm, HB3.out⟩
end
end Go.Proofs.YtejcgjdfajppgaaGreatDoor
