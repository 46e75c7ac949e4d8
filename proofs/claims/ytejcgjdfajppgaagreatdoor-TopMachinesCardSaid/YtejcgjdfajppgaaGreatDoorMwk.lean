/-
  Jobs of the shop: machine.Valid.
-/
import Derived.Test.YtejcgjdfajppgaaGreatDoorTbv
namespace Go.Proofs.YtejcgjdfajppgaaGreatDoor
section
open Go.RowKit
set_option linter.unusedVariables false
set_option linter.unusedSimpArgs false
attribute [local go_sem ↓] Go.wp_at_zero Go.wp_at_succ

structure WkD where
  mark : ByteArray
  cut : Int
  bend : Int
def wkCells (x : WkD) : List Value := [.string x.mark, .int .i64 x.cut, .int .i64 x.bend]
theorem wk_len (x : WkD) : (wkCells x).length = 3 := rfl
def wkv (x : WkD) : Value := .agg #[.string x.mark, .int .i64 x.cut, .int .i64 x.bend]
abbrev Wks (w : World) (v : Value) (l : List WkD) : Prop := Fl 3 wkCells w v l
theorem wks_get {w : World} {ao : Option Addr} {n cap k : Nat} {l : List WkD} {x : WkD} (h : Wks w (.slice ao n cap) l) (hx : l[k]? = some x) :
    ∃ b off, ao = some ⟨b, off, none⟩ ∧ b < w.heap.size ∧ w.cell? ⟨b, off + k * 3, none⟩ = some (.string x.mark) ∧ w.cell? ⟨b, off + k * 3 + 1, none⟩ = some (.int .i64 x.cut) ∧ w.cell? ⟨b, off + k * 3 + 2, none⟩ = some (.int .i64 x.bend) := by
  obtain ⟨b, off, rfl, hl, hc⟩ := Fl.get h hx
  exact ⟨b, off, rfl, hl, by simpa using hc 0 _ rfl, hc 1 _ rfl, hc 2 _ rfl⟩
def WkPred (F : Nat) (caps : Array Value) (p : WkD → Bool) (w : World) : Prop :=
  (∀ (xs : Array Value) (W : World), (callFunc F xs).run Tryz.prog W = .ok (.enter F xs) W) ∧
  ∀ (x : WkD) (W : World), Below w.heap.size w W → Calls Tryz.prog F (#[wkv x] ++ caps) W fun e w1 => e = .returned (.bool (p x)) ∧ Below W.heap.size W w1
set_option maxHeartbeats 1000000 in
theorem indexWks_any (F : Nat) (caps : Array Value) (p : WkD → Bool) (v : Value) (l : List WkD) (w : World) (hp : Wks w v l) (hl : l.length ≤ 140737488355328) (hC : WkPred F caps p w) :
    Calls Tryz.prog 18 #[v, .func (.func F) #[] caps] w fun e w' => e = .returned (.int .i64 (idxZ l p)) ∧ Below w.heap.size w w' := by
  obtain ⟨hF, hC⟩ := hC
  obtain ⟨ao, cap, rfl⟩ := hp.at_
  have HC := Lib.hid hC
  have HP := Lib.hid hp
  clear hC hp
  go_enter Tryz.func18, Tryz.ntmps18
  go_wp2
  go_loopw [5, 8] (fun _ i wr => ∃ k : Nat, k ≤ l.length ∧ i = .int .i64 k ∧ Below w.heap.size w wr ∧ Hid (∀ (j : Nat) y, j < k → l[j]? = some y → p y = false)) (fun _ i _ => l.length - (intOf i).toNat)
  case atStart => exact ⟨0, Nat.zero_le _, rfl, Below.refl _ _, fun j _ hj => by omega⟩
  case round =>
    obtain ⟨k, hk, rfl, hBr, hno⟩ := hrel
    by_cases hk2 : k < l.length
    · obtain ⟨x, hy⟩ : ∃ y, l[k]? = some y := ⟨_, List.getElem?_eq_getElem hk2⟩
      obtain ⟨b, off, rfl, hbl, c0, c1, c2⟩ := wks_get (HP.out.below hBr) hy
      have HK := Lib.hid (HC.out x wr hBr)
      have HY := Lib.hid hy
      obtain ⟨q, hq⟩ : ∃ q, p x = q := ⟨_, rfl⟩
      rw [hq] at HK
      have HQ := Lib.hid hq
      clear hy hq
      cases q
      · go_wp2_with fail
        refine HK.out.mono ?_
        rintro e w9 ⟨rfl, hb9⟩
        have hB9 := bstep hBr hb9
        go_wp2
        go_roundw
        case rel => exact ⟨k + 1, by omega, by go_num, hB9, fun j z hj hz => by
          by_cases e : j = k
          · subst e; rw [HY.out] at hz; cases hz; exact HQ.out
          · exact hno j z (by omega) hz⟩
        case measure => simp [intOf]; omega
      · have HR := Lib.hid (idxZ_hit hno.out HY.out HQ.out)
        go_wp2_with fail
        refine HK.out.mono ?_
        rintro e w9 ⟨rfl, hb9⟩
        have hB9 := bstep hBr hb9
        go_wp2
        go_ret
        exact ⟨ret_int HR.out.symm, hB9⟩
    · have HR := Lib.hid (idxZ_miss (p := p) (fun j y hy => hno j y (by have := (List.getElem?_eq_some_iff.1 hy).1; omega) hy))
      go_wp2
      go_ret
      exact ⟨ret_int HR.out.symm, hBr⟩
theorem anyWks_any (F : Nat) (caps : Array Value) (p : WkD → Bool) (v : Value) (l : List WkD) (w : World) (hp : Wks w v l) (hl : l.length ≤ 140737488355328) (hC : WkPred F caps p w) :
    Calls Tryz.prog 5 #[v, .func (.func F) #[] caps] w fun e w' => e = .returned (.bool (l.any p)) ∧ Below w.heap.size w w' := by
  have HI := Lib.hid (indexWks_any F caps p v l w hp hl hC)
  have HR := Lib.hid (idxZ_any l p)
  clear hC hp
  go_enter Tryz.func5, Tryz.ntmps5
  go_wp2_with fail
  refine HI.out.mono ?_
  rintro e w9 ⟨rfl, hb1⟩
  go_wp2
  go_ret
  exact ⟨ret_bool HR.out, hb1⟩
def sameM (m : ByteArray) (x : WkD) : Bool := decide (x.mark = m)
theorem wsame_any (g : Nat) (y x : WkD) (w : World) (hg : w.cell? ⟨g, 0, none⟩ = some (.string y.mark)) (hlt : g < w.heap.size) :
    Calls Tryz.prog 25 #[wkv x, .pointer (some ⟨g, 0, none⟩)] w fun e w' => e = .returned (.bool (sameM y.mark x)) ∧ Below w.heap.size w w' := by
  obtain ⟨t, c, b⟩ := x
  have H := Lib.hid (show decide (t = y.mark) = sameM y.mark ⟨t, c, b⟩ from rfl)
  have c2 := (heap_alloc_new w (.cells #[.string t, .int .i64 c, .int .i64 b] 27))
  have hb := bytes_beq t y.mark
  unfold wkv
  go_enter Tryz.func25, Tryz.ntmps25
  go_wp2
  go_ret
  exact ⟨ret_bool (by first | exact H.out | (rw [← H.out]; simp)), by go_grown⟩
theorem wlong_any (x : WkD) (w : World) :
    Calls Tryz.prog 6 #[wkv x] w fun e w' => e = .returned (.bool (decide ((x.mark.size : Int) > 60))) ∧ Below w.heap.size w w' := by
  obtain ⟨t, c, b⟩ := x
  unfold wkv
  go_enter Tryz.func6, Tryz.ntmps6
  go_wp2
  go_ret
  exact ⟨by first | rfl | simp, by go_grown⟩
theorem partW_run (ao : Option Addr) (n cap m : Nat) (h : m ≤ cap) (W : World) :
    (Instr.slice 22 (.slice ao n cap) none (some (.int .i64 (m : Int))) none).run Tryz.prog W = .ok (.slice (if cap = 0 then ao else ao.map (·.add (0 * 3))) (m - 0) (cap - 0)) W := by
  have h1 : (m : Int) ≤ (cap : Int) := by omega
  have h0 : (0 : Int) ≤ (m : Int) := by omega
  go_simp
theorem partW_of {w : World} {ao : Option Addr} {cap : Nat} {T : List WkD} (h : Wks w (.slice ao T.length cap) T) (hc : T.length ≤ cap) (m : Nat) (hm : m ≤ T.length) :
    ∃ po pc, (∀ W, (Instr.slice 22 (.slice ao T.length cap) none (some (.int .i64 (m : Int))) none).run Tryz.prog W = .ok (.slice po m pc) W) ∧ Wks w (.slice po m pc) (T.take m) := by
  refine ⟨if cap = 0 then ao else ao.map (·.add (0 * 3)), cap, fun W => partW_run ao T.length cap m (by omega) W, ?_⟩
  obtain ⟨ao', cap', hv, h2⟩ := h
  cases hv
  have e : (T.take m).length = m := by simp; omega
  refine ⟨_, cap, by rw [e], fun hl => ?_⟩
  obtain ⟨b, off, rfl, hlt, hcl⟩ := h2 (by rw [e] at hl; omega)
  have hp : (if cap = 0 then some (⟨b, off, none⟩ : Addr) else (some (⟨b, off, none⟩ : Addr)).map (·.add (0 * 3))) = some ⟨b, off, none⟩ := by
    split
    · rfl
    · simp [Addr.add]
  rw [hp]
  refine ⟨b, off, rfl, hlt, fun k x hx => hcl k x ?_⟩
  rw [List.getElem?_take] at hx
  split at hx
  · exact hx
  · cases hx
end
end Go.Proofs.YtejcgjdfajppgaaGreatDoor
