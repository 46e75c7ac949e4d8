/-
  Base texts, shaken by wip/shake.py: Sch.
-/
import Derived.WalkKit
import Derived.Test.YtejcgjdfajppgaaGreatDoorKsh
import Derived.Test.YtejcgjdfajppgaaGreatDoorKld
namespace Go.Proofs.YtejcgjdfajppgaaGreatDoor
section
section
open Go.RowKit
set_option linter.unusedVariables false
set_option linter.unusedSimpArgs false
attribute [local go_sem ↓] Go.wp_at_zero Go.wp_at_succ

def idxZ {α : Type} (l : List α) (p : α → Bool) : Int := match l.findIdx? p with | some i => (i : Int) | none => -1
theorem idxZ_hit {α : Type} {l : List α} {p : α → Bool} {k : Nat} {x : α} (hno : ∀ (j : Nat) y, j < k → l[j]? = some y → p y = false) (hx : l[k]? = some x) (hp : p x = true) : idxZ l p = k := by
  have hk : k < l.length := (List.getElem?_eq_some_iff.1 hx).1
  have : l.findIdx? p = some k := by
    rw [List.findIdx?_eq_some_iff_getElem]
    refine ⟨hk, ?_, fun j hj => ?_⟩
    · have := (List.getElem?_eq_some_iff.1 hx).2
      rw [this]; exact hp
    · have := hno j _ hj (List.getElem?_eq_getElem (by omega))
      rw [this]; simp
  simp [idxZ, this]
theorem idxZ_miss {α : Type} {l : List α} {p : α → Bool} (hno : ∀ (j : Nat) y, l[j]? = some y → p y = false) : idxZ l p = -1 := by
  have : l.findIdx? p = none := by
    rw [List.findIdx?_eq_none_iff]
    intro y hy
    obtain ⟨j, hj, rfl⟩ := List.getElem_of_mem hy
    exact hno j _ (List.getElem?_eq_getElem hj)
  simp [idxZ, this]
/-- Contracts of a predicate over bars. -/
def BarPred (F : Nat) (caps : Array Value) (p : BarD → Bool) (w : World) : Prop :=
  (∀ (xs : Array Value) (W : World), (callFunc F xs).run Tryz.prog W = .ok (.enter F xs) W) ∧
  ∀ (x : BarD) (u : Value) (W : World), Below w.heap.size w W → Calls Tryz.prog F (#[barv x u] ++ caps) W fun e w1 => e = .returned (.bool (p x)) ∧ Below W.heap.size W w1

set_option maxHeartbeats 1000000 in
theorem indexBars_any (F : Nat) (caps : Array Value) (p : BarD → Bool) (v : Value) (l : List BarD) (w : World) (hp : Bars w v l) (hl : l.length ≤ 140737488355328) (hC : BarPred F caps p w) :
    Calls Tryz.prog 55 #[v, .func (.func F) #[] caps] w fun e w' => e = .returned (.int .i64 (idxZ l p)) ∧ Below w.heap.size w w' := by
  obtain ⟨hF, hC⟩ := hC
  obtain ⟨ao, cap, rfl⟩ := hp.at_
  have HC := Lib.hid hC
  have HP := Lib.hid hp
  clear hC hp
  go_enter Tryz.func55, Tryz.ntmps55
  go_wp2
  go_loopw [5, 8] (fun _ i wr => ∃ k : Nat, k ≤ l.length ∧ i = .int .i64 k ∧ Below w.heap.size w wr ∧ Hid (∀ (j : Nat) y, j < k → l[j]? = some y → p y = false)) (fun _ i _ => l.length - (intOf i).toNat)
  case atStart => exact ⟨0, Nat.zero_le _, rfl, Below.refl _ _, fun j _ hj => by omega⟩
  case round =>
    obtain ⟨k, hk, rfl, hBr, hno⟩ := hrel
    by_cases hk2 : k < l.length
    · obtain ⟨x, hy⟩ : ∃ y, l[k]? = some y := ⟨_, List.getElem?_eq_getElem hk2⟩
      obtain ⟨b, off, rfl, hbl, c0, c1, c2, c3, uo, uc, c4, _⟩ := bars_get (HP.out.below hBr) hy
      have HK := Lib.hid (HC.out x (.slice uo x.dims.length uc) wr hBr)
      have HY := Lib.hid hy
      obtain ⟨q, hq⟩ : ∃ q, p x = q := ⟨_, rfl⟩
      rw [hq] at HK
      have HQ := Lib.hid hq
      clear hy hq
      cases q
      · go_wp2_with fail
        refine HK.out.mono ?_
        rintro e w9 ⟨rfl, hb9⟩
        have hB9 := bstep hBr hb9
        go_wp2
        go_roundw
        case rel => exact ⟨k + 1, by omega, by go_num, hB9, fun j z hj hz => by
          by_cases e : j = k
          · subst e; rw [HY.out] at hz; cases hz; exact HQ.out
          · exact hno j z (by omega) hz⟩
        case measure => simp [intOf]; omega
      · have HR := Lib.hid (idxZ_hit hno.out HY.out HQ.out)
        go_wp2_with fail
        refine HK.out.mono ?_
        rintro e w9 ⟨rfl, hb9⟩
        have hB9 := bstep hBr hb9
        go_wp2
        go_ret
        exact ⟨ret_int HR.out.symm, hB9⟩
    · have HR := Lib.hid (idxZ_miss (p := p) (fun j y hy => hno j y (by have := (List.getElem?_eq_some_iff.1 hy).1; omega) hy))
      go_wp2
      go_ret
      exact ⟨ret_int HR.out.symm, hBr⟩

def isMark (m : ByteArray) (b : BarD) : Bool := decide (b.mark = m)
def findZ (l : List BarD) (m : ByteArray) : Int := idxZ l (isMark m)

theorem sindex1_any (B : Nat) (m : ByteArray) (x : BarD) (u : Value) (w : World) (hB : w.cell? ⟨B, 0, none⟩ = some (.string m)) (hlt : B < w.heap.size) :
    Calls Tryz.prog 77 #[barv x u, .pointer (some ⟨B, 0, none⟩)] w fun e w' => e = .returned (.bool (isMark m x)) ∧ Below w.heap.size w w' := by
  have H := Lib.hid (bytes_beq x.mark m)
  obtain ⟨mk, s, c, co, ds⟩ := x
  go_enter Tryz.func77, Tryz.ntmps77
  go_wp2
  go_ret
  exact ⟨ret_bool H.out, by go_grown⟩
set_option maxRecDepth 100000 in
theorem sindex_any (v : Value) (l : List BarD) (m : ByteArray) (w : World) (hp : Bars w v l) (hl : l.length ≤ 140737488355328) :
    Calls Tryz.prog 54 #[v, .string m] w fun e w' => e = .returned (.int .i64 (findZ l m)) ∧ Below w.heap.size w w' := by
  have hb0 := below_new w (.cells #[.string m] 9)
  have HI := Lib.hid (indexBars_any 77 #[.pointer (some ⟨w.heap.size, 0, none⟩)] (isMark m) v l _ (hp.below hb0) hl ⟨fun xs W => by go_simp, fun x u W hW => sindex1_any w.heap.size m x u W ((hW.cell (p := ⟨w.heap.size, 0, none⟩) (by simp)).trans (by go_simp)) (by have := hW.size; simp at this; omega)⟩)
  clear hp
  go_enter Tryz.func54, Tryz.ntmps54
  go_wp2_with fail
  refine HI.out.mono ?_
  rintro e w9 ⟨rfl, hb1⟩
  have HB := Lib.hid (bstep hb0 hb1)
  clear hb1 hb0
  go_wp2
  go_ret
  exact ⟨rfl, HB.out⟩
end

section
open Go.RowKit
set_option linter.unusedVariables false
set_option linter.unusedSimpArgs false

def lineB (l : List BarD) (i : Nat) : Bool := match l[i]? with | some b => barOk b && decide (findZ l b.mark = i) | none => true
def schedOk (l : List BarD) : Bool := decide (l.length ≤ 60) && (List.range l.length).all (lineB l)
/-- Marks and dimensions of a size that memory holds. -/
def FitB (l : List BarD) : Prop := ∀ b ∈ l, b.mark.size ≤ maxLen ∧ b.dims.length ≤ 140737488355328
theorem lineB_some {l : List BarD} {i : Nat} {b : BarD} (h : l[i]? = some b) : lineB l i = (barOk b && decide (findZ l b.mark = i)) := by unfold lineB; rw [h]
theorem sched_big {l : List BarD} (h : 60 < l.length) : schedOk l = false := by unfold schedOk; rw [dec_no (by omega)]; rfl
theorem sched_no {l : List BarD} {i : Nat} {b : BarD} (h : l[i]? = some b) (hb : (barOk b && decide (findZ l b.mark = i)) = false) : schedOk l = false := by
  unfold schedOk
  rw [show (List.range l.length).all (lineB l) = false from List.all_eq_false.2 ⟨i, List.mem_range.2 (List.getElem?_eq_some_iff.1 h).1, by rw [lineB_some h, hb]; simp⟩]
  simp
theorem sched_yes {l : List BarD} (h : l.length ≤ 60) (h2 : ∀ (i : Nat) b, i < l.length → l[i]? = some b → (barOk b && decide (findZ l b.mark = i)) = true) : schedOk l = true := by
  unfold schedOk
  rw [dec_yes h, Bool.true_and, List.all_eq_true]
  intro i hi
  rw [List.mem_range] at hi
  rw [lineB_some (List.getElem?_eq_getElem hi)]
  exact h2 i _ hi (List.getElem?_eq_getElem hi)
set_option maxRecDepth 100000 in
set_option maxHeartbeats 2000000 in
theorem cvalid_any (v : Value) (l : List BarD) (w : World) (hp : Bars w v l) (hl : l.length ≤ 140737488355328) (hf : FitB l) :
    Calls Tryz.prog 32 #[v] w fun e w' => e = .returned (.bool (schedOk l)) ∧ Below w.heap.size w w' := by
  obtain ⟨ao, cap, rfl⟩ := hp.at_
  have HP := Lib.hid hp
  have HFI := Lib.hid hf
  clear hp hf
  rcases Nat.lt_or_ge 60 l.length with h60 | h60
  · have HF := Lib.hid (sched_big h60)
    have h61 : (60 : Int) < (l.length : Int) := by omega
    go_enter Tryz.func32, Tryz.ntmps32
    go_wp2
    go_ret
    exact ⟨ret_bool HF.out.symm, Below.refl _ _⟩
  · have h61 : ¬ (60 : Int) < (l.length : Int) := by omega
    have H60 := Lib.hid h60
    go_enter Tryz.func32, Tryz.ntmps32
    go_wp2
    go_loopw [10] (fun i wr => ∃ k : Nat, k ≤ l.length ∧ i = .int .i64 k ∧ Below w.heap.size w wr ∧ Hid (∀ (j : Nat) b, j < k → l[j]? = some b → (barOk b && decide (findZ l b.mark = j)) = true)) (fun i _ => l.length - (intOf i).toNat)
    case atStart => exact ⟨0, Nat.zero_le _, rfl, Below.refl _ _, fun j _ hj => by omega⟩
    case round =>
      obtain ⟨k, hk, rfl, hBr, hno⟩ := hrel
      by_cases hk2 : k < l.length
      · obtain ⟨x, hy⟩ : ∃ y, l[k]? = some y := ⟨_, List.getElem?_eq_getElem hk2⟩
        obtain ⟨b, off, rfl, hbl, c0, c1, c2, c3, uo, uc, c4, hdim⟩ := bars_get (HP.out.below hBr) hy
        have HY := Lib.hid hy
        obtain ⟨hm1, hm2⟩ := HFI.out x (List.mem_of_getElem? hy)
        have HVA := Lib.hid (svalid_any x (.slice uo x.dims.length uc) _ (Sl.below hdim (below_new _ (.cells #[.string x.mark, .int .i64 x.size, .int .i64 x.count, .int .i64 x.code, .slice uo x.dims.length uc] 42))) hm1 hm2)
        have HIX := Lib.hid (fun W (hW : Below w.heap.size w W) => sindex_any (.slice (some ⟨b, off, none⟩) l.length cap) l x.mark W (HP.out.below hW) hl)
        have HB := Lib.hid hBr
        obtain ⟨q, hq⟩ : ∃ q, barOk x = q := ⟨_, rfl⟩
        rw [hq] at HVA
        have HQ := Lib.hid hq
        clear hy hq hdim hm1 hm2 hBr
        cases q
        · have HF := Lib.hid (sched_no HY.out (by rw [HQ.out]; rfl))
          go_wp2_with fail
          refine HVA.out.mono ?_
          rintro e w9 ⟨rfl, hb9⟩
          have HB9 := Lib.hid (bstep (HB.out.alloc HB.out.size _) hb9)
          clear hb9
          go_wp2
          go_ret
          exact ⟨ret_bool HF.out.symm, HB9.out⟩
        · go_wp2_with fail
          refine HVA.out.mono ?_
          rintro e w9 ⟨rfl, hb9⟩
          have HB9 := Lib.hid (bstep (HB.out.alloc HB.out.size _) hb9)
          have d0 := ((BlkIs.new wr #[.string x.mark, .int .i64 x.size, .int .i64 x.count, .int .i64 x.code, .slice uo x.dims.length uc] 42).below hb9).cell 0
          clear hb9
          obtain ⟨fz, hfz⟩ : ∃ fz, findZ l x.mark = fz := ⟨_, rfl⟩
          rw [hfz] at HIX
          have HFZ := Lib.hid hfz
          clear hfz
          by_cases he : fz = k
          · have he2 : (fz != (k : Int)) = false := bne_no he
            have HE := Lib.hid he
            clear he
            go_wp2_with fail
            refine (HIX.out _ HB9.out).mono ?_
            rintro e w8 ⟨rfl, hb8⟩
            have HB8 := Lib.hid (bstep HB9.out hb8)
            clear hb8
            go_wp2
            go_roundw
            case rel => exact ⟨k + 1, by omega, by go_num, HB8.out, fun j z hj hz => by
              by_cases e : j = k
              · subst e; rw [HY.out] at hz; cases hz; rw [HQ.out, HFZ.out, dec_yes HE.out]; rfl
              · exact hno.out j z (by omega) hz⟩
            case measure => simp [intOf]; omega
          · have he2 : (fz != (k : Int)) = true := bne_yes he
            have HF := Lib.hid (sched_no HY.out (by rw [HQ.out, HFZ.out, dec_no he]; rfl))
            clear he
            go_wp2_with fail
            refine (HIX.out _ HB9.out).mono ?_
            rintro e w8 ⟨rfl, hb8⟩
            have HB8 := Lib.hid (bstep HB9.out hb8)
            clear hb8
            go_wp2
            go_ret
            exact ⟨ret_bool HF.out.symm, HB8.out⟩
      · have HT := Lib.hid (sched_yes H60.out (fun i b hi hb => hno.out i b (by omega) hb))
        go_wp2
        go_ret
        exact ⟨ret_bool HT.out.symm, hBr⟩
end

section
open Go.RowKit
set_option linter.unusedVariables false
set_option linter.unusedSimpArgs false

end

section
open Go.RowKit
set_option linter.unusedVariables false
set_option linter.unusedSimpArgs false

end

section
open Go.RowKit
set_option linter.unusedVariables false
set_option linter.unusedSimpArgs false

end

section
open Go.RowKit
set_option linter.unusedVariables false
set_option linter.unusedSimpArgs false

end
end
end Go.Proofs.YtejcgjdfajppgaaGreatDoor
