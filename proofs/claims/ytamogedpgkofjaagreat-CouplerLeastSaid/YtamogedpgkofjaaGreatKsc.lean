/-
  Base texts, shaken by wip/shake.py: Sch.
-/
import Derived.WalkKit
import Derived.Test.YtamogedpgkofjaaGreatKsh
import Derived.Test.YtamogedpgkofjaaGreatKld
namespace Go.Proofs.YtamogedpgkofjaaGreat
section
section
open Go.RowKit
set_option linter.unusedVariables false
set_option linter.unusedSimpArgs false
attribute [local go_sem ↓] Go.wp_at_zero Go.wp_at_succ

def idxZ {α : Type} (l : List α) (p : α → Bool) : Int := match l.findIdx? p with | some i => (i : Int) | none => -1
theorem idxZ_hit {α : Type} {l : List α} {p : α → Bool} {k : Nat} {x : α} (hno : ∀ (j : Nat) y, j < k → l[j]? = some y → p y = false) (hx : l[k]? = some x) (hp : p x = true) : idxZ l p = k := by
  have hk : k < l.length := (List.getElem?_eq_some_iff.1 hx).1
  have : l.findIdx? p = some k := by
    rw [List.findIdx?_eq_some_iff_getElem]
    refine ⟨hk, ?_, fun j hj => ?_⟩
    · have := (List.getElem?_eq_some_iff.1 hx).2
      rw [this]; exact hp
    · have := hno j _ hj (List.getElem?_eq_getElem (by omega))
      rw [this]; simp
  simp [idxZ, this]
theorem idxZ_miss {α : Type} {l : List α} {p : α → Bool} (hno : ∀ (j : Nat) y, l[j]? = some y → p y = false) : idxZ l p = -1 := by
  have : l.findIdx? p = none := by
    rw [List.findIdx?_eq_none_iff]
    intro y hy
    obtain ⟨j, hj, rfl⟩ := List.getElem_of_mem hy
    exact hno j _ (List.getElem?_eq_getElem hj)
  simp [idxZ, this]
theorem idxZ_cases {α : Type} (l : List α) (p : α → Bool) : (∃ (k : Nat) (x : α), idxZ l p = k ∧ l[k]? = some x ∧ p x = true ∧ ∀ (j : Nat) y, j < k → l[j]? = some y → p y = false) ∨ (idxZ l p = -1 ∧ ∀ x ∈ l, p x = false) := by
  unfold idxZ
  cases h : l.findIdx? p with
  | some i =>
    obtain ⟨hi, hx, hn⟩ := List.findIdx?_eq_some_iff_getElem.1 h
    refine .inl ⟨i, l[i], rfl, List.getElem?_eq_getElem hi, hx, fun j y hj hy => ?_⟩
    have := hn j hj
    rw [(List.getElem?_eq_some_iff.1 hy).2] at this
    simpa using this
  | none =>
    rw [List.findIdx?_eq_none_iff] at h
    exact .inr ⟨rfl, fun x hx => by simpa using h x hx⟩
/-- Contracts of a predicate over bars. -/
def BarPred (F : Nat) (caps : Array Value) (p : BarD → Bool) (w : World) : Prop :=
  (∀ (xs : Array Value) (W : World), (callFunc F xs).run Tryz.prog W = .ok (.enter F xs) W) ∧
  ∀ (x : BarD) (u : Value) (W : World), Below w.heap.size w W → Calls Tryz.prog F (#[barv x u] ++ caps) W fun e w1 => e = .returned (.bool (p x)) ∧ Below W.heap.size W w1

set_option maxHeartbeats 1000000 in
theorem indexBars_any (F : Nat) (caps : Array Value) (p : BarD → Bool) (v : Value) (l : List BarD) (w : World) (hp : Bars w v l) (hl : l.length ≤ 140737488355328) (hC : BarPred F caps p w) :
    Calls Tryz.prog 69 #[v, .func (.func F) #[] caps] w fun e w' => e = .returned (.int .i64 (idxZ l p)) ∧ Below w.heap.size w w' := by
  obtain ⟨hF, hC⟩ := hC
  obtain ⟨ao, cap, rfl⟩ := hp.at_
  have HC := Lib.hid hC
  have HP := Lib.hid hp
  clear hC hp
  go_enter Tryz.func69, Tryz.ntmps69
  go_wp2
  go_loopw [5, 8] (fun _ i wr => ∃ k : Nat, k ≤ l.length ∧ i = .int .i64 k ∧ Below w.heap.size w wr ∧ Hid (∀ (j : Nat) y, j < k → l[j]? = some y → p y = false)) (fun _ i _ => l.length - (intOf i).toNat)
  case atStart => exact ⟨0, Nat.zero_le _, rfl, Below.refl _ _, fun j _ hj => by omega⟩
  case round =>
    obtain ⟨k, hk, rfl, hBr, hno⟩ := hrel
    by_cases hk2 : k < l.length
    · obtain ⟨x, hy⟩ : ∃ y, l[k]? = some y := ⟨_, List.getElem?_eq_getElem hk2⟩
      obtain ⟨b, off, rfl, hbl, c0, c1, c2, c3, uo, uc, c4, _⟩ := bars_get (HP.out.below hBr) hy
      have HK := Lib.hid (HC.out x (.slice uo x.dims.length uc) wr hBr)
      have HY := Lib.hid hy
      obtain ⟨q, hq⟩ : ∃ q, p x = q := ⟨_, rfl⟩
      rw [hq] at HK
      have HQ := Lib.hid hq
      clear hy hq
      cases q
      · go_wp2_with fail
        refine HK.out.mono ?_
        rintro e w9 ⟨rfl, hb9⟩
        have hB9 := bstep hBr hb9
        go_wp2
        go_roundw
        case rel => exact ⟨k + 1, by omega, by go_num, hB9, fun j z hj hz => by
          by_cases e : j = k
          · subst e; rw [HY.out] at hz; cases hz; exact HQ.out
          · exact hno j z (by omega) hz⟩
        case measure => simp [intOf]; omega
      · have HR := Lib.hid (idxZ_hit hno.out HY.out HQ.out)
        go_wp2_with fail
        refine HK.out.mono ?_
        rintro e w9 ⟨rfl, hb9⟩
        have hB9 := bstep hBr hb9
        go_wp2
        go_ret
        exact ⟨ret_int HR.out.symm, hB9⟩
    · have HR := Lib.hid (idxZ_miss (p := p) (fun j y hy => hno j y (by have := (List.getElem?_eq_some_iff.1 hy).1; omega) hy))
      go_wp2
      go_ret
      exact ⟨ret_int HR.out.symm, hBr⟩

def isMark (m : ByteArray) (b : BarD) : Bool := decide (b.mark = m)
def findZ (l : List BarD) (m : ByteArray) : Int := idxZ l (isMark m)

theorem sindex1_any (B : Nat) (m : ByteArray) (x : BarD) (u : Value) (w : World) (hB : w.cell? ⟨B, 0, none⟩ = some (.string m)) (hlt : B < w.heap.size) :
    Calls Tryz.prog 126 #[barv x u, .pointer (some ⟨B, 0, none⟩)] w fun e w' => e = .returned (.bool (isMark m x)) ∧ Below w.heap.size w w' := by
  have H := Lib.hid (bytes_beq x.mark m)
  obtain ⟨mk, s, c, co, ds⟩ := x
  go_enter Tryz.func126, Tryz.ntmps126
  go_wp2
  go_ret
  exact ⟨ret_bool H.out, by go_grown⟩
theorem lfind1_any (B : Nat) (m : ByteArray) (x : BarD) (u : Value) (w : World) (hB : w.cell? ⟨B, 0, none⟩ = some (.string m)) (hlt : B < w.heap.size) :
    Calls Tryz.prog 127 #[barv x u, .pointer (some ⟨B, 0, none⟩)] w fun e w' => e = .returned (.bool (isMark m x)) ∧ Below w.heap.size w w' := by
  have H := Lib.hid (bytes_beq x.mark m)
  obtain ⟨mk, s, c, co, ds⟩ := x
  go_enter Tryz.func127, Tryz.ntmps127
  go_wp2
  go_ret
  exact ⟨ret_bool H.out, by go_grown⟩

set_option maxRecDepth 100000 in
theorem sindex_any (v : Value) (l : List BarD) (m : ByteArray) (w : World) (hp : Bars w v l) (hl : l.length ≤ 140737488355328) :
    Calls Tryz.prog 101 #[v, .string m] w fun e w' => e = .returned (.int .i64 (findZ l m)) ∧ Below w.heap.size w w' := by
  have hb0 := below_new w (.cells #[.string m] 9)
  have HI := Lib.hid (indexBars_any 126 #[.pointer (some ⟨w.heap.size, 0, none⟩)] (isMark m) v l _ (hp.below hb0) hl ⟨fun xs W => by go_simp, fun x u W hW => sindex1_any w.heap.size m x u W ((hW.cell (p := ⟨w.heap.size, 0, none⟩) (by simp)).trans (by go_simp)) (by have := hW.size; simp at this; omega)⟩)
  clear hp
  go_enter Tryz.func101, Tryz.ntmps101
  go_wp2_with fail
  refine HI.out.mono ?_
  rintro e w9 ⟨rfl, hb1⟩
  have HB := Lib.hid (bstep hb0 hb1)
  clear hb1 hb0
  go_wp2
  go_ret
  exact ⟨rfl, HB.out⟩
set_option maxRecDepth 100000 in
theorem lfind_any (v : Value) (l : List BarD) (m : ByteArray) (w : World) (hp : Bars w v l) (hl : l.length ≤ 140737488355328) :
    Calls Tryz.prog 102 #[v, .string m] w fun e w' => e = .returned (.int .i64 (findZ l m)) ∧ Below w.heap.size w w' := by
  have hb0 := below_new w (.cells #[.string m] 9)
  have HI := Lib.hid (indexBars_any 127 #[.pointer (some ⟨w.heap.size, 0, none⟩)] (isMark m) v l _ (hp.below hb0) hl ⟨fun xs W => by go_simp, fun x u W hW => lfind1_any w.heap.size m x u W ((hW.cell (p := ⟨w.heap.size, 0, none⟩) (by simp)).trans (by go_simp)) (by have := hW.size; simp at this; omega)⟩)
  clear hp
  go_enter Tryz.func102, Tryz.ntmps102
  go_wp2_with fail
  refine HI.out.mono ?_
  rintro e w9 ⟨rfl, hb1⟩
  have HB := Lib.hid (bstep hb0 hb1)
  clear hb1 hb0
  go_wp2
  go_ret
  exact ⟨rfl, HB.out⟩
end

section
open Go.RowKit
set_option linter.unusedVariables false
set_option linter.unusedSimpArgs false

def lineB (l : List BarD) (i : Nat) : Bool := match l[i]? with | some b => barOk b && decide (findZ l b.mark = i) | none => true
def schedOk (l : List BarD) : Bool := decide (l.length ≤ 60) && (List.range l.length).all (lineB l)
/-- Marks and dimensions of a size that memory holds. -/
def FitB (l : List BarD) : Prop := ∀ b ∈ l, b.mark.size ≤ maxLen ∧ b.dims.length ≤ 140737488355328
theorem lineB_some {l : List BarD} {i : Nat} {b : BarD} (h : l[i]? = some b) : lineB l i = (barOk b && decide (findZ l b.mark = i)) := by unfold lineB; rw [h]
theorem sched_big {l : List BarD} (h : 60 < l.length) : schedOk l = false := by unfold schedOk; rw [dec_no (by omega)]; rfl
theorem sched_no {l : List BarD} {i : Nat} {b : BarD} (h : l[i]? = some b) (hb : (barOk b && decide (findZ l b.mark = i)) = false) : schedOk l = false := by
  unfold schedOk
  rw [show (List.range l.length).all (lineB l) = false from List.all_eq_false.2 ⟨i, List.mem_range.2 (List.getElem?_eq_some_iff.1 h).1, by rw [lineB_some h, hb]; simp⟩]
  simp
theorem sched_yes {l : List BarD} (h : l.length ≤ 60) (h2 : ∀ (i : Nat) b, i < l.length → l[i]? = some b → (barOk b && decide (findZ l b.mark = i)) = true) : schedOk l = true := by
  unfold schedOk
  rw [dec_yes h, Bool.true_and, List.all_eq_true]
  intro i hi
  rw [List.mem_range] at hi
  rw [lineB_some (List.getElem?_eq_getElem hi)]
  exact h2 i _ hi (List.getElem?_eq_getElem hi)
theorem sched_line {l : List BarD} (h : schedOk l = true) {i : Nat} {b : BarD} (hi : l[i]? = some b) : barOk b = true ∧ findZ l b.mark = i := by
  unfold schedOk at h
  rw [Bool.and_eq_true, List.all_eq_true] at h
  have := h.2 i (List.mem_range.2 (List.getElem?_eq_some_iff.1 hi).1)
  rw [lineB_some hi, Bool.and_eq_true, decide_eq_true_eq] at this
  exact this
set_option maxRecDepth 100000 in
set_option maxHeartbeats 2000000 in
theorem cvalid_any (v : Value) (l : List BarD) (w : World) (hp : Bars w v l) (hl : l.length ≤ 140737488355328) (hf : FitB l) :
    Calls Tryz.prog 76 #[v] w fun e w' => e = .returned (.bool (schedOk l)) ∧ Below w.heap.size w w' := by
  obtain ⟨ao, cap, rfl⟩ := hp.at_
  have HP := Lib.hid hp
  have HFI := Lib.hid hf
  clear hp hf
  rcases Nat.lt_or_ge 60 l.length with h60 | h60
  · have HF := Lib.hid (sched_big h60)
    have h61 : (60 : Int) < (l.length : Int) := by omega
    go_enter Tryz.func76, Tryz.ntmps76
    go_wp2
    go_ret
    exact ⟨ret_bool HF.out.symm, Below.refl _ _⟩
  · have h61 : ¬ (60 : Int) < (l.length : Int) := by omega
    have H60 := Lib.hid h60
    go_enter Tryz.func76, Tryz.ntmps76
    go_wp2
    go_loopw [10] (fun i wr => ∃ k : Nat, k ≤ l.length ∧ i = .int .i64 k ∧ Below w.heap.size w wr ∧ Hid (∀ (j : Nat) b, j < k → l[j]? = some b → (barOk b && decide (findZ l b.mark = j)) = true)) (fun i _ => l.length - (intOf i).toNat)
    case atStart => exact ⟨0, Nat.zero_le _, rfl, Below.refl _ _, fun j _ hj => by omega⟩
    case round =>
      obtain ⟨k, hk, rfl, hBr, hno⟩ := hrel
      by_cases hk2 : k < l.length
      · obtain ⟨x, hy⟩ : ∃ y, l[k]? = some y := ⟨_, List.getElem?_eq_getElem hk2⟩
        obtain ⟨b, off, rfl, hbl, c0, c1, c2, c3, uo, uc, c4, hdim⟩ := bars_get (HP.out.below hBr) hy
        have HY := Lib.hid hy
        obtain ⟨hm1, hm2⟩ := HFI.out x (List.mem_of_getElem? hy)
        have HVA := Lib.hid (svalid_any x (.slice uo x.dims.length uc) _ (Sl.below hdim (below_new _ (.cells #[.string x.mark, .int .i64 x.size, .int .i64 x.count, .int .i64 x.code, .slice uo x.dims.length uc] 104))) hm1 hm2)
        have HIX := Lib.hid (fun W (hW : Below w.heap.size w W) => sindex_any (.slice (some ⟨b, off, none⟩) l.length cap) l x.mark W (HP.out.below hW) hl)
        have HB := Lib.hid hBr
        obtain ⟨q, hq⟩ : ∃ q, barOk x = q := ⟨_, rfl⟩
        rw [hq] at HVA
        have HQ := Lib.hid hq
        clear hy hq hdim hm1 hm2 hBr
        cases q
        · have HF := Lib.hid (sched_no HY.out (by rw [HQ.out]; rfl))
          go_wp2_with fail
          refine HVA.out.mono ?_
          rintro e w9 ⟨rfl, hb9⟩
          have HB9 := Lib.hid (bstep (HB.out.alloc HB.out.size _) hb9)
          clear hb9
          go_wp2
          go_ret
          exact ⟨ret_bool HF.out.symm, HB9.out⟩
        · go_wp2_with fail
          refine HVA.out.mono ?_
          rintro e w9 ⟨rfl, hb9⟩
          have HB9 := Lib.hid (bstep (HB.out.alloc HB.out.size _) hb9)
          have d0 := ((BlkIs.new wr #[.string x.mark, .int .i64 x.size, .int .i64 x.count, .int .i64 x.code, .slice uo x.dims.length uc] 104).below hb9).cell 0
          clear hb9
          obtain ⟨fz, hfz⟩ : ∃ fz, findZ l x.mark = fz := ⟨_, rfl⟩
          rw [hfz] at HIX
          have HFZ := Lib.hid hfz
          clear hfz
          by_cases he : fz = k
          · have he2 : (fz != (k : Int)) = false := bne_no he
            have HE := Lib.hid he
            clear he
            go_wp2_with fail
            refine (HIX.out _ HB9.out).mono ?_
            rintro e w8 ⟨rfl, hb8⟩
            have HB8 := Lib.hid (bstep HB9.out hb8)
            clear hb8
            go_wp2
            go_roundw
            case rel => exact ⟨k + 1, by omega, by go_num, HB8.out, fun j z hj hz => by
              by_cases e : j = k
              · subst e; rw [HY.out] at hz; cases hz; rw [HQ.out, HFZ.out, dec_yes HE.out]; rfl
              · exact hno.out j z (by omega) hz⟩
            case measure => simp [intOf]; omega
          · have he2 : (fz != (k : Int)) = true := bne_yes he
            have HF := Lib.hid (sched_no HY.out (by rw [HQ.out, HFZ.out, dec_no he]; rfl))
            clear he
            go_wp2_with fail
            refine (HIX.out _ HB9.out).mono ?_
            rintro e w8 ⟨rfl, hb8⟩
            have HB8 := Lib.hid (bstep HB9.out hb8)
            clear hb8
            go_wp2
            go_ret
            exact ⟨ret_bool HF.out.symm, HB8.out⟩
      · have HT := Lib.hid (sched_yes H60.out (fun i b hi hb => hno.out i b (by omega) hb))
        go_wp2
        go_ret
        exact ⟨ret_bool HT.out.symm, hBr⟩
end

section
open Go.RowKit
set_option linter.unusedVariables false
set_option linter.unusedSimpArgs false

theorem path_near {x : BarD} (h : barOk x = true) : (pathOf x).all (ptIn 1048576) = true := by
  obtain ⟨h1, h2, h3, h4⟩ := barOk_parts h
  obtain ⟨m, s, c, co, ds⟩ := x
  simp only at h1 h2 h3 h4
  clear h
  rcases code_cases co with h | ⟨_, h, _⟩
  · rcases h with rfl | rfl | rfl | rfl | rfl | rfl | rfl | rfl
    · match ds, h1 with
      | [a], _ =>
        have ha := h2 a (by simp)
        simp [sumI] at h3
        simp [pathOf, pathN, posP, legsOf, stepP, List.range_succ, ptIn]
        omega
    · match ds, h1 with
      | [a, b], _ =>
        have ha := h2 a (by simp)
        have hb := h2 b (by simp)
        simp [sumI] at h3
        simp [pathOf, pathN, posP, legsOf, stepP, List.range_succ, ptIn]
        omega
    · match ds, h1 with
      | [a, b, c], _ =>
        have ha := h2 a (by simp)
        have hb := h2 b (by simp)
        have hc := h2 c (by simp)
        simp [sumI] at h3
        simp [pathOf, pathN, posP, legsOf, stepP, List.range_succ, ptIn]
        omega
    · match ds, h1 with
      | [a, b, c], _ =>
        have ha := h2 a (by simp)
        have hb := h2 b (by simp)
        have hc := h2 c (by simp)
        simp [sumI] at h3
        simp [pathOf, pathN, posP, legsOf, stepP, List.range_succ, ptIn]
        omega
    · match ds, h1 with
      | [a, b, c], _ =>
        have ha := h2 a (by simp)
        have hb := h2 b (by simp)
        have hc := h2 c (by simp)
        simp [sumI] at h3
        simp [pathOf, pathN, posP, legsOf, stepP, List.range_succ, ptIn]
        omega
    · match ds, h1 with
      | [a, b, c, d, e], _ =>
        have ha := h2 a (by simp)
        have hb := h2 b (by simp)
        have hc := h2 c (by simp)
        have hd := h2 d (by simp)
        have he := h2 e (by simp)
        simp [sumI] at h3
        simp [pathOf, pathN, posP, legsOf, stepP, List.range_succ, ptIn]
        omega
    · match ds, h1 with
      | [a, b, c], _ =>
        have ha := h2 a (by simp)
        have hb := h2 b (by simp)
        have hc := h2 c (by simp)
        simp [sumI] at h3
        simp [pathOf, pathN, posP, legsOf, stepP, List.range_succ, ptIn]
        omega
    · match ds, h1 with
      | [a, b, c], _ =>
        have ha := h2 a (by simp)
        have hb := h2 b (by simp)
        have hc := h2 c (by simp)
        simp [sumI] at h3
        simp [pathOf, pathN, posP, legsOf, stepP, List.range_succ, ptIn]
        omega
  · omega

theorem path_len {x : BarD} : (pathOf x).length ≤ 7 := by
  unfold pathOf
  rw [pathN_len]
  have := legs_len6 x.code
  omega

def turnedOf (b : BarD) (r : RunD) : List Pt := (pathOf b).map fun p => padd ⟨0, 0, 0⟩ (img r.tx r.ty p)
abbrev runv (r : RunD) : Value := .agg #[.string r.mark, .int .i64 r.tx, .int .i64 r.ty, .int .i64 r.at_.x, .int .i64 r.at_.y, .int .i64 r.at_.z, .int .i64 r.step.x, .int .i64 r.step.y, .int .i64 r.step.z, .int .i64 r.count]
/-- The line of a run's mark. -/
def lineOf (l : List BarD) (m : ByteArray) : Option BarD := if 0 ≤ findZ l m then l[(findZ l m).toNat]? else none
theorem lineOf_some {l : List BarD} {m : ByteArray} {b : BarD} (h : lineOf l m = some b) : ∃ i : Nat, findZ l m = i ∧ l[i]? = some b ∧ b.mark = m := by
  unfold lineOf at h
  split at h
  · rename_i h0
    rcases idxZ_cases l (isMark m) with ⟨k, x, h1, h2, h3, _⟩ | ⟨h1, _⟩
    · have e : findZ l m = k := h1
      rw [e] at h
      simp only [Int.toNat_natCast] at h
      rw [h2] at h
      cases h
      exact ⟨k, e, h2, by simpa [isMark] using h3⟩
    · have e : findZ l m = -1 := h1
      omega
  · cases h
theorem lineOf_none {l : List BarD} {m : ByteArray} (h : lineOf l m = none) : findZ l m = -1 := by
  unfold lineOf at h
  rcases idxZ_cases l (isMark m) with ⟨k, x, h1, h2, h3, _⟩ | ⟨h1, _⟩
  · exfalso
    have e : findZ l m = k := h1
    rw [if_pos (by omega), e] at h
    simp only [Int.toNat_natCast] at h
    rw [h2] at h
    cases h
  · exact h1

set_option maxRecDepth 100000 in
set_option maxHeartbeats 2000000 in
theorem turned_any (v : Value) (l : List BarD) (r : RunD) (b : BarD) (w : World) (hp : Bars w v l) (hl : l.length ≤ 140737488355328) (hf : FitB l) (hb : lineOf l r.mark = some b) (hok : barOk b = true) (ht : turnB r.tx r.ty = true) :
    Calls Tryz.prog 105 #[v, runv r] w fun e w' => ∃ o, e = .returned o ∧ Hid (OwnPts w' w.heap.size o (turnedOf b r)) ∧ Below w.heap.size w w' := by
  obtain ⟨i, hi1, hi2, hi3⟩ := lineOf_some hb
  obtain ⟨hm1, hm2⟩ := hf b (List.mem_of_getElem? hi2)
  obtain ⟨ao, cap, rfl⟩ := hp.at_
  have HP := Lib.hid hp
  have HIX := Lib.hid (fun W (hW : Below w.heap.size w W) => lfind_any (.slice ao l.length cap) l r.mark W (HP.out.below hW) hl)
  rw [hi1] at HIX
  have HT : Hid (turnedOf b r = (pathOf b).map fun p => padd ⟨0, 0, 0⟩ (img r.tx r.ty p)) := rfl
  have HSP := Lib.hid (fun u W (hu : Ints W u b.dims) => spath_any b u W hu hm1 hok)
  have HFP := Lib.hid (fun o W (ho : Pts W o (pathOf b)) => fpath_any r.tx r.ty ⟨0, 0, 0⟩ o (pathOf b) W ho (by have := path_len (x := b); omega) ht (by unfold PtIn; simp) (path_near hok))
  have hil : i < l.length := (List.getElem?_eq_some_iff.1 hi2).1
  have i0 : (0 : Int) ≤ (i : Int) := by omega
  have i1 : (i : Int) < (l.length : Int) := by omega
  have HI2 := Lib.hid hi2
  generalize turnedOf b r = T at *
  clear hp hf hb hok ht hi1 hi2 hi3 hm1 hm2
  obtain ⟨m, tx, ty, ⟨ax, ay, az⟩, ⟨sx, sy, sz⟩, c⟩ := r
  simp only at *
  go_enter Tryz.func105, Tryz.ntmps105
  go_wp2_with fail
  refine (HIX.out _ (by go_grown)).mono ?_
  rintro e w1 ⟨rfl, hb1⟩
  have HB1 := Lib.hid (bstep (by go_grown) hb1 : Below w.heap.size w w1)
  have BX1 := Lib.hid (((BlkIs.new w #[.string m, .int .i64 tx, .int .i64 ty, .int .i64 ax, .int .i64 ay, .int .i64 az, .int .i64 sx, .int .i64 sy, .int .i64 sz, .int .i64 c] 90)).below hb1)
  clear hb1
  obtain ⟨bb, off, rfl, hbl, c0, c1, c2, c3, uo, uc, c4, hdim⟩ := bars_get (HP.out.below HB1.out) HI2.out
  have HD := Lib.hid hdim
  clear hdim
  go_wp2_with fail
  refine (HSP.out _ _ HD.out).mono ?_
  rintro e w2 ⟨o, rfl, HO, hb2⟩
  have HB2 := Lib.hid (bstep HB1.out hb2)
  have BX2 := Lib.hid (BX1.out.below hb2)
  clear hb2 c0 c1 c2 c3 c4
  have d1 := BX2.out.cell 1
  have d2 := BX2.out.cell 2
  go_wp2_with fail
  refine (HFP.out _ _ (OwnN.fl pt_len HO.out)).mono ?_
  rintro e w3 ⟨o3, rfl, HO3, hb3⟩
  have HB3 := Lib.hid (bstep HB2.out hb3)
  have hz := HB2.out.size
  clear hb3
  go_wp2
  go_ret
  exact ⟨_, rfl, by rw [HT.out]; exact HO3.out.mono hz, HB3.out⟩
end

section
open Go.RowKit
set_option linter.unusedVariables false
set_option linter.unusedSimpArgs false

theorem run_eq_pt (a b : Pt) (W : World) : (Op.equalIn 10000 88 (.agg #[.int .i64 a.x, .int .i64 a.y, .int .i64 a.z]) (.agg #[.int .i64 b.x, .int .i64 b.y, .int .i64 b.z])).run Tryz.prog W = .ok (decide (a = b)) W := by
  obtain ⟨ax, ay, az⟩ := a
  obtain ⟨bx, by_, bz⟩ := b
  simp only [Pt.mk.injEq]
  by_cases h1 : ax = bx <;> by_cases h2 : ay = by_ <;> by_cases h3 : az = bz
  all_goals
    go_simp
  all_goals trace_state
end

section
open Go.RowKit
set_option linter.unusedVariables false
set_option linter.unusedSimpArgs false

def shiftP (r : RunD) (k : Int) (p : Pt) : Pt := if 0 < k then padd (padd p (pmul 1 r.at_)) (pmul k r.step) else padd p (pmul 1 r.at_)
def kOf (c : Int) (m : Nat) : Int := if m = 0 then 0 else c - 1
def chkB (T : List Pt) (r : RunD) (m : Nat) : Bool := T.all fun p => ptIn 1048576 (shiftP r (kOf r.count m) p)
def stepB (r : RunD) : Bool := decide (r.count ≤ 1) || (!decide (r.step = ⟨0, 0, 0⟩) && ptIn 2097152 r.step)
def rightB (l : List BarD) (r : RunD) : Bool :=
  match lineOf l r.mark with
  | none => false
  | some b => turnB r.tx r.ty && decide (1 ≤ r.count) && decide (r.count ≤ 1000) && ptIn 1048576 r.at_ && stepB r && (chkB (turnedOf b r) r 0 && chkB (turnedOf b r) r 1)
theorem rightB_none {l : List BarD} {r : RunD} (h : lineOf l r.mark = none) : rightB l r = false := by unfold rightB; rw [h]
theorem rightB_some {l : List BarD} {r : RunD} {b : BarD} (h : lineOf l r.mark = some b) : rightB l r = (turnB r.tx r.ty && decide (1 ≤ r.count) && decide (r.count ≤ 1000) && ptIn 1048576 r.at_ && stepB r && (chkB (turnedOf b r) r 0 && chkB (turnedOf b r) r 1)) := by unfold rightB; rw [h]
theorem pmul_one (p : Pt) : pmul 1 p = p := by unfold pmul; simp
theorem turned_bd {b : BarD} {r : RunD} (hok : barOk b = true) (ht : turnB r.tx r.ty = true) : ∀ p ∈ turnedOf b r, PtIn 8388608 p := by
  intro p hp
  unfold turnedOf at hp
  obtain ⟨q, hq, rfl⟩ := List.mem_map.1 hp
  obtain ⟨h1, h2⟩ := turn_axes ht
  have h3 := img_bd r.tx r.ty q h1 h2 (ptIn_iff.1 (List.all_eq_true.1 (path_near hok) q hq))
  have h4 : PtIn 0 (⟨0, 0, 0⟩ : Pt) := by unfold PtIn; simp
  exact (padd_bd h4 h3).mono (by omega)
theorem pstep_bd {s : Pt} {k : Int} (hs : PtIn 2097152 s) (h0 : 0 ≤ k) (h1 : k ≤ 999) : PtIn 4294967296 (pmul k s) := by
  obtain ⟨a1, a2, a3, a4, a5, a6⟩ := hs
  have key : ∀ x : Int, -2097152 ≤ x → x ≤ 2097152 → -4294967296 ≤ k * x ∧ k * x ≤ 4294967296 := by
    intro x hx1 hx2
    have e1 : k * x ≤ k * 2097152 := Int.mul_le_mul_of_nonneg_left hx2 h0
    have e2 : k * (-2097152) ≤ k * x := Int.mul_le_mul_of_nonneg_left hx1 h0
    omega
  obtain ⟨c1, c2⟩ := key s.x a1 a2
  obtain ⟨c3, c4⟩ := key s.y a3 a4
  obtain ⟨c5, c6⟩ := key s.z a5 a6
  exact ⟨c1, c2, c3, c4, c5, c6⟩
theorem chk_no {T : List Pt} {r : RunD} {m i : Nat} {p : Pt} (h : T[i]? = some p) (hp : ptIn 1048576 (shiftP r (kOf r.count m) p) = false) : chkB T r m = false := allN_no h hp
theorem chk_yes {T : List Pt} {r : RunD} {m : Nat} (h : ∀ (j : Nat) p, j < T.length → T[j]? = some p → ptIn 1048576 (shiftP r (kOf r.count m) p) = true) : chkB T r m = true := by
  unfold chkB
  rw [List.all_eq_true]
  intro p hp
  obtain ⟨j, hj, rfl⟩ := List.getElem_of_mem hp
  exact h j _ hj (List.getElem?_eq_getElem hj)

theorem and_no {cf : Nat → Bool} {m : Nat} (hm : m = 0 ∨ m = 1) (h : cf m = false) : (cf 0 && cf 1) = false := by
  rcases hm with rfl | rfl
  · rw [h]; rfl
  · rw [h, Bool.and_false]
theorem two_next {cf : Nat → Bool} {m : Nat} (h2 : m < 2) (h : (1 ≤ m → cf 0 = true) ∧ (2 ≤ m → cf 1 = true)) (hc : cf m = true) : (1 ≤ m + 1 → cf 0 = true) ∧ (2 ≤ m + 1 → cf 1 = true) := by
  obtain rfl | rfl : m = 0 ∨ m = 1 := by omega
  · exact ⟨fun _ => hc, fun h => by omega⟩
  · exact ⟨fun _ => h.1 (by omega), fun _ => hc⟩
set_option maxRecDepth 100000 in
set_option maxHeartbeats 8000000 in
theorem right_any (v : Value) (l : List BarD) (r : RunD) (w : World) (hp : Bars w v l) (hl : l.length ≤ 140737488355328) (hf : FitB l) (hs : schedOk l = true) :
    Calls Tryz.prog 77 #[v, runv r] w fun e w' => e = .returned (.bool (rightB l r)) ∧ Below w.heap.size w w' := by
  obtain ⟨ao, cap, rfl⟩ := hp.at_
  have HP := Lib.hid hp
  have HIX := Lib.hid (fun W (hW : Below w.heap.size w W) => lfind_any (.slice ao l.length cap) l r.mark W (HP.out.below hW) hl)
  cases hln : lineOf l r.mark with
  | none =>
    rw [lineOf_none hln] at HIX
    have HF := Lib.hid (rightB_none hln)
    generalize rightB l r = ok at *
    obtain ⟨m, tx, ty, ⟨ax, ay, az⟩, ⟨sx, sy, sz⟩, c⟩ := r
    simp only at *
    clear hp hf hs hln
    go_enter Tryz.func77, Tryz.ntmps77
    go_wp2_with fail
    refine (HIX.out _ (by go_grown)).mono ?_
    rintro e w1 ⟨rfl, hb1⟩
    have HB1 := Lib.hid (bstep (by go_grown) hb1 : Below w.heap.size w w1)
    clear hb1
    go_wp2
    go_ret
    exact ⟨ret_bool HF.out.symm, HB1.out⟩
  | some b =>
    obtain ⟨i, hi1, hi2, hi3⟩ := lineOf_some hln
    rw [hi1] at HIX
    have hok := (sched_line hs hi2).1
    have HO := Lib.hid (rightB_some hln)
    have HT := Lib.hid (fun W => turn_any r.tx r.ty W)
    have HQ := Lib.hid (fun W => isPlace_any r.at_ 1048576 W (by omega) (by omega))
    have HQ2 := Lib.hid (fun W => isPlace_any r.step 2097152 W (by omega) (by omega))
    have HTU := Lib.hid (fun (ht : turnB r.tx r.ty = true) W (hW : Below w.heap.size w W) => turned_any (.slice ao l.length cap) l r b W (HP.out.below hW) hl hf hln hok ht)
    have HTB := Lib.hid (fun (ht : turnB r.tx r.ty = true) => turned_bd (r := r) hok ht)
    have HTL : Hid ((turnedOf b r).length ≤ 7) := by unfold Hid turnedOf; rw [List.length_map]; exact path_len
    have HAT : Hid (ptIn 1048576 r.at_ = true → PtIn 1048576 (pmul 1 r.at_)) := fun h => by rw [pmul_one]; exact ptIn_iff.1 h
    have HSTB : Hid (ptIn 2097152 r.step = true → ∀ k : Int, 0 ≤ k → k ≤ 999 → PtIn 4294967296 (pmul k r.step)) := fun h k h0 h1 => pstep_bd (ptIn_iff.1 h) h0 h1
    have HSE := Lib.hid (fun W => run_eq_pt r.step ⟨0, 0, 0⟩ W)
    have HSB : Hid (stepB r = (decide (r.count ≤ 1) || (!decide (r.step = ⟨0, 0, 0⟩) && ptIn 2097152 r.step))) := rfl
    have HCN := Lib.hid (fun m j p => chk_no (T := turnedOf b r) (r := r) (m := m) (i := j) (p := p))
    have HCY := Lib.hid (fun m => chk_yes (T := turnedOf b r) (r := r) (m := m))
    have HSH : Hid (∀ k p, shiftP r k p = if 0 < k then padd (padd p (pmul 1 r.at_)) (pmul k r.step) else padd p (pmul 1 r.at_)) := fun _ _ => rfl
    have i0 : ¬ (i : Int) < 0 := by omega
    clear hp hf hs hln hi1 hi2 hi3 hok
    cases htb : turnB r.tx r.ty with
    | false =>
      have HF := Lib.hid (show rightB l r = false by rw [HO.out, htb]; rfl)
      go_enter Tryz.func77, Tryz.ntmps77
      go_wp2_with fail
      refine (HIX.out _ (by go_grown)).mono ?_
      rintro e w1 ⟨rfl, hb1⟩
      have HB1 := Lib.hid (bstep (by go_grown) hb1 : Below w.heap.size w w1)
      have BX1 : Hid (BlkIs w1 w.heap.size 90 #[.string r.mark, .int .i64 r.tx, .int .i64 r.ty, .int .i64 r.at_.x, .int .i64 r.at_.y, .int .i64 r.at_.z, .int .i64 r.step.x, .int .i64 r.step.y, .int .i64 r.step.z, .int .i64 r.count]) := (BlkIs.new w _ _).below hb1
      clear hb1
      have k1 := BX1.out.cell 1
      have k2 := BX1.out.cell 2
      go_wp2_with fail
      refine (HT.out _).mono ?_
      rintro e w2 ⟨rfl, hb2⟩
      have HB2 := Lib.hid (bstep HB1.out hb2)
      have BX2 := Lib.hid (BX1.out.below hb2)
      clear hb2 k1 k2
      rw [htb]
      have k3 := BX2.out.cell 3
      have k4 := BX2.out.cell 4
      have k5 := BX2.out.cell 5
      have k9 := BX2.out.cell 9
      go_wp2
      go_ret
      exact ⟨ret_bool HF.out.symm, HB2.out⟩
    | true =>
      by_cases hc1 : r.count < 1
      · have HF := Lib.hid (show rightB l r = false by rw [HO.out, dec_no (p := 1 ≤ r.count) (by omega)]; simp)
        go_enter Tryz.func77, Tryz.ntmps77
        go_wp2_with fail
        refine (HIX.out _ (by go_grown)).mono ?_
        rintro e w1 ⟨rfl, hb1⟩
        have HB1 := Lib.hid (bstep (by go_grown) hb1 : Below w.heap.size w w1)
        have BX1 : Hid (BlkIs w1 w.heap.size 90 #[.string r.mark, .int .i64 r.tx, .int .i64 r.ty, .int .i64 r.at_.x, .int .i64 r.at_.y, .int .i64 r.at_.z, .int .i64 r.step.x, .int .i64 r.step.y, .int .i64 r.step.z, .int .i64 r.count]) := (BlkIs.new w _ _).below hb1
        clear hb1
        have k1 := BX1.out.cell 1
        have k2 := BX1.out.cell 2
        go_wp2_with fail
        refine (HT.out _).mono ?_
        rintro e w2 ⟨rfl, hb2⟩
        have HB2 := Lib.hid (bstep HB1.out hb2)
        have BX2 := Lib.hid (BX1.out.below hb2)
        clear hb2 k1 k2
        rw [htb]
        have k3 := BX2.out.cell 3
        have k4 := BX2.out.cell 4
        have k5 := BX2.out.cell 5
        have k9 := BX2.out.cell 9
        go_wp2
        go_ret
        exact ⟨ret_bool HF.out.symm, HB2.out⟩
      · by_cases hc2 : 1000 < r.count
        · have HF := Lib.hid (show rightB l r = false by rw [HO.out, dec_no (p := r.count ≤ 1000) (by omega)]; simp)
          go_enter Tryz.func77, Tryz.ntmps77
          go_wp2_with fail
          refine (HIX.out _ (by go_grown)).mono ?_
          rintro e w1 ⟨rfl, hb1⟩
          have HB1 := Lib.hid (bstep (by go_grown) hb1 : Below w.heap.size w w1)
          have BX1 : Hid (BlkIs w1 w.heap.size 90 #[.string r.mark, .int .i64 r.tx, .int .i64 r.ty, .int .i64 r.at_.x, .int .i64 r.at_.y, .int .i64 r.at_.z, .int .i64 r.step.x, .int .i64 r.step.y, .int .i64 r.step.z, .int .i64 r.count]) := (BlkIs.new w _ _).below hb1
          clear hb1
          have k1 := BX1.out.cell 1
          have k2 := BX1.out.cell 2
          go_wp2_with fail
          refine (HT.out _).mono ?_
          rintro e w2 ⟨rfl, hb2⟩
          have HB2 := Lib.hid (bstep HB1.out hb2)
          have BX2 := Lib.hid (BX1.out.below hb2)
          clear hb2 k1 k2
          rw [htb]
          have k3 := BX2.out.cell 3
          have k4 := BX2.out.cell 4
          have k5 := BX2.out.cell 5
          have k9 := BX2.out.cell 9
          go_wp2
          go_ret
          exact ⟨ret_bool HF.out.symm, HB2.out⟩
        · cases hpa : ptIn 1048576 r.at_ with
          | false =>
            have HF := Lib.hid (show rightB l r = false by rw [HO.out, hpa]; simp)
            go_enter Tryz.func77, Tryz.ntmps77
            go_wp2_with fail
            refine (HIX.out _ (by go_grown)).mono ?_
            rintro e w1 ⟨rfl, hb1⟩
            have HB1 := Lib.hid (bstep (by go_grown) hb1 : Below w.heap.size w w1)
            have BX1 : Hid (BlkIs w1 w.heap.size 90 #[.string r.mark, .int .i64 r.tx, .int .i64 r.ty, .int .i64 r.at_.x, .int .i64 r.at_.y, .int .i64 r.at_.z, .int .i64 r.step.x, .int .i64 r.step.y, .int .i64 r.step.z, .int .i64 r.count]) := (BlkIs.new w _ _).below hb1
            clear hb1
            have k1 := BX1.out.cell 1
            have k2 := BX1.out.cell 2
            go_wp2_with fail
            refine (HT.out _).mono ?_
            rintro e w2 ⟨rfl, hb2⟩
            have HB2 := Lib.hid (bstep HB1.out hb2)
            have BX2 := Lib.hid (BX1.out.below hb2)
            clear hb2 k1 k2
            rw [htb]
            have k3 := BX2.out.cell 3
            have k4 := BX2.out.cell 4
            have k5 := BX2.out.cell 5
            have k9 := BX2.out.cell 9
            go_wp2_with fail
            refine (HQ.out _).mono ?_
            rintro e w3 ⟨rfl, hb3⟩
            have HB3 := Lib.hid (bstep HB2.out hb3)
            have BX3 := Lib.hid (BX2.out.below hb3)
            clear hb3 k3 k4 k5 k9
            rw [hpa]
            have k6 := BX3.out.cell 6
            have k7 := BX3.out.cell 7
            have k8 := BX3.out.cell 8
            have k9 := BX3.out.cell 9
            go_wp2
            go_ret
            exact ⟨ret_bool HF.out.symm, HB3.out⟩
          | true =>
            have HE : Hid (rightB l r = (stepB r && (chkB (turnedOf b r) r 0 && chkB (turnedOf b r) r 1))) := by
              unfold Hid
              rw [HO.out, htb, hpa, dec_yes (p := 1 ≤ r.count) (by omega), dec_yes (p := r.count ≤ 1000) (by omega)]; simp
            have hat := HAT.out hpa
            have HTU2 := Lib.hid (HTU.out htb)
            have HTB2 := Lib.hid (HTB.out htb)
            clear HTU HTB HAT HO
            by_cases hc3 : 1 < r.count
            · by_cases hse : r.step = ⟨0, 0, 0⟩
              · have HF := Lib.hid (show rightB l r = false by rw [HE.out, HSB.out, dec_no (p := r.count ≤ 1) (by omega), dec_yes hse]; rfl)
                have hq : ∀ W, (Op.equalIn 10000 88 (.agg #[.int .i64 r.step.x, .int .i64 r.step.y, .int .i64 r.step.z]) (.agg #[.int .i64 0, .int .i64 0, .int .i64 0])).run Tryz.prog W = .ok true W := fun W => by rw [← dec_yes hse]; exact HSE.out W
                clear hse
                go_enter Tryz.func77, Tryz.ntmps77
                go_wp2_with fail
                refine (HIX.out _ (by go_grown)).mono ?_
                rintro e w1 ⟨rfl, hb1⟩
                have HB1 := Lib.hid (bstep (by go_grown) hb1 : Below w.heap.size w w1)
                have BX1 : Hid (BlkIs w1 w.heap.size 90 #[.string r.mark, .int .i64 r.tx, .int .i64 r.ty, .int .i64 r.at_.x, .int .i64 r.at_.y, .int .i64 r.at_.z, .int .i64 r.step.x, .int .i64 r.step.y, .int .i64 r.step.z, .int .i64 r.count]) := (BlkIs.new w _ _).below hb1
                clear hb1
                have k1 := BX1.out.cell 1
                have k2 := BX1.out.cell 2
                go_wp2_with fail
                refine (HT.out _).mono ?_
                rintro e w2 ⟨rfl, hb2⟩
                have HB2 := Lib.hid (bstep HB1.out hb2)
                have BX2 := Lib.hid (BX1.out.below hb2)
                clear hb2 k1 k2
                rw [htb]
                have k3 := BX2.out.cell 3
                have k4 := BX2.out.cell 4
                have k5 := BX2.out.cell 5
                have k9 := BX2.out.cell 9
                go_wp2_with fail
                refine (HQ.out _).mono ?_
                rintro e w3 ⟨rfl, hb3⟩
                have HB3 := Lib.hid (bstep HB2.out hb3)
                have BX3 := Lib.hid (BX2.out.below hb3)
                clear hb3 k3 k4 k5 k9
                rw [hpa]
                have k6 := BX3.out.cell 6
                have k7 := BX3.out.cell 7
                have k8 := BX3.out.cell 8
                have k9 := BX3.out.cell 9
                go_wp2
                go_ret
                exact ⟨ret_bool HF.out.symm, HB3.out⟩
              · have hq : ∀ W, (Op.equalIn 10000 88 (.agg #[.int .i64 r.step.x, .int .i64 r.step.y, .int .i64 r.step.z]) (.agg #[.int .i64 0, .int .i64 0, .int .i64 0])).run Tryz.prog W = .ok false W := fun W => by rw [← dec_no hse]; exact HSE.out W
                cases hps : ptIn 2097152 r.step with
                | false =>
                  have HF := Lib.hid (show rightB l r = false by rw [HE.out, HSB.out, dec_no (p := r.count ≤ 1) (by omega), hps]; simp)
                  clear hse
                  go_enter Tryz.func77, Tryz.ntmps77
                  go_wp2_with fail
                  refine (HIX.out _ (by go_grown)).mono ?_
                  rintro e w1 ⟨rfl, hb1⟩
                  have HB1 := Lib.hid (bstep (by go_grown) hb1 : Below w.heap.size w w1)
                  have BX1 : Hid (BlkIs w1 w.heap.size 90 #[.string r.mark, .int .i64 r.tx, .int .i64 r.ty, .int .i64 r.at_.x, .int .i64 r.at_.y, .int .i64 r.at_.z, .int .i64 r.step.x, .int .i64 r.step.y, .int .i64 r.step.z, .int .i64 r.count]) := (BlkIs.new w _ _).below hb1
                  clear hb1
                  have k1 := BX1.out.cell 1
                  have k2 := BX1.out.cell 2
                  go_wp2_with fail
                  refine (HT.out _).mono ?_
                  rintro e w2 ⟨rfl, hb2⟩
                  have HB2 := Lib.hid (bstep HB1.out hb2)
                  have BX2 := Lib.hid (BX1.out.below hb2)
                  clear hb2 k1 k2
                  rw [htb]
                  have k3 := BX2.out.cell 3
                  have k4 := BX2.out.cell 4
                  have k5 := BX2.out.cell 5
                  have k9 := BX2.out.cell 9
                  go_wp2_with fail
                  refine (HQ.out _).mono ?_
                  rintro e w3 ⟨rfl, hb3⟩
                  have HB3 := Lib.hid (bstep HB2.out hb3)
                  have BX3 := Lib.hid (BX2.out.below hb3)
                  clear hb3 k3 k4 k5 k9
                  rw [hpa]
                  have k6 := BX3.out.cell 6
                  have k7 := BX3.out.cell 7
                  have k8 := BX3.out.cell 8
                  have k9 := BX3.out.cell 9
                  go_wp2_with fail
                  refine (HQ2.out _).mono ?_
                  rintro e w4 ⟨rfl, hb4⟩
                  have HB4 := Lib.hid (bstep HB3.out hb4)
                  have BX4 := Lib.hid (BX3.out.below hb4)
                  clear hb4 k6 k7 k8 k9
                  rw [hps]
                  go_wp2
                  go_ret
                  exact ⟨ret_bool HF.out.symm, HB4.out⟩
                | true =>
                  have HG := Lib.hid (show rightB l r = (chkB (turnedOf b r) r 0 && chkB (turnedOf b r) r 1) by rw [HE.out, HSB.out, dec_no (p := r.count ≤ 1) (by omega), hps, dec_no hse]; rfl)
                  have hst := HSTB.out hps
                  have dd0 : decide ((i : Int) < 0) = false := dec_no i0
                  have dd1 : decide (r.count < 1) = false := dec_no hc1
                  have dd2 : decide (1000 < r.count) = false := dec_no hc2
                  have dd3 : decide (1 < r.count) = true := dec_yes hc3
                  clear hse
                  go_enter Tryz.func77, Tryz.ntmps77
                  go_wp2_with fail
                  refine (HIX.out _ (by go_grown)).mono ?_
                  rintro e w1 ⟨rfl, hb1⟩
                  have HB1 := Lib.hid (bstep (by go_grown) hb1 : Below w.heap.size w w1)
                  have BX1 : Hid (BlkIs w1 w.heap.size 90 #[.string r.mark, .int .i64 r.tx, .int .i64 r.ty, .int .i64 r.at_.x, .int .i64 r.at_.y, .int .i64 r.at_.z, .int .i64 r.step.x, .int .i64 r.step.y, .int .i64 r.step.z, .int .i64 r.count]) := (BlkIs.new w _ _).below hb1
                  clear hb1
                  have k1 := BX1.out.cell 1
                  have k2 := BX1.out.cell 2
                  go_wp2_with fail
                  refine (HT.out _).mono ?_
                  rintro e w2 ⟨rfl, hb2⟩
                  have HB2 := Lib.hid (bstep HB1.out hb2)
                  have BX2 := Lib.hid (BX1.out.below hb2)
                  clear hb2 k1 k2
                  rw [htb]
                  have k3 := BX2.out.cell 3
                  have k4 := BX2.out.cell 4
                  have k5 := BX2.out.cell 5
                  have k9 := BX2.out.cell 9
                  go_wp2_with fail
                  refine (HQ.out _).mono ?_
                  rintro e w3 ⟨rfl, hb3⟩
                  have HB3 := Lib.hid (bstep HB2.out hb3)
                  have BX3 := Lib.hid (BX2.out.below hb3)
                  clear hb3 k3 k4 k5 k9
                  rw [hpa]
                  have k6 := BX3.out.cell 6
                  have k7 := BX3.out.cell 7
                  have k8 := BX3.out.cell 8
                  have k9 := BX3.out.cell 9
                  go_wp2_with fail
                  refine (HQ2.out _).mono ?_
                  rintro e w4 ⟨rfl, hb4⟩
                  have HB4 := Lib.hid (bstep HB3.out hb4)
                  have BX4 := Lib.hid (BX3.out.below hb4)
                  clear hb4 k6 k7 k8 k9
                  rw [hps]
                  have k0 := BX4.out.cell 0
                  have k1 := BX4.out.cell 1
                  have k2 := BX4.out.cell 2
                  have k3 := BX4.out.cell 3
                  have k4 := BX4.out.cell 4
                  have k5 := BX4.out.cell 5
                  have k6 := BX4.out.cell 6
                  have k7 := BX4.out.cell 7
                  have k8 := BX4.out.cell 8
                  have k9 := BX4.out.cell 9
                  have HKB : Hid (1 < r.count → ∀ k : Int, 0 ≤ k → k ≤ 999 → PtIn 4294967296 (pmul k r.step)) := fun _ => hst
                  go_wp2_with fail
                  refine (HTU2.out _ HB4.out).mono ?_
                  rintro e w5 ⟨o, rfl, HOW, hb5⟩
                  have HB5 := Lib.hid (bstep HB4.out hb5)
                  have BX5 := Lib.hid (BX4.out.below hb5)
                  obtain ⟨oo, oc, rfl⟩ := HOW.out.shape
                  have HOP := Lib.hid (OwnN.fl pt_len HOW.out)
                  have k9 := BX5.out.cell 9
                  have htl := HTL.out
                  clear hb5 k0 k1 k2 k3 k4 k5 k6 k7 k8
                  go_wp2_with fail
                  obtain ⟨w6, hw6⟩ : ∃ w6, w5.alloc (.cells #[.int .i64 0, .int .i64 (r.count - 1)] 3) = w6 := ⟨_, rfl⟩
                  have BL6 : Hid (BlkIs w6 w5.heap.size 3 #[.int .i64 0, .int .i64 (r.count - 1)]) := by rw [← hw6]; exact BlkIs.new _ _ _
                  have BX6 : Hid (BlkIs w6 w.heap.size 90 #[.string r.mark, .int .i64 r.tx, .int .i64 r.ty, .int .i64 r.at_.x, .int .i64 r.at_.y, .int .i64 r.at_.z, .int .i64 r.step.x, .int .i64 r.step.y, .int .i64 r.step.z, .int .i64 r.count]) := by rw [← hw6]; exact BX5.out.alloc _
                  have HO6 : Hid (Pts w6 (.slice oo (turnedOf b r).length oc) (turnedOf b r)) := by rw [← hw6]; exact HOP.out.below (below_new _ _)
                  have HB6 : Hid (Below w.heap.size w w6) := by rw [← hw6]; exact HB5.out.alloc HB5.out.size _
                  rw [hw6]
                  clear hw6 k9
                  go_loopw [61] (fun i wr => ∃ m : Nat, m ≤ 2 ∧ i = .int .i64 m ∧ Below w6.heap.size w6 wr ∧ Hid ((1 ≤ m → chkB (turnedOf b r) r 0 = true) ∧ (2 ≤ m → chkB (turnedOf b r) r 1 = true))) (fun i _ => 2 - (intOf i).toNat)
                  case atStart => exact ⟨0, by omega, rfl, Below.refl _ _, ⟨fun h => by omega, fun h => by omega⟩⟩
                  case round =>
                    obtain ⟨m, hm, rfl, hBr, hR⟩ := hrel
                    by_cases h2 : m < 2
                    · obtain ⟨kk, hkk⟩ : ∃ kk, kOf r.count m = kk := ⟨_, rfl⟩
                      have hk0 : 0 ≤ kk := by rw [← hkk]; unfold kOf; split <;> omega
                      have hk1 : kk ≤ 999 := by rw [← hkk]; unfold kOf; split <;> omega
                      have hk2 : 0 < kk → 1 < r.count := by rw [← hkk]; unfold kOf; split <;> omega
                      have hcell : wr.cell? ⟨w5.heap.size, 0 + m, none⟩ = some (.int .i64 kk) := by
                        rw [Nat.zero_add, (BL6.out.below hBr).cell m, ← hkk]
                        obtain rfl | rfl : m = 0 ∨ m = 1 := by omega
                        · rfl
                        · rfl
                      have hcell0 : wr.cell? ⟨w5.heap.size, m, none⟩ = some (.int .i64 kk) := by rw [Nat.zero_add] at hcell; exact hcell
                      have dm : decide ((m : Int) < 2) = true := dec_yes (by omega)
                      have HK := Lib.hid hkk
                      have HK2 := Lib.hid hk2
                      have HBW := Lib.hid hBr
                      have HOr := Lib.hid (HO6.out.below hBr)
                      have BXr := Lib.hid (BX6.out.below hBr)
                      clear hkk hk2 hBr
                      obtain ⟨wo, rfl⟩ : ∃ wo : World, wo = wr := ⟨_, rfl⟩
                      go_wp2_with fail
                      go_loopw [67] (fun i wq => ∃ j : Nat, j ≤ (turnedOf b r).length ∧ i = .int .i64 j ∧ Below wo.heap.size wo wq ∧ Hid (∀ (t : Nat) p, t < j → (turnedOf b r)[t]? = some p → ptIn 1048576 (shiftP r (kOf r.count m) p) = true)) (fun i _ => (turnedOf b r).length - (intOf i).toNat)
                      case atStart => exact ⟨0, Nat.zero_le _, rfl, Below.refl _ _, fun t p ht => by omega⟩
                      case round =>
                        obtain ⟨j, hj, rfl, hBq, hN⟩ := hrel
                        by_cases hj2 : j < (turnedOf b r).length
                        · obtain ⟨p, hy⟩ : ∃ y, (turnedOf b r)[j]? = some y := ⟨_, List.getElem?_eq_getElem hj2⟩
                          obtain ⟨bb, off, rfl, hbl, c0, c1, c2⟩ := pts_get (HOr.out.below hBq) hy
                          have HY := Lib.hid hy
                          have hpb := HTB2.out p (List.mem_of_getElem? hy)
                          have HP1 := Lib.hid (fun W => lplus_any p r.at_ 1 W (hpb.mono (by omega)) (hat.mono (by omega)))
                          have hq1 := padd_bd hpb hat
                          have HBq := Lib.hid (bstep (bstep HB6.out HBW.out) hBq)
                          have HBq0 := Lib.hid hBq
                          have BXq := Lib.hid (BXr.out.below hBq)
                          have k3 := BXq.out.cell 3
                          have k4 := BXq.out.cell 4
                          have k5 := BXq.out.cell 5
                          have hzq := BXq.out.lt
                          clear hy hBq hpb
                          go_wp2_with fail
                          refine (HP1.out _).mono ?_
                          rintro e w7 ⟨rfl, hb7⟩
                          have HSH1 := Lib.hid (HSH.out kk p)
                          have HQ1 : Hid (padd p (pmul 1 r.at_) = padd p (pmul 1 r.at_)) := rfl
                          generalize hq : padd p (pmul 1 r.at_) = q1 at *
                          clear hq HQ1
                          have HB7 := Lib.hid (bstep (HBq.out.alloc HBq.out.size _) hb7)
                          have HB70 := Lib.hid (bstep (HBq0.out.alloc HBq0.out.size _) hb7)
                          have BX7 := Lib.hid ((BXq.out.alloc _).below hb7)
                          clear hb7 k3 k4 k5 c0 c1 c2
                          by_cases hkp : 0 < kk
                          · have HP2 := Lib.hid (fun W => lplus_any q1 r.step kk W (hq1.mono (by omega)) ((HKB.out (HK2.out hkp) kk hk0 hk1).mono (by omega)))
                            have k6 := BX7.out.cell 6
                            have k7 := BX7.out.cell 7
                            have k8 := BX7.out.cell 8
                            have hz7 := BX7.out.lt
                            go_wp2_with fail
                            refine (HP2.out _).mono ?_
                            rintro e w8 ⟨rfl, hb8⟩
                            have HSH2 := Lib.hid (show shiftP r kk p = padd q1 (pmul kk r.step) by rw [HSH1.out, if_pos hkp])
                            generalize hq : padd q1 (pmul kk r.step) = q2 at *
                            clear hq
                            have HIP := Lib.hid (fun W => isPlace_any q2 1048576 W (by omega) (by omega))
                            have HB8 := Lib.hid (bstep (HB7.out.alloc HB7.out.size _) hb8)
                            have HB80 := Lib.hid (bstep (HB70.out.alloc HB70.out.size _) hb8)
                            have BT8 := (BlkIs.new w7 #[.int .i64 q1.x, .int .i64 q1.y, .int .i64 q1.z] 88).below hb8
                            have t0 := BT8.cell 0
                            have t1 := BT8.cell 1
                            have t2 := BT8.cell 2
                            have tf := BT8.free
                            have hw7 := HB7.out.size
                            have hw70 := HB70.out.size
                            clear hb8 k6 k7 k8 BT8
                            cases hpx : ptIn 1048576 q2 with
                            | false =>
                              have HF := Lib.hid (show rightB l r = false by rw [HG.out]; exact and_no (m := m) (by omega) (HCN.out m j p HY.out (by rw [HK.out, HSH2.out]; exact hpx)))
                              go_wp2_with fail
                              refine (HIP.out _).mono ?_
                              rintro e w9 ⟨rfl, hb9⟩
                              have HB9 := Lib.hid (bstep (((HB8.out.setCell (by simp; omega) _).setCell (by simp; omega) _).setCell (by simp; omega) _) hb9)
                              clear hb9
                              rw [hpx]
                              go_wp2
                              go_ret
                              exact ⟨ret_bool HF.out.symm, HB9.out⟩
                            | true =>
                              go_wp2_with fail
                              refine (HIP.out _).mono ?_
                              rintro e w9 ⟨rfl, hb9⟩
                              have HB9 := Lib.hid (bstep (((HB80.out.setCell (by simp; omega) _).setCell (by simp; omega) _).setCell (by simp; omega) _) hb9)
                              clear hb9
                              rw [hpx]
                              go_wp2
                              go_roundw
                              case rel =>
                                have HNX : Hid (∀ (t : Nat) z, t < j + 1 → (turnedOf b r)[t]? = some z → ptIn 1048576 (shiftP r (kOf r.count m) z) = true) := fun t z ht hz => by
                                  by_cases e : t = j
                                  · subst e; rw [HY.out] at hz; cases hz; rw [HK.out, HSH2.out]; exact hpx
                                  · exact hN.out t z (by omega) hz
                                first
                                  | exact ⟨j + 1, by omega, by go_num, HB9.out, HNX.out⟩
                                  | ((repeat apply Exists.intro); refine ⟨?_, rfl⟩; exact ⟨j + 1, by omega, by go_num, HB9.out, HNX.out⟩)
                              case measure => simp [intOf]; omega
                          · have HSH2 := Lib.hid (show shiftP r kk p = q1 by rw [HSH1.out, if_neg hkp])
                            have HIP := Lib.hid (fun W => isPlace_any q1 1048576 W (by omega) (by omega))
                            cases hpx : ptIn 1048576 q1 with
                            | false =>
                              have HF := Lib.hid (show rightB l r = false by rw [HG.out]; exact and_no (m := m) (by omega) (HCN.out m j p HY.out (by rw [HK.out, HSH2.out]; exact hpx)))
                              go_wp2_with fail
                              refine (HIP.out _).mono ?_
                              rintro e w9 ⟨rfl, hb9⟩
                              have HB9 := Lib.hid (bstep (HB7.out.alloc HB7.out.size _) hb9)
                              clear hb9
                              rw [hpx]
                              go_wp2
                              go_ret
                              exact ⟨ret_bool HF.out.symm, HB9.out⟩
                            | true =>
                              go_wp2_with fail
                              refine (HIP.out _).mono ?_
                              rintro e w9 ⟨rfl, hb9⟩
                              have HB9 := Lib.hid (bstep (HB70.out.alloc HB70.out.size _) hb9)
                              clear hb9
                              rw [hpx]
                              go_wp2
                              go_roundw
                              case rel =>
                                have HNX : Hid (∀ (t : Nat) z, t < j + 1 → (turnedOf b r)[t]? = some z → ptIn 1048576 (shiftP r (kOf r.count m) z) = true) := fun t z ht hz => by
                                  by_cases e : t = j
                                  · subst e; rw [HY.out] at hz; cases hz; rw [HK.out, HSH2.out]; exact hpx
                                  · exact hN.out t z (by omega) hz
                                first
                                  | exact ⟨j + 1, by omega, by go_num, HB9.out, HNX.out⟩
                                  | ((repeat apply Exists.intro); refine ⟨?_, rfl⟩; exact ⟨j + 1, by omega, by go_num, HB9.out, HNX.out⟩)
                              case measure => simp [intOf]; omega
                        · have HC := Lib.hid (HCY.out m (fun t z ht hz => hN.out t z (by omega) hz))
                          have HBZ := Lib.hid (bstep HBW.out hBq)
                          clear hBq
                          go_wp2
                          go_roundw
                          case rel => exact ⟨m + 1, by omega, by go_num, HBZ.out, two_next h2 hR.out HC.out⟩
                          case measure => simp [intOf]; omega
                    · have HT1 := Lib.hid (show rightB l r = true by rw [HG.out, hR.out.1 (by omega), hR.out.2 (by omega)]; rfl)
                      have HBZ := Lib.hid (bstep HB6.out hBr)
                      clear hBr
                      go_wp2
                      go_ret
                      exact ⟨ret_bool HT1.out.symm, HBZ.out⟩
            · have HG := Lib.hid (show rightB l r = (chkB (turnedOf b r) r 0 && chkB (turnedOf b r) r 1) by rw [HE.out, HSB.out, dec_yes (p := r.count ≤ 1) (by omega)]; rfl)
              have dd0 : decide ((i : Int) < 0) = false := dec_no i0
              have dd1 : decide (r.count < 1) = false := dec_no hc1
              have dd2 : decide (1000 < r.count) = false := dec_no hc2
              have dd3 : decide (1 < r.count) = false := dec_no hc3
              go_enter Tryz.func77, Tryz.ntmps77
              go_wp2_with fail
              refine (HIX.out _ (by go_grown)).mono ?_
              rintro e w1 ⟨rfl, hb1⟩
              have HB1 := Lib.hid (bstep (by go_grown) hb1 : Below w.heap.size w w1)
              have BX1 : Hid (BlkIs w1 w.heap.size 90 #[.string r.mark, .int .i64 r.tx, .int .i64 r.ty, .int .i64 r.at_.x, .int .i64 r.at_.y, .int .i64 r.at_.z, .int .i64 r.step.x, .int .i64 r.step.y, .int .i64 r.step.z, .int .i64 r.count]) := (BlkIs.new w _ _).below hb1
              clear hb1
              have k1 := BX1.out.cell 1
              have k2 := BX1.out.cell 2
              go_wp2_with fail
              refine (HT.out _).mono ?_
              rintro e w2 ⟨rfl, hb2⟩
              have HB2 := Lib.hid (bstep HB1.out hb2)
              have BX2 := Lib.hid (BX1.out.below hb2)
              clear hb2 k1 k2
              rw [htb]
              have k3 := BX2.out.cell 3
              have k4 := BX2.out.cell 4
              have k5 := BX2.out.cell 5
              have k9 := BX2.out.cell 9
              go_wp2_with fail
              refine (HQ.out _).mono ?_
              rintro e w3 ⟨rfl, hb3⟩
              have HB3 := Lib.hid (bstep HB2.out hb3)
              have BX3 := Lib.hid (BX2.out.below hb3)
              clear hb3 k3 k4 k5 k9
              rw [hpa]
              have k6 := BX3.out.cell 6
              have k7 := BX3.out.cell 7
              have k8 := BX3.out.cell 8
              have k9 := BX3.out.cell 9
              have k0 := BX3.out.cell 0
              have k1 := BX3.out.cell 1
              have k2 := BX3.out.cell 2
              have k3 := BX3.out.cell 3
              have k4 := BX3.out.cell 4
              have k5 := BX3.out.cell 5
              have HKB : Hid (1 < r.count → ∀ k : Int, 0 ≤ k → k ≤ 999 → PtIn 4294967296 (pmul k r.step)) := fun h => by omega
              go_wp2_with fail
              refine (HTU2.out _ HB3.out).mono ?_
              rintro e w5 ⟨o, rfl, HOW, hb5⟩
              have HB5 := Lib.hid (bstep HB3.out hb5)
              have BX5 := Lib.hid (BX3.out.below hb5)
              obtain ⟨oo, oc, rfl⟩ := HOW.out.shape
              have HOP := Lib.hid (OwnN.fl pt_len HOW.out)
              have k9 := BX5.out.cell 9
              have htl := HTL.out
              clear hb5 k0 k1 k2 k3 k4 k5 k6 k7 k8
              go_wp2_with fail
              obtain ⟨w6, hw6⟩ : ∃ w6, w5.alloc (.cells #[.int .i64 0, .int .i64 (r.count - 1)] 3) = w6 := ⟨_, rfl⟩
              have BL6 : Hid (BlkIs w6 w5.heap.size 3 #[.int .i64 0, .int .i64 (r.count - 1)]) := by rw [← hw6]; exact BlkIs.new _ _ _
              have BX6 : Hid (BlkIs w6 w.heap.size 90 #[.string r.mark, .int .i64 r.tx, .int .i64 r.ty, .int .i64 r.at_.x, .int .i64 r.at_.y, .int .i64 r.at_.z, .int .i64 r.step.x, .int .i64 r.step.y, .int .i64 r.step.z, .int .i64 r.count]) := by rw [← hw6]; exact BX5.out.alloc _
              have HO6 : Hid (Pts w6 (.slice oo (turnedOf b r).length oc) (turnedOf b r)) := by rw [← hw6]; exact HOP.out.below (below_new _ _)
              have HB6 : Hid (Below w.heap.size w w6) := by rw [← hw6]; exact HB5.out.alloc HB5.out.size _
              rw [hw6]
              clear hw6 k9
              go_loopw [61] (fun i wr => ∃ m : Nat, m ≤ 2 ∧ i = .int .i64 m ∧ Below w6.heap.size w6 wr ∧ Hid ((1 ≤ m → chkB (turnedOf b r) r 0 = true) ∧ (2 ≤ m → chkB (turnedOf b r) r 1 = true))) (fun i _ => 2 - (intOf i).toNat)
              case atStart => exact ⟨0, by omega, rfl, Below.refl _ _, ⟨fun h => by omega, fun h => by omega⟩⟩
              case round =>
                obtain ⟨m, hm, rfl, hBr, hR⟩ := hrel
                by_cases h2 : m < 2
                · obtain ⟨kk, hkk⟩ : ∃ kk, kOf r.count m = kk := ⟨_, rfl⟩
                  have hk0 : 0 ≤ kk := by rw [← hkk]; unfold kOf; split <;> omega
                  have hk1 : kk ≤ 999 := by rw [← hkk]; unfold kOf; split <;> omega
                  have hk2 : 0 < kk → 1 < r.count := by rw [← hkk]; unfold kOf; split <;> omega
                  have hcell : wr.cell? ⟨w5.heap.size, 0 + m, none⟩ = some (.int .i64 kk) := by
                    rw [Nat.zero_add, (BL6.out.below hBr).cell m, ← hkk]
                    obtain rfl | rfl : m = 0 ∨ m = 1 := by omega
                    · rfl
                    · rfl
                  have hcell0 : wr.cell? ⟨w5.heap.size, m, none⟩ = some (.int .i64 kk) := by rw [Nat.zero_add] at hcell; exact hcell
                  have dm : decide ((m : Int) < 2) = true := dec_yes (by omega)
                  have HK := Lib.hid hkk
                  have HK2 := Lib.hid hk2
                  have HBW := Lib.hid hBr
                  have HOr := Lib.hid (HO6.out.below hBr)
                  have BXr := Lib.hid (BX6.out.below hBr)
                  clear hkk hk2 hBr
                  obtain ⟨wo, rfl⟩ : ∃ wo : World, wo = wr := ⟨_, rfl⟩
                  go_wp2_with fail
                  go_loopw [67] (fun i wq => ∃ j : Nat, j ≤ (turnedOf b r).length ∧ i = .int .i64 j ∧ Below wo.heap.size wo wq ∧ Hid (∀ (t : Nat) p, t < j → (turnedOf b r)[t]? = some p → ptIn 1048576 (shiftP r (kOf r.count m) p) = true)) (fun i _ => (turnedOf b r).length - (intOf i).toNat)
                  case atStart => exact ⟨0, Nat.zero_le _, rfl, Below.refl _ _, fun t p ht => by omega⟩
                  case round =>
                    obtain ⟨j, hj, rfl, hBq, hN⟩ := hrel
                    by_cases hj2 : j < (turnedOf b r).length
                    · obtain ⟨p, hy⟩ : ∃ y, (turnedOf b r)[j]? = some y := ⟨_, List.getElem?_eq_getElem hj2⟩
                      obtain ⟨bb, off, rfl, hbl, c0, c1, c2⟩ := pts_get (HOr.out.below hBq) hy
                      have HY := Lib.hid hy
                      have hpb := HTB2.out p (List.mem_of_getElem? hy)
                      have HP1 := Lib.hid (fun W => lplus_any p r.at_ 1 W (hpb.mono (by omega)) (hat.mono (by omega)))
                      have hq1 := padd_bd hpb hat
                      have HBq := Lib.hid (bstep (bstep HB6.out HBW.out) hBq)
                      have HBq0 := Lib.hid hBq
                      have BXq := Lib.hid (BXr.out.below hBq)
                      have k3 := BXq.out.cell 3
                      have k4 := BXq.out.cell 4
                      have k5 := BXq.out.cell 5
                      have hzq := BXq.out.lt
                      clear hy hBq hpb
                      go_wp2_with fail
                      refine (HP1.out _).mono ?_
                      rintro e w7 ⟨rfl, hb7⟩
                      have HSH1 := Lib.hid (HSH.out kk p)
                      have HQ1 : Hid (padd p (pmul 1 r.at_) = padd p (pmul 1 r.at_)) := rfl
                      generalize hq : padd p (pmul 1 r.at_) = q1 at *
                      clear hq HQ1
                      have HB7 := Lib.hid (bstep (HBq.out.alloc HBq.out.size _) hb7)
                      have HB70 := Lib.hid (bstep (HBq0.out.alloc HBq0.out.size _) hb7)
                      have BX7 := Lib.hid ((BXq.out.alloc _).below hb7)
                      clear hb7 k3 k4 k5 c0 c1 c2
                      by_cases hkp : 0 < kk
                      · have HP2 := Lib.hid (fun W => lplus_any q1 r.step kk W (hq1.mono (by omega)) ((HKB.out (HK2.out hkp) kk hk0 hk1).mono (by omega)))
                        have k6 := BX7.out.cell 6
                        have k7 := BX7.out.cell 7
                        have k8 := BX7.out.cell 8
                        have hz7 := BX7.out.lt
                        go_wp2_with fail
                        refine (HP2.out _).mono ?_
                        rintro e w8 ⟨rfl, hb8⟩
                        have HSH2 := Lib.hid (show shiftP r kk p = padd q1 (pmul kk r.step) by rw [HSH1.out, if_pos hkp])
                        generalize hq : padd q1 (pmul kk r.step) = q2 at *
                        clear hq
                        have HIP := Lib.hid (fun W => isPlace_any q2 1048576 W (by omega) (by omega))
                        have HB8 := Lib.hid (bstep (HB7.out.alloc HB7.out.size _) hb8)
                        have HB80 := Lib.hid (bstep (HB70.out.alloc HB70.out.size _) hb8)
                        have BT8 := (BlkIs.new w7 #[.int .i64 q1.x, .int .i64 q1.y, .int .i64 q1.z] 88).below hb8
                        have t0 := BT8.cell 0
                        have t1 := BT8.cell 1
                        have t2 := BT8.cell 2
                        have tf := BT8.free
                        have hw7 := HB7.out.size
                        have hw70 := HB70.out.size
                        clear hb8 k6 k7 k8 BT8
                        cases hpx : ptIn 1048576 q2 with
                        | false =>
                          have HF := Lib.hid (show rightB l r = false by rw [HG.out]; exact and_no (m := m) (by omega) (HCN.out m j p HY.out (by rw [HK.out, HSH2.out]; exact hpx)))
                          go_wp2_with fail
                          refine (HIP.out _).mono ?_
                          rintro e w9 ⟨rfl, hb9⟩
                          have HB9 := Lib.hid (bstep (((HB8.out.setCell (by simp; omega) _).setCell (by simp; omega) _).setCell (by simp; omega) _) hb9)
                          clear hb9
                          rw [hpx]
                          go_wp2
                          go_ret
                          exact ⟨ret_bool HF.out.symm, HB9.out⟩
                        | true =>
                          go_wp2_with fail
                          refine (HIP.out _).mono ?_
                          rintro e w9 ⟨rfl, hb9⟩
                          have HB9 := Lib.hid (bstep (((HB80.out.setCell (by simp; omega) _).setCell (by simp; omega) _).setCell (by simp; omega) _) hb9)
                          clear hb9
                          rw [hpx]
                          go_wp2
                          go_roundw
                          case rel =>
                            have HNX : Hid (∀ (t : Nat) z, t < j + 1 → (turnedOf b r)[t]? = some z → ptIn 1048576 (shiftP r (kOf r.count m) z) = true) := fun t z ht hz => by
                              by_cases e : t = j
                              · subst e; rw [HY.out] at hz; cases hz; rw [HK.out, HSH2.out]; exact hpx
                              · exact hN.out t z (by omega) hz
                            first
                              | exact ⟨j + 1, by omega, by go_num, HB9.out, HNX.out⟩
                              | ((repeat apply Exists.intro); refine ⟨?_, rfl⟩; exact ⟨j + 1, by omega, by go_num, HB9.out, HNX.out⟩)
                          case measure => simp [intOf]; omega
                      · have HSH2 := Lib.hid (show shiftP r kk p = q1 by rw [HSH1.out, if_neg hkp])
                        have HIP := Lib.hid (fun W => isPlace_any q1 1048576 W (by omega) (by omega))
                        cases hpx : ptIn 1048576 q1 with
                        | false =>
                          have HF := Lib.hid (show rightB l r = false by rw [HG.out]; exact and_no (m := m) (by omega) (HCN.out m j p HY.out (by rw [HK.out, HSH2.out]; exact hpx)))
                          go_wp2_with fail
                          refine (HIP.out _).mono ?_
                          rintro e w9 ⟨rfl, hb9⟩
                          have HB9 := Lib.hid (bstep (HB7.out.alloc HB7.out.size _) hb9)
                          clear hb9
                          rw [hpx]
                          go_wp2
                          go_ret
                          exact ⟨ret_bool HF.out.symm, HB9.out⟩
                        | true =>
                          go_wp2_with fail
                          refine (HIP.out _).mono ?_
                          rintro e w9 ⟨rfl, hb9⟩
                          have HB9 := Lib.hid (bstep (HB70.out.alloc HB70.out.size _) hb9)
                          clear hb9
                          rw [hpx]
                          go_wp2
                          go_roundw
                          case rel =>
                            have HNX : Hid (∀ (t : Nat) z, t < j + 1 → (turnedOf b r)[t]? = some z → ptIn 1048576 (shiftP r (kOf r.count m) z) = true) := fun t z ht hz => by
                              by_cases e : t = j
                              · subst e; rw [HY.out] at hz; cases hz; rw [HK.out, HSH2.out]; exact hpx
                              · exact hN.out t z (by omega) hz
                            first
                              | exact ⟨j + 1, by omega, by go_num, HB9.out, HNX.out⟩
                              | ((repeat apply Exists.intro); refine ⟨?_, rfl⟩; exact ⟨j + 1, by omega, by go_num, HB9.out, HNX.out⟩)
                          case measure => simp [intOf]; omega
                    · have HC := Lib.hid (HCY.out m (fun t z ht hz => hN.out t z (by omega) hz))
                      have HBZ := Lib.hid (bstep HBW.out hBq)
                      clear hBq
                      go_wp2
                      go_roundw
                      case rel => exact ⟨m + 1, by omega, by go_num, HBZ.out, two_next h2 hR.out HC.out⟩
                      case measure => simp [intOf]; omega
                · have HT1 := Lib.hid (show rightB l r = true by rw [HG.out, hR.out.1 (by omega), hR.out.2 (by omega)]; rfl)
                  have HBZ := Lib.hid (bstep HB6.out hBr)
                  clear hBr
                  go_wp2
                  go_ret
                  exact ⟨ret_bool HT1.out.symm, HBZ.out⟩
end

section
open Go.RowKit
set_option linter.unusedVariables false
set_option linter.unusedSimpArgs false

def sumC (rs : List RunD) : Int := sumI (rs.map (·.count))
def laidOk (l : List BarD) (rs : List RunD) : Bool := schedOk l && decide (rs.length ≤ 60) && rs.all (rightB l) && decide (sumC rs ≤ 2000)
theorem right_count {l : List BarD} {r : RunD} (h : rightB l r = true) : 1 ≤ r.count ∧ r.count ≤ 1000 := by
  cases hl : lineOf l r.mark with
  | none => rw [rightB_none hl] at h; cases h
  | some b =>
    rw [rightB_some hl] at h
    simp only [Bool.and_eq_true, decide_eq_true_eq] at h
    obtain ⟨⟨⟨⟨⟨_, h1⟩, h2⟩, _⟩, _⟩, _⟩ := h
    exact ⟨h1, h2⟩
theorem sumC_snoc {rs : List RunD} {k : Nat} {r : RunD} (h : rs[k]? = some r) : sumC (rs.take (k + 1)) = sumC (rs.take k) + r.count := by
  unfold sumC
  rw [List.map_take, List.map_take]
  exact sumI_snoc (by rw [List.getElem?_map, h]; rfl)
theorem sumC_le {l : List BarD} {rs : List RunD} (h : ∀ r ∈ rs, 1 ≤ r.count) (k : Nat) : sumC (rs.take k) ≤ sumC rs := by
  unfold sumC
  rw [List.map_take]
  exact sumI_le (fun d hd => by obtain ⟨r, hr, rfl⟩ := List.mem_map.1 hd; exact h r hr) k
theorem laidOk_parts {l : List BarD} {rs : List RunD} (h : laidOk l rs = true) : schedOk l = true ∧ rs.length ≤ 60 ∧ (∀ r ∈ rs, rightB l r = true) ∧ sumC rs ≤ 2000 := by
  unfold laidOk at h
  simp only [Bool.and_eq_true, decide_eq_true_eq, List.all_eq_true] at h
  exact ⟨h.1.1.1, h.1.1.2, h.1.2, h.2⟩
theorem laid_no1 {l : List BarD} {rs : List RunD} (h : schedOk l = false) : laidOk l rs = false := by unfold laidOk; rw [h]; rfl
theorem laid_no2 {l : List BarD} {rs : List RunD} (h : 60 < rs.length) : laidOk l rs = false := by unfold laidOk; rw [dec_no (p := rs.length ≤ 60) (by omega)]; simp
theorem laid_no3 {l : List BarD} {rs : List RunD} {k : Nat} {r : RunD} (hk : rs[k]? = some r) (h : rightB l r = false) : laidOk l rs = false := by
  unfold laidOk; rw [allN_no hk h]; simp
theorem laid_no4 {l : List BarD} {rs : List RunD} {k : Nat} {r : RunD} (hk : rs[k]? = some r) (h : 2000 - sumC (rs.take k) < r.count) : laidOk l rs = false := by
  cases hd : laidOk l rs with
  | false => rfl
  | true =>
    obtain ⟨_, _, h3, h4⟩ := laidOk_parts hd
    have h5 := sumC_le (l := l) (rs := rs) (fun r hr => (right_count (h3 r hr)).1) (k + 1)
    rw [sumC_snoc hk] at h5
    omega
theorem laid_yes {l : List BarD} {rs : List RunD} (h1 : schedOk l = true) (h2 : rs.length ≤ 60) (h3 : ∀ (j : Nat) r, j < rs.length → rs[j]? = some r → rightB l r = true) (h4 : sumC (rs.take rs.length) ≤ 2000) : laidOk l rs = true := by
  rw [List.take_length] at h4
  unfold laidOk
  rw [h1, dec_yes h2, dec_yes h4, List.all_eq_true.2 (fun r hr => by
    obtain ⟨j, hj, rfl⟩ := List.getElem_of_mem hr
    exact h3 j _ hj (List.getElem?_eq_getElem hj))]; rfl

set_option maxRecDepth 100000 in
set_option maxHeartbeats 4000000 in
theorem lvalid_any (v vr : Value) (l : List BarD) (rs : List RunD) (w : World) (hp : Bars w v l) (hr : Runs w vr rs) (hl : l.length ≤ 140737488355328) (hlr : rs.length ≤ 140737488355328) (hf : FitB l) :
    Calls Tryz.prog 47 #[v, vr] w fun e w' => e = .returned (.bool (laidOk l rs)) ∧ Below w.heap.size w w' := by
  obtain ⟨ao, cap, rfl⟩ := hp.at_
  obtain ⟨ro, rcap, rfl⟩ := hr.at_
  have HP := Lib.hid hp
  have HRS := Lib.hid hr
  have HV := Lib.hid (cvalid_any _ l w hp hl hf)
  have HRT := Lib.hid (fun (h : schedOk l = true) r W (hW : Below w.heap.size w W) => right_any _ l r W (HP.out.below hW) hl hf h)
  clear hp hr hf
  cases hso : schedOk l with
  | false =>
    have HF := Lib.hid (laid_no1 (rs := rs) hso)
    rw [hso] at HV
    go_enter Tryz.func47, Tryz.ntmps47
    go_wp2_with fail
    refine HV.out.mono ?_
    rintro e w1 ⟨rfl, hb1⟩
    have HB1 := Lib.hid hb1
    clear hb1
    go_wp2
    go_ret
    exact ⟨ret_bool HF.out.symm, HB1.out⟩
  | true =>
    have HSO := Lib.hid hso
    have HRT2 := Lib.hid (HRT.out hso)
    rw [hso] at HV
    clear HRT
    rcases Nat.lt_or_ge 60 rs.length with h60 | h60
    · have HF := Lib.hid (laid_no2 (l := l) h60)
      have h61 : (60 : Int) < (rs.length : Int) := by omega
      go_enter Tryz.func47, Tryz.ntmps47
      go_wp2_with fail
      refine HV.out.mono ?_
      rintro e w1 ⟨rfl, hb1⟩
      have HB1 := Lib.hid hb1
      clear hb1
      go_wp2
      go_ret
      exact ⟨ret_bool HF.out.symm, HB1.out⟩
    · have h61 : ¬ (60 : Int) < (rs.length : Int) := by omega
      have h62 : decide ((60 : Int) < (rs.length : Int)) = false := dec_no h61
      have H60 := Lib.hid h60
      go_enter Tryz.func47, Tryz.ntmps47
      go_wp2_with fail
      refine HV.out.mono ?_
      rintro e w1 ⟨rfl, hb1⟩
      have HB1 := Lib.hid hb1
      clear hb1
      go_wp2_with fail
      go_loopw [5, 18] (fun q i wr => ∃ k : Nat, k ≤ rs.length ∧ i = .int .i64 k ∧ q = .int .i64 (2000 - sumC (rs.take k)) ∧ Below w.heap.size w wr ∧ Hid ((∀ (j : Nat) r, j < k → rs[j]? = some r → rightB l r = true) ∧ 0 ≤ sumC (rs.take k) ∧ sumC (rs.take k) ≤ 2000)) (fun _ i _ => rs.length - (intOf i).toNat)
      case atStart => exact ⟨0, Nat.zero_le _, rfl, by rw [List.take_zero]; rfl, HB1.out, fun j r hj => by omega, by rw [List.take_zero]; decide, by rw [List.take_zero]; decide⟩
      case round =>
        obtain ⟨k, hk, rfl, rfl, hBr, hR⟩ := hrel
        obtain ⟨_, s1, s2⟩ := hR.out
        by_cases hk2 : k < rs.length
        · obtain ⟨r, hy⟩ : ∃ y, rs[k]? = some y := ⟨_, List.getElem?_eq_getElem hk2⟩
          obtain ⟨b, off, rfl, hbl, c0, c1, c2, c3, c4, c5, c6, c7, c8, c9⟩ := runs_get (HRS.out.below hBr) hy
          have HY := Lib.hid hy
          have HS := Lib.hid (sumC_snoc hy)
          have HB := Lib.hid hBr
          have HN4 := Lib.hid (laid_no4 (l := l) hy)
          have HRX := Lib.hid (HRT2.out r _ (hBr.alloc hBr.size (.cells #[.string r.mark, .int .i64 r.tx, .int .i64 r.ty, .int .i64 r.at_.x, .int .i64 r.at_.y, .int .i64 r.at_.z, .int .i64 r.step.x, .int .i64 r.step.y, .int .i64 r.step.z, .int .i64 r.count] 90)))
          generalize hq : sumC (rs.take k) = q at *
          have HQ := Lib.hid hq
          clear hy hBr hq
          cases hrb : rightB l r with
          | false =>
            have HF := Lib.hid (laid_no3 HY.out hrb)
            rw [hrb] at HRX
            go_wp2_with fail
            refine HRX.out.mono ?_
            rintro e w9 ⟨rfl, hb9⟩
            have HB9 := Lib.hid (bstep (HB.out.alloc HB.out.size _) hb9)
            clear hb9
            go_wp2
            go_ret
            exact ⟨ret_bool HF.out.symm, HB9.out⟩
          | true =>
            obtain ⟨n1, n2⟩ := right_count hrb
            have HRB := Lib.hid hrb
            rw [hrb] at HRX
            go_wp2_with fail
            refine HRX.out.mono ?_
            rintro e w9 ⟨rfl, hb9⟩
            have HB9 := Lib.hid (bstep (HB.out.alloc HB.out.size _) hb9)
            have d9 := ((BlkIs.new wr #[.string r.mark, .int .i64 r.tx, .int .i64 r.ty, .int .i64 r.at_.x, .int .i64 r.at_.y, .int .i64 r.at_.z, .int .i64 r.step.x, .int .i64 r.step.y, .int .i64 r.step.z, .int .i64 r.count] 90).below hb9).cell 9
            clear hb9 c0 c1 c2 c3 c4 c5 c6 c7 c8 c9
            by_cases hc : 2000 - q < r.count
            · have HF := Lib.hid (HN4.out hc)
              go_wp2
              go_ret
              exact ⟨ret_bool HF.out.symm, HB9.out⟩
            · go_wp2
              go_roundw
              case rel => exact ⟨k + 1, by omega, by go_num, by rw [HS.out]; exact val_int (by omega), HB9.out, fun j z hj hz => by
                by_cases e : j = k
                · subst e; rw [HY.out] at hz; cases hz; exact HRB.out
                · exact hR.out.1 j z (by omega) hz, by rw [HS.out]; omega, by rw [HS.out]; omega⟩
              case measure => simp [intOf]; omega
        · obtain rfl : k = rs.length := by omega
          have HT := Lib.hid (laid_yes HSO.out H60.out hR.out.1 hR.out.2.2)
          go_wp2
          go_ret
          exact ⟨ret_bool HT.out.symm, hBr⟩
end
end
end Go.Proofs.YtamogedpgkofjaaGreat
