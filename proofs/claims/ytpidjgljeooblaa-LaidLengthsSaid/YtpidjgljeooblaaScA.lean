/-
  Schedules: the index of a mark; IndexFunc over bars.
-/
import Derived.Test.YtpidjgljeooblaaShB
namespace Go.Proofs.Ytpidjgljeooblaa
open Go.RowKit
set_option linter.unusedVariables false
set_option linter.unusedSimpArgs false
attribute [local go_sem ↓] Go.wp_at_zero Go.wp_at_succ

def idxZ {α : Type} (l : List α) (p : α → Bool) : Int := match l.findIdx? p with | some i => (i : Int) | none => -1
theorem idxZ_hit {α : Type} {l : List α} {p : α → Bool} {k : Nat} {x : α} (hno : ∀ (j : Nat) y, j < k → l[j]? = some y → p y = false) (hx : l[k]? = some x) (hp : p x = true) : idxZ l p = k := by
  have hk : k < l.length := (List.getElem?_eq_some_iff.1 hx).1
  have : l.findIdx? p = some k := by
    rw [List.findIdx?_eq_some_iff_getElem]
    refine ⟨hk, ?_, fun j hj => ?_⟩
    · have := (List.getElem?_eq_some_iff.1 hx).2
      rw [this]; exact hp
    · have := hno j _ hj (List.getElem?_eq_getElem (by omega))
      rw [this]; simp
  simp [idxZ, this]
theorem idxZ_miss {α : Type} {l : List α} {p : α → Bool} (hno : ∀ (j : Nat) y, l[j]? = some y → p y = false) : idxZ l p = -1 := by
  have : l.findIdx? p = none := by
    rw [List.findIdx?_eq_none_iff]
    intro y hy
    obtain ⟨j, hj, rfl⟩ := List.getElem_of_mem hy
    exact hno j _ (List.getElem?_eq_getElem hj)
  simp [idxZ, this]
theorem idxZ_cases {α : Type} (l : List α) (p : α → Bool) : (∃ (k : Nat) (x : α), idxZ l p = k ∧ l[k]? = some x ∧ p x = true ∧ ∀ (j : Nat) y, j < k → l[j]? = some y → p y = false) ∨ (idxZ l p = -1 ∧ ∀ x ∈ l, p x = false) := by
  unfold idxZ
  cases h : l.findIdx? p with
  | some i =>
    obtain ⟨hi, hx, hn⟩ := List.findIdx?_eq_some_iff_getElem.1 h
    refine .inl ⟨i, l[i], rfl, List.getElem?_eq_getElem hi, hx, fun j y hj hy => ?_⟩
    have := hn j hj
    rw [(List.getElem?_eq_some_iff.1 hy).2] at this
    simpa using this
  | none =>
    rw [List.findIdx?_eq_none_iff] at h
    exact .inr ⟨rfl, fun x hx => by simpa using h x hx⟩
theorem idxZ_any {α : Type} (l : List α) (p : α → Bool) : decide (0 ≤ idxZ l p) = l.any p := by
  rcases idxZ_cases l p with ⟨k, x, h1, h2, h3, _⟩ | ⟨h1, h2⟩
  · rw [h1, List.any_eq_true.2 ⟨x, List.mem_of_getElem? h2, h3⟩]; simp
  · rw [h1, List.any_eq_false.2 (fun x hx => by rw [h2 x hx]; simp)]; rfl

/-- Contracts of a predicate over bars. -/
def BarPred (F : Nat) (caps : Array Value) (p : BarD → Bool) (w : World) : Prop :=
  (∀ (xs : Array Value) (W : World), (callFunc F xs).run Try.prog W = .ok (.enter F xs) W) ∧
  ∀ (x : BarD) (u : Value) (W : World), Below w.heap.size w W → Calls Try.prog F (#[barv x u] ++ caps) W fun e w1 => e = .returned (.bool (p x)) ∧ Below W.heap.size W w1

set_option maxHeartbeats 1000000 in
theorem indexBars_any (F : Nat) (caps : Array Value) (p : BarD → Bool) (v : Value) (l : List BarD) (w : World) (hp : Bars w v l) (hl : l.length ≤ 140737488355328) (hC : BarPred F caps p w) :
    Calls Try.prog 34 #[v, .func (.func F) #[] caps] w fun e w' => e = .returned (.int .i64 (idxZ l p)) ∧ Below w.heap.size w w' := by
  obtain ⟨hF, hC⟩ := hC
  obtain ⟨ao, cap, rfl⟩ := hp.at_
  have HC := Lib.hid hC
  have HP := Lib.hid hp
  clear hC hp
  go_enter Try.func34, Try.ntmps34
  go_wp2
  go_loopw [5, 8] (fun _ i wr => ∃ k : Nat, k ≤ l.length ∧ i = .int .i64 k ∧ Below w.heap.size w wr ∧ Hid (∀ (j : Nat) y, j < k → l[j]? = some y → p y = false)) (fun _ i _ => l.length - (intOf i).toNat)
  case atStart => exact ⟨0, Nat.zero_le _, rfl, Below.refl _ _, fun j _ hj => by omega⟩
  case round =>
    obtain ⟨k, hk, rfl, hBr, hno⟩ := hrel
    by_cases hk2 : k < l.length
    · obtain ⟨x, hy⟩ : ∃ y, l[k]? = some y := ⟨_, List.getElem?_eq_getElem hk2⟩
      obtain ⟨b, off, rfl, hbl, c0, c1, c2, c3, uo, uc, c4, _⟩ := bars_get (HP.out.below hBr) hy
      have HK := Lib.hid (HC.out x (.slice uo x.dims.length uc) wr hBr)
      have HY := Lib.hid hy
      obtain ⟨q, hq⟩ : ∃ q, p x = q := ⟨_, rfl⟩
      rw [hq] at HK
      have HQ := Lib.hid hq
      clear hy hq
      cases q
      · go_wp2_with fail
        refine HK.out.mono ?_
        rintro e w9 ⟨rfl, hb9⟩
        have hB9 := bstep hBr hb9
        go_wp2
        go_roundw
        case rel => exact ⟨k + 1, by omega, by go_num, hB9, fun j z hj hz => by
          by_cases e : j = k
          · subst e; rw [HY.out] at hz; cases hz; exact HQ.out
          · exact hno j z (by omega) hz⟩
        case measure => simp [intOf]; omega
      · have HR := Lib.hid (idxZ_hit hno.out HY.out HQ.out)
        go_wp2_with fail
        refine HK.out.mono ?_
        rintro e w9 ⟨rfl, hb9⟩
        have hB9 := bstep hBr hb9
        go_wp2
        go_ret
        exact ⟨ret_int HR.out.symm, hB9⟩
    · have HR := Lib.hid (idxZ_miss (p := p) (fun j y hy => hno j y (by have := (List.getElem?_eq_some_iff.1 hy).1; omega) hy))
      go_wp2
      go_ret
      exact ⟨ret_int HR.out.symm, hBr⟩

def isMark (m : ByteArray) (b : BarD) : Bool := decide (b.mark = m)
def findZ (l : List BarD) (m : ByteArray) : Int := idxZ l (isMark m)

theorem sindex1_any (B : Nat) (m : ByteArray) (x : BarD) (u : Value) (w : World) (hB : w.cell? ⟨B, 0, none⟩ = some (.string m)) (hlt : B < w.heap.size) :
    Calls Try.prog 88 #[barv x u, .pointer (some ⟨B, 0, none⟩)] w fun e w' => e = .returned (.bool (isMark m x)) ∧ Below w.heap.size w w' := by
  have H := Lib.hid (bytes_beq x.mark m)
  obtain ⟨mk, s, c, co, ds⟩ := x
  go_enter Try.func88, Try.ntmps88
  go_wp2
  go_ret
  exact ⟨ret_bool H.out, by go_grown⟩
theorem lfind1_any (B : Nat) (m : ByteArray) (x : BarD) (u : Value) (w : World) (hB : w.cell? ⟨B, 0, none⟩ = some (.string m)) (hlt : B < w.heap.size) :
    Calls Try.prog 89 #[barv x u, .pointer (some ⟨B, 0, none⟩)] w fun e w' => e = .returned (.bool (isMark m x)) ∧ Below w.heap.size w w' := by
  have H := Lib.hid (bytes_beq x.mark m)
  obtain ⟨mk, s, c, co, ds⟩ := x
  go_enter Try.func89, Try.ntmps89
  go_wp2
  go_ret
  exact ⟨ret_bool H.out, by go_grown⟩

set_option maxRecDepth 100000 in
theorem sindex_any (v : Value) (l : List BarD) (m : ByteArray) (w : World) (hp : Bars w v l) (hl : l.length ≤ 140737488355328) :
    Calls Try.prog 69 #[v, .string m] w fun e w' => e = .returned (.int .i64 (findZ l m)) ∧ Below w.heap.size w w' := by
  have hb0 := below_new w (.cells #[.string m] 9)
  have HI := Lib.hid (indexBars_any 88 #[.pointer (some ⟨w.heap.size, 0, none⟩)] (isMark m) v l _ (hp.below hb0) hl ⟨fun xs W => by rfl, fun x u W hW => sindex1_any w.heap.size m x u W ((hW.cell (p := ⟨w.heap.size, 0, none⟩) (by simp)).trans (by go_simp)) (by have := hW.size; simp at this; omega)⟩)
  clear hp
  go_enter Try.func69, Try.ntmps69
  go_wp2_with fail
  refine HI.out.mono ?_
  rintro e w9 ⟨rfl, hb1⟩
  have HB := Lib.hid (bstep hb0 hb1)
  clear hb1 hb0
  go_wp2
  go_ret
  exact ⟨rfl, HB.out⟩
set_option maxRecDepth 100000 in
theorem lfind_any (v : Value) (l : List BarD) (m : ByteArray) (w : World) (hp : Bars w v l) (hl : l.length ≤ 140737488355328) :
    Calls Try.prog 70 #[v, .string m] w fun e w' => e = .returned (.int .i64 (findZ l m)) ∧ Below w.heap.size w w' := by
  have hb0 := below_new w (.cells #[.string m] 9)
  have HI := Lib.hid (indexBars_any 89 #[.pointer (some ⟨w.heap.size, 0, none⟩)] (isMark m) v l _ (hp.below hb0) hl ⟨fun xs W => by rfl, fun x u W hW => lfind1_any w.heap.size m x u W ((hW.cell (p := ⟨w.heap.size, 0, none⟩) (by simp)).trans (by go_simp)) (by have := hW.size; simp at this; omega)⟩)
  clear hp
  go_enter Try.func70, Try.ntmps70
  go_wp2_with fail
  refine HI.out.mono ?_
  rintro e w9 ⟨rfl, hb1⟩
  have HB := Lib.hid (bstep hb0 hb1)
  clear hb1 hb0
  go_wp2
  go_ret
  exact ⟨rfl, HB.out⟩
end Go.Proofs.Ytpidjgljeooblaa
