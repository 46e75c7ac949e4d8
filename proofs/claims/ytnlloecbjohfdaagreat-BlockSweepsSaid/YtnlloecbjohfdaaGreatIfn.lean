/-
  IndexFunc and ContainsFunc over integers, with any predicate.
-/
import Derived.Test.YtnlloecbjohfdaaGreatMem
import Derived.Deep.DrawnRows
namespace Go.Proofs.YtnlloecbjohfdaaGreat
open Go.RowKit
set_option linter.unusedVariables false
attribute [local go_sem ↓] Go.wp_at_zero Go.wp_at_succ

/-- Contracts of a predicate over integers. -/
def IntPred (F : Nat) (caps : Array Value) (p : Int → Bool) (l : List Int) (w : World) : Prop :=
  (∀ (xs : Array Value) (W : World), (callFunc F xs).run Tryz.prog W = .ok (.enter F xs) W) ∧
  ∀ (x : Int) (W : World), x ∈ l → Below w.heap.size w W → Calls Tryz.prog F (#[.int .i64 x] ++ caps) W fun e w1 => e = .returned (.bool (p x)) ∧ Below W.heap.size W w1

/-- The place of the first that satisfies p; -1 if there is none. -/
def FirstAt (p : Int → Bool) (l : List Int) (i : Int) : Prop :=
  (∃ (j : Nat) (x : Int), i = j ∧ l[j]? = some x ∧ p x = true ∧ ∀ (k : Nat) y, k < j → l[k]? = some y → p y = false) ∨ (i = -1 ∧ ∀ x ∈ l, p x = false)

theorem FirstAt.any {p : Int → Bool} {l : List Int} {i : Int} (h : FirstAt p l i) : decide (0 ≤ i) = l.any p := by
  rcases h with ⟨j, x, rfl, h1, h2, _⟩ | ⟨rfl, h⟩
  · rw [List.any_eq_true.2 ⟨x, List.mem_of_getElem? h1, h2⟩]; simp
  · rw [List.any_eq_false.2 (fun x hx => by rw [h x hx]; simp)]; rfl

theorem FirstAt.is {p : Int → Bool} {l : List Int} {i : Int} (h : FirstAt p l i) {j : Nat} {x : Int} (hx : l[j]? = some x) (hp : p x = true) (hno : ∀ (k : Nat) y, k < j → l[k]? = some y → p y = false) : i = j := by
  rcases h with ⟨j', x', rfl, h1, h2, h3⟩ | ⟨rfl, h⟩
  · rcases Nat.lt_trichotomy j' j with h4 | h4 | h4
    · have := hno j' x' h4 h1; rw [h2] at this; cases this
    · rw [h4]
    · have := h3 j x h4 hx; rw [hp] at this; cases this
  · have := h x (List.mem_of_getElem? hx); rw [hp] at this; cases this

set_option maxHeartbeats 400000 in
theorem indexInts_any (F : Nat) (caps : Array Value) (p : Int → Bool) (v : Value) (l : List Int) (w : World) (hp : Ints w v l) (hl : l.length ≤ 140737488355328) (hC : IntPred F caps p l w) :
    Calls Tryz.prog 122 #[v, .func (.func F) #[] caps] w fun e w' => (∃ i : Int, e = .returned (.int .i64 i) ∧ FirstAt p l i) ∧ Below w.heap.size w w' := by
  obtain ⟨hF, hC⟩ := hC
  obtain ⟨ao, cap, rfl, h⟩ := hp
  have HC := Lib.hid hC
  have HH := Lib.hid h
  clear hC h
  go_enter Tryz.func122, Tryz.ntmps122
  go_wp2
  go_loopw [5, 8] (fun _ i wr => ∃ k : Nat, k ≤ l.length ∧ i = .int .i64 k ∧ Below w.heap.size w wr ∧ Hid (∀ (j : Nat) y, j < k → l[j]? = some y → p y = false)) (fun _ i _ => l.length - (intOf i).toNat)
  case atStart => exact ⟨0, Nat.zero_le _, rfl, Below.refl _ _, fun j _ hj => by omega⟩
  case round =>
    obtain ⟨k, hk, rfl, hBr, hno⟩ := hrel
    by_cases hk2 : k < l.length
    · obtain ⟨b, off, rfl, hbl, hc⟩ := HH.out (by omega)
      obtain ⟨x, hy⟩ : ∃ y, l[k]? = some y := ⟨_, List.getElem?_eq_getElem hk2⟩
      have hd1 := (hBr.cell (p := ⟨b, off + k, none⟩) hbl).trans (hc k _ hy)
      have HK := Lib.hid (HC.out x wr (List.mem_of_getElem? hy) hBr)
      have HY := Lib.hid hy
      obtain ⟨q, hq⟩ : ∃ q, p x = q := ⟨_, rfl⟩
      rw [hq] at HK
      have HQ := Lib.hid hq
      clear hy hc hq
      cases q
      · go_wp2_with fail
        refine HK.out.mono ?_
        rintro e w9 ⟨rfl, hb9⟩
        have hB9 := bstep hBr hb9
        go_wp2
        go_roundw
        case rel => exact ⟨k + 1, by omega, by go_num, hB9, fun j z hj hz => by
          by_cases e : j = k
          · subst e; rw [HY.out] at hz; cases hz; exact HQ.out
          · exact hno j z (by omega) hz⟩
        case measure => simp [intOf]; omega
      · go_wp2_with fail
        refine HK.out.mono ?_
        rintro e w9 ⟨rfl, hb9⟩
        have hB9 := bstep hBr hb9
        go_wp2
        go_ret
        exact ⟨⟨k, rfl, .inl ⟨k, x, rfl, HY.out, HQ.out, hno.out⟩⟩, hB9⟩
    · go_wp2
      go_ret
      exact ⟨⟨-1, rfl, .inr ⟨rfl, fun x hx => by
          obtain ⟨j, hj, rfl⟩ := List.getElem_of_mem hx
          exact hno j _ (by omega) (List.getElem?_eq_getElem hj)⟩⟩, hBr⟩

theorem anyInts_any (F : Nat) (caps : Array Value) (p : Int → Bool) (v : Value) (l : List Int) (w : World) (hp : Ints w v l) (hl : l.length ≤ 140737488355328) (hC : IntPred F caps p l w) :
    Calls Tryz.prog 85 #[v, .func (.func F) #[] caps] w fun e w' => e = .returned (.bool (l.any p)) ∧ Below w.heap.size w w' := by
  have HI := Lib.hid (indexInts_any F caps p v l w hp hl hC)
  clear hC
  go_enter Tryz.func85, Tryz.ntmps85
  go_wp2_with fail
  refine HI.out.mono ?_
  rintro e w9 ⟨⟨i, rfl, hi⟩, hb1⟩
  have HR := Lib.hid hi.any
  clear hi
  go_wp2
  go_ret
  exact ⟨ret_bool HR.out, hb1⟩
end Go.Proofs.YtnlloecbjohfdaaGreat
