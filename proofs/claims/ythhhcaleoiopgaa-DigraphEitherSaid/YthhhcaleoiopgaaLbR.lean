/-
  IndexFunc and ContainsFunc over rows, with any predicate; law DigraphEither's inner functions.
-/
import Derived.Test.YthhhcaleoiopgaaLoM
import Derived.Test.YthhhcaleoiopgaaQun
import Derived.Test.YthhhcaleoiopgaaRcD
import Derived.Test.YthhhcaleoiopgaaDlO
import Derived.Deep.RegionHeld3
namespace Go.Proofs.Ythhhcaleoiopgaa
open Go.RowKit
set_option linter.unusedVariables false
attribute [local go_sem ↓] Go.wp_at_zero Go.wp_at_succ

def RowPred (F : Nat) (caps : Array Value) (p : List Nat → Bool) (l : List (List Nat)) (w : World) : Prop :=
  (∀ (xs : Array Value) (W : World), (callFunc F xs).run Try.prog W = .ok (.enter F xs) W) ∧
  ∀ (r : List Nat) (u : Value) (W : World), r ∈ l → Below w.heap.size w W → Nats W u r → Calls Try.prog F (#[u] ++ caps) W fun e w1 => e = .returned (.bool (p r)) ∧ Below W.heap.size W w1

set_option maxHeartbeats 1000000 in
theorem indexRows_any (F : Nat) (caps : Array Value) (p : List Nat → Bool) (v : Value) (l : List (List Nat)) (w : World) (hp : Rows w v l) (hl : l.length ≤ 140737488355328) (hC : RowPred F caps p l w) :
    Calls Try.prog 59 #[v, .func (.func F) #[] caps] w fun e w' => (∃ i : Int, e = .returned (.int .i64 i) ∧ decide (0 ≤ i) = l.any p) ∧ Below w.heap.size w w' := by
  obtain ⟨hF, hC⟩ := hC
  have HH := Lib.hid hp
  obtain ⟨ao, cap, rfl, _⟩ := hp
  have HC := Lib.hid hC
  clear hC
  go_enter Try.func59, Try.ntmps59
  go_wp2
  go_loopw [5, 8] (fun _ i wr => ∃ k : Nat, k ≤ l.length ∧ i = .int .i64 k ∧ Below w.heap.size w wr ∧ Hid (∀ (j : Nat) y, j < k → l[j]? = some y → p y = false)) (fun _ i _ => l.length - (intOf i).toNat)
  case atStart => exact ⟨0, Nat.zero_le _, rfl, Below.refl _ _, fun j _ hj => by omega⟩
  case round =>
    obtain ⟨k, hk, rfl, hBr, hno⟩ := hrel
    by_cases hk2 : k < l.length
    · obtain ⟨r, hy⟩ : ∃ y, l[k]? = some y := ⟨_, List.getElem?_eq_getElem hk2⟩
      obtain ⟨b, off, rfl, hbl, uo, uc, c1, N⟩ := rows_get HH.out hy
      have hd1 := (hBr.cell (p := ⟨b, off + k, none⟩) hbl).trans c1
      have HK := Lib.hid (HC.out r _ wr (List.mem_of_getElem? hy) hBr (N.below hBr))
      have HY := Lib.hid hy
      obtain ⟨q, hq⟩ : ∃ q, p r = q := ⟨_, rfl⟩
      rw [hq] at HK
      have HQ := Lib.hid hq
      clear hy c1 N hq
      cases q
      · go_wp2_with fail
        refine HK.out.mono ?_
        rintro e w9 ⟨rfl, hb9⟩
        have hB9 := bstep hBr hb9
        go_wp2
        go_roundw
        case rel => exact ⟨k + 1, by omega, by go_num, hB9, fun j z hj hz => by
          by_cases e : j = k
          · subst e; rw [HY.out] at hz; cases hz; exact HQ.out
          · exact hno j z (by omega) hz⟩
        case measure => simp [intOf]; omega
      · go_wp2_with fail
        refine HK.out.mono ?_
        rintro e w9 ⟨rfl, hb9⟩
        have hB9 := bstep hBr hb9
        go_wp2
        go_ret
        exact ⟨⟨k, rfl, by
          rw [List.any_eq_true.2 ⟨_, List.mem_of_getElem? HY.out, HQ.out⟩]; simp⟩, hB9⟩
    · go_wp2
      go_ret
      exact ⟨⟨-1, rfl, by
        rw [show l.any p = false from List.any_eq_false.2 fun x hx => by
          obtain ⟨j, hj, rfl⟩ := List.getElem_of_mem hx
          rw [hno j _ (by omega) (List.getElem?_eq_getElem hj)]; simp]; rfl⟩, hBr⟩

theorem anyRows_any (F : Nat) (caps : Array Value) (p : List Nat → Bool) (v : Value) (l : List (List Nat)) (w : World) (hp : Rows w v l) (hl : l.length ≤ 140737488355328) (hC : RowPred F caps p l w) :
    Calls Try.prog 35 #[v, .func (.func F) #[] caps] w fun e w' => e = .returned (.bool (l.any p)) ∧ Below w.heap.size w w' := by
  have HI := Lib.hid (indexRows_any F caps p v l w hp hl hC)
  clear hC
  go_enter Try.func35, Try.ntmps35
  go_wp2_with fail
  refine HI.out.mono ?_
  rintro e w9 ⟨⟨i, rfl, hi⟩, hb1⟩
  have HR := Lib.hid hi
  clear hi
  go_wp2
  go_ret
  exact ⟨ret_bool HR.out, hb1⟩

theorem eith2_any (B : Nat) (u : Value) (r : List Nat) (x : Nat) (w : World) (hB : w.cell? ⟨B, 0, none⟩ = some u) (hu : Nats w u r) (hr : r.length ≤ 1000) :
    Calls Try.prog 38 #[.int .i64 (x : Int), .pointer (some ⟨B, 0, none⟩)] w fun e w' => e = .returned (.bool (!decide (x ∈ r))) ∧ Below w.heap.size w w' := by
  have HC := Lib.hid (containsN_any u r x w hu (by omega))
  obtain ⟨uo, uc, rfl, _⟩ := hu
  go_enter Try.func38, Try.ntmps38
  go_wp2_with fail
  refine HC.out.mono ?_
  rintro e w1 ⟨rfl, hb⟩
  go_wp2
  go_ret
  first
    | exact ⟨rfl, hb⟩
    | (subst hb; exact ⟨rfl, Below.refl _ _⟩)

theorem eith1_any (B : Nat) (xo : Option Addr) (xc : Nat) (L : List Nat) (u : Value) (r : List Nat) (w : World) (hB : w.cell? ⟨B, 0, none⟩ = some (.slice xo L.length xc)) (hBl : B < w.heap.size) (hL : Nats w (.slice xo L.length xc) L) (hLl : L.length ≤ 1000) (hu : Nats w u r) (hr : r.length ≤ 1000) :
    Calls Try.prog 36 #[u, .pointer (some ⟨B, 0, none⟩)] w fun e w' => e = .returned (.bool (L.all fun x => decide (x ∈ r))) ∧ Below w.heap.size w w' := by
  have HU := Lib.hid hu
  obtain ⟨uo, uc, rfl, _⟩ := hu
  have hb0 := below_new w (.cells #[.slice uo r.length uc] 23)
  have c1 := (World.cell?_alloc_lt w (.cells #[.slice uo r.length uc] 23) ⟨B, 0, none⟩ hBl).trans hB
  have HA : Hid (Calls Try.prog 37 #[.slice xo L.length xc, .func (.func 38) #[] #[.pointer (some ⟨w.heap.size, 0, none⟩)]] (w.alloc (.cells #[.slice uo r.length uc] 23)) fun e w' => e = .returned (.bool (L.any fun x => !decide (x ∈ r))) ∧ Below (w.alloc (.cells #[.slice uo r.length uc] 23)).heap.size (w.alloc (.cells #[.slice uo r.length uc] 23)) w') := by
    have h := anyInts_any 38 #[.pointer (some ⟨w.heap.size, 0, none⟩)] (fun x => !decide (x.toNat ∈ r)) (.slice xo L.length xc) (L.map fun k : Nat => (k : Int)) (w.alloc (.cells #[.slice uo r.length uc] 23)) (Nats.ints (hL.below hb0)) (by simp; omega) (by
      refine ⟨fun xs W => by rfl, fun x W hx hW => ?_⟩
      obtain ⟨k, _, rfl⟩ := List.mem_map.1 hx
      exact eith2_any w.heap.size (.slice uo r.length uc) r k W ((hW.cell (p := ⟨w.heap.size, 0, none⟩) (by simp)).trans (by rw [World.cell?_alloc_at _ _ _ _ rfl]; rfl)) (HU.out.below (bstep hb0 hW)) hr)
    rw [List.any_map] at h
    exact h
  clear hL hB
  go_enter Try.func36, Try.ntmps36
  go_wp2_with fail
  refine HA.out.mono ?_
  rintro e w1 ⟨rfl, hb⟩
  have HB := Lib.hid (bstep hb0 hb)
  clear hb
  go_wp2
  go_ret
  exact ⟨ret_bool (by rw [List.not_any_eq_all_not]; simp), HB.out⟩
end Go.Proofs.Ythhhcaleoiopgaa
