/-
  Steel: contracts of the functions over numbers and of the library's Index, Contains, Equal at []int.
-/
import Derived.Test.YtoddlkpglfccaaaChecked
import Derived.WalkKit
import Derived.Handy
import Derived.Lib.Hide
import Derived.BigQuiet
import Derived.Deep.QuietTactic
namespace Go.Proofs.Ytoddlkpglfccaaa
open Go.RowKit

def szs : List Int := [6, 8, 10, 12, 16, 20, 25, 32, 40]

def szCells : Array Value := #[.int .i64 6, .int .i64 8, .int .i64 10, .int .i64 12, .int .i64 16, .int .i64 20, .int .i64 25, .int .i64 32, .int .i64 40]

theorem sizes_any (w : World) : Calls Try.prog 16 #[] w fun e w' =>
    e = .returned (.slice (some ⟨w.heap.size, 0, none⟩) 9 9) ∧ w.alloc (.cells szCells 3) = w' := by
  go_enter Try.func16, Try.ntmps16
  go_wp2
  go_ret
  exact ⟨rfl, rfl⟩

/-- A slice of ints that reads as a list (an empty one has any address). -/
def Ints (w : World) (v : Value) (l : List Int) : Prop :=
  ∃ ao cap, v = .slice ao l.length cap ∧ (0 < l.length → ∃ b off, ao = some ⟨b, off, none⟩ ∧ b < w.heap.size ∧ ∀ k, k < l.length → w.cell? ⟨b, off + k, none⟩ = some (.int .i64 (l.getD k 0)))

theorem Ints.below {w w' : World} {v : Value} {l : List Int} (h : Ints w v l) (hb : Below w.heap.size w w') : Ints w' v l := by
  obtain ⟨ao, cap, rfl, h⟩ := h
  refine ⟨ao, cap, rfl, fun hl => ?_⟩
  obtain ⟨b, off, rfl, hlt, hc⟩ := h hl
  exact ⟨b, off, rfl, Nat.lt_of_lt_of_le hlt hb.size, fun k hk => (hb.cell hlt).trans (hc k hk)⟩

theorem ret_int {k : IntKind} {a b : Int} (h : a = b) : Ending.returned (.int k a) = .returned (.int k b) := by rw [h]
theorem ret_bool {a b : Bool} (h : a = b) : Ending.returned (.bool a) = .returned (.bool b) := by rw [h]

def idxOf (l : List Int) (x : Int) : Int := match l.findIdx? (· == x) with | some i => (i : Int) | none => -1

/-- The first k elements are not x. -/
theorem idxOf_hit (l : List Int) (x : Int) (k : Nat) (hk : k < l.length) (hno : ∀ j, j < k → l.getD j 0 ≠ x) (hx : l.getD k 0 = x) : idxOf l x = k := by
  have : l.findIdx? (· == x) = some k := by
    rw [List.findIdx?_eq_some_iff_getElem]
    refine ⟨hk, ?_, fun j hj => ?_⟩
    · simpa [List.getD, hk] using hx
    · have := hno j hj
      simp [List.getD, show j < l.length by omega] at this
      simpa using this
  simp [idxOf, this]
theorem idxOf_miss (l : List Int) (x : Int) (hno : ∀ j, j < l.length → l.getD j 0 ≠ x) : idxOf l x = -1 := by
  have : l.findIdx? (· == x) = none := by
    rw [List.findIdx?_eq_none_iff]
    intro y hy
    obtain ⟨j, hj, rfl⟩ := List.getElem_of_mem hy
    have := hno j hj
    simp [List.getD, hj] at this
    simpa using this
  simp [idxOf, this]

set_option maxHeartbeats 400000 in
theorem index_any (v : Value) (l : List Int) (x : Int) (w : World) (h : Ints w v l) (hl : l.length ≤ 140737488355328) :
    Calls Try.prog 20 #[v, .int .i64 x] w fun e w' => e = .returned (.int .i64 (idxOf l x)) ∧ w = w' := by
  obtain ⟨ao, cap, rfl, h⟩ := h
  go_enter Try.func20, Try.ntmps20
  go_wp2
  go_loop [5, 8] (fun _ i => ∃ k : Nat, k ≤ l.length ∧ i = .int .i64 k ∧ Hid (∀ j, j < k → l.getD j 0 ≠ x)) (fun _ i => l.length - (intOf i).toNat)
  case atStart => exact ⟨0, Nat.zero_le _, rfl, fun j hj => by omega⟩
  case round =>
    obtain ⟨k, hk, rfl, hno⟩ := hrel
    by_cases hlt : k < l.length
    · obtain ⟨b, off, rfl, _, hc⟩ := h (by omega)
      have hck := hc k hlt
      clear hc h
      obtain ⟨y, hy⟩ : ∃ y, l.getD k 0 = y := ⟨_, rfl⟩
      rw [hy] at hck
      have HY := Lib.hid hy
      clear hy
      go_wp2
      · have hx : x = y := by simpa using ‹(x == y) = true›
        go_ret
        exact ⟨ret_int (idxOf_hit l x k hlt hno (by rw [HY.out, hx])).symm, rfl⟩
      · have hx : ¬ x = y := by simpa using ‹(x == y) = false›
        go_round
        case rel => exact ⟨k + 1, by omega, by go_num, fun j hj => by
          by_cases e : j = k
          · subst e; rw [HY.out]; exact fun e => hx e.symm
          · exact hno j (by omega)⟩
        case measure => simp [intOf]; omega
    · clear h
      go_wp2
      go_ret
      exact ⟨ret_int (idxOf_miss l x (fun j hj => hno j (by omega))).symm, rfl⟩


theorem contains_any (v : Value) (l : List Int) (x : Int) (w : World) (h : Ints w v l) (hl : l.length ≤ 140737488355328) :
    Calls Try.prog 32 #[v, .int .i64 x] w fun e w' => e = .returned (.bool (decide (0 ≤ idxOf l x))) ∧ w = w' := by
  go_enter Try.func32, Try.ntmps32
  go_wp2_with (go_at_call 20; refine (index_any _ l _ _ h hl).mono ?_; rintro e w' ⟨rfl, rfl⟩)
  go_ret
  exact ⟨rfl, rfl⟩

def szB (d : Int) : Bool := decide (0 ≤ idxOf szs d)

theorem szs_ints (w : World) (o : Obj) (h : o = .cells szCells 3) : Ints (w.alloc o) (.slice (some ⟨w.heap.size, 0, none⟩) 9 9) szs := by
  subst h
  refine ⟨_, 9, rfl, fun _ => ⟨_, _, rfl, by simp, fun k hk => ?_⟩⟩
  rw [World.cell?_alloc_at _ _ _ _ rfl]
  have hk' : k < 9 := hk
  match k, hk' with
  | 0, _ => rfl
  | 1, _ => rfl
  | 2, _ => rfl
  | 3, _ => rfl
  | 4, _ => rfl
  | 5, _ => rfl
  | 6, _ => rfl
  | 7, _ => rfl
  | 8, _ => rfl

theorem below_new (w : World) (o : Obj) : Below w.heap.size w (w.alloc o) := (Below.refl _ _).alloc (Nat.le_refl _) o

theorem size_any (d : Int) (w : World) : Calls Try.prog 19 #[.int .i64 d] w fun e w' => e = .returned (.bool (szB d)) ∧ Below w.heap.size w w' := by
  go_enter Try.func19, Try.ntmps19
  go_wp2_with (first
    | (go_at_call 16; refine (sizes_any _).mono ?_; rintro e w' ⟨rfl, rfl⟩)
    | (go_at_call 32; refine (contains_any _ szs _ _ (szs_ints _ _ rfl) (by decide)).mono ?_; rintro e w' ⟨rfl, rfl⟩))
  go_ret
  exact ⟨rfl, below_new _ _⟩

def areaOf (d : Int) : Int := (7854 * d * d + 50) / 100
def massOf (d n : Int) : Int := (6165 * d * d * n + 500000) / 1000000
def bendOf (d : Int) : Int := if d ≤ 16 then 5 * d / 2 else 4 * d
def roundOf (d : Int) : Int := (d + 1) / 2

theorem szB_cases {d : Int} (h : szB d = true) : d = 6 ∨ d = 8 ∨ d = 10 ∨ d = 12 ∨ d = 16 ∨ d = 20 ∨ d = 25 ∨ d = 32 ∨ d = 40 := by
  unfold szB at h
  by_cases hm : d ∈ szs
  · simpa [szs] using hm
  · exfalso
    have : idxOf szs d = -1 := idxOf_miss szs d (fun j hj he => hm (by
      rw [← he]; simp [List.getD, hj]))
    rw [this] at h
    simp at h

theorem mul_bd {a b A B : Int} (ha : 0 ≤ a) (hA : a ≤ A) (hb : 0 ≤ b) (hB : b ≤ B) : 0 ≤ a * b ∧ a * b ≤ A * B :=
  ⟨Int.mul_nonneg ha hb, Int.mul_le_mul hA hB hb (by omega)⟩

theorem area_bd (d : Int) (h0 : 0 ≤ d) (h1 : d ≤ 40) : 0 ≤ 7854 * d ∧ 7854 * d ≤ 314160 ∧ 0 ≤ 7854 * d * d ∧ 7854 * d * d ≤ 12566400 ∧ 0 ≤ areaOf d ∧ areaOf d ≤ 125664 := by
  have := mul_bd (a := 7854 * d) (b := d) (A := 314160) (B := 40) (by omega) (by omega) h0 h1
  unfold areaOf
  omega

theorem area_in (d : Int) (w : World) (h0 : 0 ≤ d) (h1 : d ≤ 40) : Calls Try.prog 29 #[.int .i64 d] w fun e w' => e = .returned (.int .i64 (areaOf d)) ∧ w = w' := by
  obtain ⟨b1, b2, b3, b4, _, _⟩ := area_bd d h0 h1
  go_enter Try.func29, Try.ntmps29
  go_wp2
  go_ret
  exact ⟨rfl, rfl⟩
end Go.Proofs.Ytoddlkpglfccaaa
