/-
  Boxes: coordinates, ends along an axis, boxes that are valid.
-/
import Derived.Test.YtpidjgljeooblaaLdF
import Derived.Deep.RegionHeld3
import Derived.Deep.DrawnRows
namespace Go.Proofs.Ytpidjgljeooblaa
open Go.RowKit
set_option linter.unusedVariables false
set_option linter.unusedSimpArgs false
attribute [local go_sem ↓] Go.wp_at_zero Go.wp_at_succ

theorem coords_at (p : Pt) (w : World) : Calls Try.prog 97 #[ptv p] w fun e w' => e = .returned (ptv p) ∧ (w.alloc (.cells #[.int .i64 p.x, .int .i64 p.y, .int .i64 p.z] 31)).alloc (.cells #[.int .i64 p.x, .int .i64 p.y, .int .i64 p.z] 128) = w' := by
  obtain ⟨x, y, z⟩ := p
  go_enter Try.func97, Try.ntmps97
  go_wp2
  exact bodyPost_ret (v := ptv _) (by simp [results, Try.results97, go_sem]) rfl ⟨rfl, rfl⟩

def ax (p : Pt) (k : Nat) : Int := if k = 0 then p.x else if k = 1 then p.y else p.z
abbrev bxCellsA (b : Bx) : Array Value := #[.int .i64 b.lo.x, .int .i64 b.lo.y, .int .i64 b.lo.z, .int .i64 b.hi.x, .int .i64 b.hi.y, .int .i64 b.hi.z]

set_option maxRecDepth 100000 in
set_option maxHeartbeats 4000000 in
theorem ends_any (b : Bx) (k : Nat) (w : World) (hk : k < 3) : Calls Try.prog 77 #[bxv b, .int .i64 (k : Int)] w fun e w' => e = .returned (.tuple #[.int .i64 (ax b.lo k), .int .i64 (ax b.hi k)]) ∧ Below w.heap.size w w' := by
  obtain ⟨⟨lx, ly, lz⟩, ⟨hx, hy, hz⟩⟩ := b
  have HL := Lib.hid (fun W => coords_at ⟨lx, ly, lz⟩ W)
  have HH := Lib.hid (fun W => coords_at ⟨hx, hy, hz⟩ W)
  obtain rfl | rfl | rfl : k = 0 ∨ k = 1 ∨ k = 2 := by omega
  · have i0 : ∀ (a b c : Int) W, (Instr.index 128 (.agg #[.int .i64 a, .int .i64 b, .int .i64 c]) (.int .i64 0)).run Try.prog W = .ok (.int .i64 a) W := fun _ _ _ _ => by kernel_rfl
    go_enter Try.func77, Try.ntmps77
    go_wp2_with fail
    go_region_held3 (fun w' => w'.cell? ⟨w.heap.size, 0, none⟩ = some (.int .i64 lx) ∧ w'.cell? ⟨w.heap.size, 1, none⟩ = some (.int .i64 ly) ∧ w'.cell? ⟨w.heap.size, 2, none⟩ = some (.int .i64 lz) ∧ w'.cell? ⟨w.heap.size, 3, none⟩ = some (.int .i64 hx) ∧ w'.cell? ⟨w.heap.size, 4, none⟩ = some (.int .i64 hy) ∧ w'.cell? ⟨w.heap.size, 5, none⟩ = some (.int .i64 hz))
      ((first | (refine ⟨?_, ?_, ?_, ?_, ?_, ?_⟩ <;> (go_simp; done)) | fail))
      ((first | (go_at_call 97; (first | (with_reducible refine (HL.out _).mono ?_) | (with_reducible refine (HH.out _).mono ?_)); rintro e w9 ⟨rfl, rfl⟩) | fail))
    all_goals
      go_wp2
      go_ret2
      exact ⟨rfl, by go_grown⟩
  · have i0 : ∀ (a b c : Int) W, (Instr.index 128 (.agg #[.int .i64 a, .int .i64 b, .int .i64 c]) (.int .i64 1)).run Try.prog W = .ok (.int .i64 b) W := fun _ _ _ _ => by kernel_rfl
    go_enter Try.func77, Try.ntmps77
    go_wp2_with fail
    go_region_held3 (fun w' => w'.cell? ⟨w.heap.size, 0, none⟩ = some (.int .i64 lx) ∧ w'.cell? ⟨w.heap.size, 1, none⟩ = some (.int .i64 ly) ∧ w'.cell? ⟨w.heap.size, 2, none⟩ = some (.int .i64 lz) ∧ w'.cell? ⟨w.heap.size, 3, none⟩ = some (.int .i64 hx) ∧ w'.cell? ⟨w.heap.size, 4, none⟩ = some (.int .i64 hy) ∧ w'.cell? ⟨w.heap.size, 5, none⟩ = some (.int .i64 hz))
      ((first | (refine ⟨?_, ?_, ?_, ?_, ?_, ?_⟩ <;> (go_simp; done)) | fail))
      ((first | (go_at_call 97; (first | (with_reducible refine (HL.out _).mono ?_) | (with_reducible refine (HH.out _).mono ?_)); rintro e w9 ⟨rfl, rfl⟩) | fail))
    all_goals
      go_wp2
      go_ret2
      exact ⟨rfl, by go_grown⟩
  · have i0 : ∀ (a b c : Int) W, (Instr.index 128 (.agg #[.int .i64 a, .int .i64 b, .int .i64 c]) (.int .i64 2)).run Try.prog W = .ok (.int .i64 c) W := fun _ _ _ _ => by kernel_rfl
    go_enter Try.func77, Try.ntmps77
    go_wp2_with fail
    go_region_held3 (fun w' => w'.cell? ⟨w.heap.size, 0, none⟩ = some (.int .i64 lx) ∧ w'.cell? ⟨w.heap.size, 1, none⟩ = some (.int .i64 ly) ∧ w'.cell? ⟨w.heap.size, 2, none⟩ = some (.int .i64 lz) ∧ w'.cell? ⟨w.heap.size, 3, none⟩ = some (.int .i64 hx) ∧ w'.cell? ⟨w.heap.size, 4, none⟩ = some (.int .i64 hy) ∧ w'.cell? ⟨w.heap.size, 5, none⟩ = some (.int .i64 hz))
      ((first | (refine ⟨?_, ?_, ?_, ?_, ?_, ?_⟩ <;> (go_simp; done)) | fail))
      ((first | (go_at_call 97; (first | (with_reducible refine (HL.out _).mono ?_) | (with_reducible refine (HH.out _).mono ?_)); rintro e w9 ⟨rfl, rfl⟩) | fail))
    all_goals
      go_wp2
      go_ret2
      exact ⟨rfl, by go_grown⟩

def bxOk (b : Bx) : Bool := decide ((b.lo.x ≤ b.hi.x ∧ -1048576 ≤ b.lo.x ∧ b.hi.x ≤ 1048576) ∧ (b.lo.y ≤ b.hi.y ∧ -1048576 ≤ b.lo.y ∧ b.hi.y ≤ 1048576) ∧ (b.lo.z ≤ b.hi.z ∧ -1048576 ≤ b.lo.z ∧ b.hi.z ≤ 1048576))
def axB3 (b : Bx) (k : Nat) : Prop := ax b.lo k ≤ ax b.hi k ∧ -1048576 ≤ ax b.lo k ∧ ax b.hi k ≤ 1048576
theorem bxOk_no {b : Bx} {k : Nat} (hk : k < 3) (h : ¬ axB3 b k) : bxOk b = false := by
  unfold axB3 ax at h
  unfold bxOk
  obtain rfl | rfl | rfl : k = 0 ∨ k = 1 ∨ k = 2 := by omega
  · exact dec_no (fun h2 => h h2.1)
  · exact dec_no (fun h2 => h h2.2.1)
  · exact dec_no (fun h2 => h h2.2.2)
theorem bxOk_yes {b : Bx} (h : ∀ k, k < 3 → axB3 b k) : bxOk b = true := by
  have h0 := h 0 (by omega)
  have h1 := h 1 (by omega)
  have h2 := h 2 (by omega)
  exact dec_yes ⟨h0, h1, h2⟩
theorem bxOk_iff {b : Bx} (h : bxOk b = true) : ∀ k, k < 3 → axB3 b k := by
  intro k hk
  unfold bxOk at h
  rw [decide_eq_true_eq] at h
  obtain rfl | rfl | rfl : k = 0 ∨ k = 1 ∨ k = 2 := by omega
  · exact h.1
  · exact h.2.1
  · exact h.2.2

set_option maxRecDepth 100000 in
set_option maxHeartbeats 2000000 in
theorem bvalid_any (b : Bx) (w : World) : Calls Try.prog 61 #[bxv b] w fun e w' => e = .returned (.bool (bxOk b)) ∧ Below w.heap.size w w' := by
  have HE := Lib.hid (fun k hk W => ends_any b k W hk)
  have HN := Lib.hid (fun k hk => bxOk_no (b := b) (k := k) hk)
  have HY := Lib.hid (bxOk_yes (b := b))
  have HX : Hid (∀ k, axB3 b k = (ax b.lo k ≤ ax b.hi k ∧ -1048576 ≤ ax b.lo k ∧ ax b.hi k ≤ 1048576)) := fun _ => rfl
  generalize bxOk b = ok at *
  go_enter Try.func61, Try.ntmps61
  go_wp2
  go_loopw [6] (fun i wr => ∃ k : Nat, k ≤ 3 ∧ i = .int .i64 k ∧ Below w.heap.size w wr ∧ BlkIs wr w.heap.size 33 (bxCellsA b) ∧ Hid (∀ j, j < k → axB3 b j)) (fun i _ => 3 - (intOf i).toNat)
  case atStart => exact ⟨0, by omega, rfl, below_new _ _, BlkIs.new _ _ _, fun j hj => by omega⟩
  case round =>
    obtain ⟨k, hk, rfl, hB, hX, hA⟩ := hrel
    by_cases hk2 : k < 3
    · have c0 := hX.cell 0
      have c1 := hX.cell 1
      have c2 := hX.cell 2
      have c3 := hX.cell 3
      have c4 := hX.cell 4
      have c5 := hX.cell 5
      have HEK := Lib.hid (HE.out k hk2)
      have HNK := Lib.hid (HN.out k hk2)
      have HXK := Lib.hid (HX.out k)
      have HB := Lib.hid hB
      have HXB := Lib.hid hX
      generalize hlo : ax b.lo k = lo at *
      generalize hhi : ax b.hi k = hi at *
      clear hB hX hlo hhi
      go_wp2_with fail
      refine (HEK.out _).mono ?_
      rintro e w9 ⟨rfl, hb9⟩
      have HB9 := Lib.hid (bstep HB.out hb9)
      have HX9 := Lib.hid (HXB.out.below hb9)
      clear hb9 c0 c1 c2 c3 c4 c5
      by_cases h1 : hi < lo
      · have HF := Lib.hid (HNK.out (by rw [HXK.out]; omega))
        go_wp2
        go_ret
        exact ⟨ret_bool HF.out.symm, HB9.out⟩
      · by_cases h2 : lo < -1048576
        · have HF := Lib.hid (HNK.out (by rw [HXK.out]; omega))
          go_wp2
          go_ret
          exact ⟨ret_bool HF.out.symm, HB9.out⟩
        · by_cases h3 : 1048576 < hi
          · have HF := Lib.hid (HNK.out (by rw [HXK.out]; omega))
            go_wp2
            go_ret
            exact ⟨ret_bool HF.out.symm, HB9.out⟩
          · have HT := Lib.hid (show axB3 b k by rw [HXK.out]; omega)
            go_wp2
            go_roundw
            case rel => exact ⟨k + 1, by omega, by go_num, HB9.out, HX9.out, fun j hj => by
              by_cases e : j = k
              · rw [e]; exact HT.out
              · exact hA.out j (by omega)⟩
            case measure => simp [intOf]; omega
    · have HT := Lib.hid (HY.out (fun j hj => hA.out j (by omega)))
      go_wp2
      go_ret
      exact ⟨ret_bool HT.out.symm, hB⟩

theorem ball1_any (b : Bx) (w : World) : Calls Try.prog 79 #[bxv b] w fun e w' => e = .returned (.bool (!bxOk b)) ∧ Below w.heap.size w w' := by
  have H := Lib.hid (bvalid_any b _ : Calls Try.prog 61 #[bxv b] (w.alloc (.cells (bxCellsA b) 33)) _)
  generalize bxOk b = ok at *
  go_enter Try.func79, Try.ntmps79
  go_wp2_with fail
  refine H.out.mono ?_
  rintro e w9 ⟨rfl, hb9⟩
  have HB := Lib.hid (bstep (below_new _ _) hb9)
  clear hb9
  go_wp2
  go_ret
  exact ⟨rfl, HB.out⟩

set_option maxRecDepth 100000 in
set_option maxHeartbeats 1000000 in
theorem indexBad_any (v : Value) (l : List Bx) (w : World) (hp : Bxs w v l) (hl : l.length ≤ 140737488355328) :
    Calls Try.prog 98 #[v, .func (.func 79) #[] #[]] w fun e w' => (∃ i : Int, e = .returned (.int .i64 i) ∧ decide (0 ≤ i) = !l.all bxOk) ∧ Below w.heap.size w w' := by
  obtain ⟨ao, cap, rfl⟩ := hp.at_
  have HP := Lib.hid hp
  have hF : ∀ (xs : Array Value) (W : World), (callFunc 79 xs).run Try.prog W = .ok (.enter 79 xs) W := fun xs W => by rfl
  clear hp
  go_enter Try.func98, Try.ntmps98
  go_wp2
  go_loopw [5, 8] (fun _ i wr => ∃ k : Nat, k ≤ l.length ∧ i = .int .i64 k ∧ Below w.heap.size w wr ∧ Hid (∀ (j : Nat) y, j < k → l[j]? = some y → bxOk y = true)) (fun _ i _ => l.length - (intOf i).toNat)
  case atStart => exact ⟨0, Nat.zero_le _, rfl, Below.refl _ _, fun j _ hj => by omega⟩
  case round =>
    obtain ⟨k, hk, rfl, hBr, hno⟩ := hrel
    by_cases hk2 : k < l.length
    · obtain ⟨x, hy⟩ : ∃ y, l[k]? = some y := ⟨_, List.getElem?_eq_getElem hk2⟩
      obtain ⟨b, off, rfl, hbl, c0, c1, c2, c3, c4, c5⟩ := bxs_get (HP.out.below hBr) hy
      have HK := Lib.hid (ball1_any x wr)
      have HY := Lib.hid hy
      obtain ⟨q, hq⟩ : ∃ q, bxOk x = q := ⟨_, rfl⟩
      rw [hq] at HK
      have HQ := Lib.hid hq
      clear hy hq
      cases q
      · have HR := Lib.hid (show l.all bxOk = false from List.all_eq_false.2 ⟨x, List.mem_of_getElem? HY.out, by rw [HQ.out]; simp⟩)
        go_wp2_with fail
        refine HK.out.mono ?_
        rintro e w9 ⟨rfl, hb9⟩
        have hB9 := bstep hBr hb9
        go_wp2
        go_ret
        exact ⟨⟨k, rfl, by rw [HR.out]; simp⟩, hB9⟩
      · go_wp2_with fail
        refine HK.out.mono ?_
        rintro e w9 ⟨rfl, hb9⟩
        have hB9 := bstep hBr hb9
        go_wp2
        go_roundw
        case rel => exact ⟨k + 1, by omega, by go_num, hB9, fun j z hj hz => by
          by_cases e : j = k
          · subst e; rw [HY.out] at hz; cases hz; exact HQ.out
          · exact hno j z (by omega) hz⟩
        case measure => simp [intOf]; omega
    · have HR := Lib.hid (show l.all bxOk = true from List.all_eq_true.2 fun x hx => by
        obtain ⟨j, hj, rfl⟩ := List.getElem_of_mem hx
        exact hno j _ (by omega) (List.getElem?_eq_getElem hj))
      go_wp2
      go_ret
      exact ⟨⟨-1, rfl, by rw [HR.out]; rfl⟩, hBr⟩
theorem ball_any (v : Value) (l : List Bx) (w : World) (hp : Bxs w v l) (hl : l.length ≤ 140737488355328) :
    Calls Try.prog 63 #[v] w fun e w' => e = .returned (.bool (l.all bxOk)) ∧ Below w.heap.size w w' := by
  have HC : Hid (Calls Try.prog 78 #[v, .func (.func 79) #[] #[]] w fun e w' => e = .returned (.bool (!l.all bxOk)) ∧ Below w.heap.size w w') := by
    have HI := Lib.hid (indexBad_any v l w hp hl)
    show Calls _ _ _ _ _
    go_enter Try.func78, Try.ntmps78
    go_wp2_with fail
    refine HI.out.mono ?_
    rintro e w9 ⟨⟨i, rfl, hi⟩, hb1⟩
    have HR := Lib.hid hi
    clear hi
    go_wp2
    go_ret
    exact ⟨ret_bool HR.out, hb1⟩
  generalize l.all bxOk = ok at *
  clear hp
  go_enter Try.func63, Try.ntmps63
  go_wp2_with fail
  refine HC.out.mono ?_
  rintro e w9 ⟨rfl, hb1⟩
  have HB := Lib.hid hb1
  clear hb1
  go_wp2
  go_ret
  exact ⟨ret_bool (by simp), HB.out⟩
end Go.Proofs.Ytpidjgljeooblaa
