/-
  Graph: round, Cycle.
-/
import Derived.Test.YtcaeemcobgopmaaGrG
namespace Go.Proofs.Ytcaeemcobgopmaa
open Go.RowKit
set_option linter.unusedVariables false

def roundF (ns : List (Nat × Nat)) (f : Nat) : List Nat → (Nat → Option Bool) → Nat → Bool
  | [], _, a => a == f
  | i :: t, m, a => if (m a).getD false || !inc ns i a then false else roundF ns f t (mput m a true) (oth ns i a)

structure RAt (w : World) (ns : List (Nat × Nat)) (ls : List Nat) (n f k a B : Nat) (m : Nat → Option Bool) (wr : World) : Prop where
  res : roundF ns f (ls.drop k) m a = roundF ns f ls (fun _ => none) f
  map_ : ∃ c, c ≤ k ∧ IMap wr 4 (fun x : Bool => .bool x) false B c m
  below : Below w.heap.size w wr
  base : w.heap.size ≤ B

set_option maxRecDepth 100000 in
theorem round_any (n : Nat) (ve vl : Value) (ns : List (Nat × Nat)) (ls : List Nat) (f : Nat) (w : World) (hn : n ≤ 1000) (hm : ns.length ≤ 4000) (hp : NPairs w ve ns) (he : Ends n ns) (hl : Nats w vl ls) (hll : ls.length ≤ 1000000) (hi : ∀ i ∈ ls, i < ns.length) (hf : f < n) :
    Calls Try.prog 55 #[ve, vl, .int .i64 (f : Int)] w fun e w' => e = .returned (.bool (roundF ns f ls (fun _ => none) f)) ∧ Below w.heap.size w w' := by
  obtain ⟨ao, cap, rfl, h⟩ := hp.open_
  obtain ⟨lo, lc, rfl, h2⟩ := hl
  have HE := Lib.hid he
  have HH := Lib.hid h
  have HH2 := Lib.hid h2
  have HI := Lib.hid hi
  have hmm := @run_makeMap Try.prog
  clear he hp h h2 hi
  have HR0 : Hid (RAt w ns ls n f 0 f w.heap.size (fun _ => none) (w.alloc (.map #[] 0))) := ⟨rfl, ⟨0, Nat.le_refl _, IMap.new w 4 (fun x : Bool => .bool x) false⟩, below_new w _, Nat.le_refl _⟩
  go_enter Try.func55, Try.ntmps55
  go_wp2_with fail
  clear hmm
  obtain ⟨B, hB⟩ : ∃ B, w.heap.size = B := ⟨_, rfl⟩
  have HB := Lib.hid hB
  rw [hB] at HR0 ⊢
  clear hB
  go_loopw [8, 16] (fun s8 s16 wr => ∃ k a m, k ≤ ls.length ∧ s16 = .int .i64 ((k : Nat) : Int) ∧ s8 = .int .i64 ((a : Nat) : Int) ∧ a < n ∧ Hid (RAt w ns ls n f k a B m wr)) (fun _ s16 _ => ls.length - (intOf s16).toNat)
  case atStart => exact ⟨0, f, _, Nat.zero_le _, rfl, rfl, hf, HR0⟩
  case round =>
    clear HR0
    obtain ⟨k, a, m, hk, rfl, rfl, ha, H⟩ := hrel
    by_cases hlt : k < ls.length
    · obtain ⟨i, hik⟩ : ∃ i, ls[k]? = some i := ⟨_, List.getElem?_eq_getElem hlt⟩
      have hil := HI.out i (List.mem_of_getElem? hik)
      obtain ⟨lb, loff, rfl, hlb, hlc⟩ := HH2.out (by omega)
      have hci := (H.out.below.cell (p := ⟨lb, loff + k, none⟩) hlb).trans (hlc k i hik)
      obtain ⟨⟨x, y⟩, hxy⟩ : ∃ e, ns[i]? = some e := ⟨_, List.getElem?_eq_getElem hil⟩
      have hends := HE.out i _ hxy
      obtain ⟨eb, eoff, rfl, heb, hec⟩ := HH.out (by omega)
      obtain ⟨he1, he2⟩ := hec i _ hxy
      have hd1 := (H.out.below.cell (p := ⟨eb, eoff + i * 2, none⟩) heb).trans he1
      have hd2 := (H.out.below.cell (p := ⟨eb, eoff + i * 2 + 1, none⟩) heb).trans he2
      simp only at hd1 hd2 hends
      obtain ⟨hx1, hy1, _⟩ := hends
      have hdrop : ls.drop k = i :: ls.drop (k + 1) := by
        rw [← (List.getElem?_eq_some_iff.1 hik).2, List.drop_eq_getElem_cons hlt]
      have hres := H.out.res
      rw [hdrop, roundF] at hres
      have hin : inc ns i a = true ↔ (x = a ∨ y = a) := by unfold inc; rw [hxy]; simp
      obtain ⟨c, hc, hmp⟩ := H.out.map_
      have hmp1 := hmp.alloc (.cells #[.int .i64 (x : Int), .int .i64 (y : Int)] 43)
      have hlk := hmp1.look mapBool (x := a) (by omega)
      have HC := Lib.hid hc
      have HMP := Lib.hid hmp1
      have hzr := H.out.below.size
      have hbs := H.out.base
      have HD := Lib.hid hdrop
      have HXY := Lib.hid hxy
      have i0 : (0 : Int) ≤ (i : Int) := Int.natCast_nonneg _
      have i1 : (i : Int) < (ns.length : Int) := by omega
      have hBl := hmp.lt
      clear hc hmp hmp1 hdrop hik hlc hec he1 he2 hxy
      by_cases hseen : (m a).getD false = true
      · rw [hseen] at hlk hres
        have HRS := Lib.hid (show roundF ns f ls (fun _ => none) f = false from hres.symm.trans (by simp))
        clear hres hin hseen
        go_wp2
        go_ret
        exact ⟨ret_bool HRS.out.symm, H.out.below.alloc hzr _⟩
      · have hs0 : (m a).getD false = false := by simpa using hseen
        rw [hs0] at hlk hres
        clear hseen
        rw [Bool.false_or] at hres
        by_cases hinc : inc ns i a = true
        · rw [hinc] at hres
          have hsum := oth_sum HXY.out hinc
          have hkl := oth_lt HE.out hinc
          have HRS := Lib.hid hres
          obtain ⟨b, hb⟩ : ∃ b, oth ns i a = b := ⟨_, rfl⟩
          rw [hb] at hsum hkl
          have HBD := Lib.hid hb
          simp only at hsum
          have HSUM := Lib.hid hsum
          have hor := hin.1 hinc
          clear hres hb hin hinc hsum
          rcases hor with hxa | hya
          · have e1 := bne_no (show (x : Int) = (a : Int) by omega)
            clear hxa
            go_wp2_with (first | (at_mapUpdate; refine wpList_put _ rfl _ _ _ _ rfl 4 (fun x : Bool => .bool x) false mapBool B c _ HMP.out (by have := HC.out; omega) a (by omega) true trivial rfl rfl rfl ?_; intro w5 hmp5 hg5; have hx5 : w5.cell? ⟨wr.heap.size, 0, none⟩ = some (.int .i64 (x : Int)) := (hg5.cell_far ⟨wr.heap.size, 0, none⟩ (by simp) (by simp; omega)).trans (by rw [World.cell?_alloc_at _ _ _ _ rfl]; rfl); have hy5 : w5.cell? ⟨wr.heap.size, 1, none⟩ = some (.int .i64 (y : Int)) := (hg5.cell_far ⟨wr.heap.size, 1, none⟩ (by simp) (by simp; omega)).trans (by rw [World.cell?_alloc_at _ _ _ _ rfl]; rfl); have hz5 := hg5.size) | (go_at_call 40; refine (other_nat x y a b HSUM.out (by omega) (by omega) _).mono ?_; rintro e w9 ⟨rfl, hb9⟩))
            (have HF : Hid (RAt w ns ls n f (k + 1) b B (mput m a true) w9) := ⟨by rw [← HRS.out, HBD.out]; simp, ⟨c + 1, by have := HC.out; omega, hmp5.below hb9⟩, (below_grown (H.out.below.alloc hzr _) hg5 (by simp; omega) (fun g e => by cases e; exact hbs)).trans (hb9.mono (by simp at hz5; omega)), hbs⟩; clear hx5 hy5; go_wp2; go_roundw; (case rel => exact ⟨k + 1, b, _, by omega, by go_num, rfl, hkl, HF⟩); (case measure => (simp [intOf]; omega)))
          · have e1 := bne_yes (show (x : Int) ≠ (a : Int) by omega)
            have e2 := bne_no (show (y : Int) = (a : Int) by omega)
            clear hya
            go_wp2_with (first | (at_mapUpdate; refine wpList_put _ rfl _ _ _ _ rfl 4 (fun x : Bool => .bool x) false mapBool B c _ HMP.out (by have := HC.out; omega) a (by omega) true trivial rfl rfl rfl ?_; intro w5 hmp5 hg5; have hx5 : w5.cell? ⟨wr.heap.size, 0, none⟩ = some (.int .i64 (x : Int)) := (hg5.cell_far ⟨wr.heap.size, 0, none⟩ (by simp) (by simp; omega)).trans (by rw [World.cell?_alloc_at _ _ _ _ rfl]; rfl); have hy5 : w5.cell? ⟨wr.heap.size, 1, none⟩ = some (.int .i64 (y : Int)) := (hg5.cell_far ⟨wr.heap.size, 1, none⟩ (by simp) (by simp; omega)).trans (by rw [World.cell?_alloc_at _ _ _ _ rfl]; rfl); have hz5 := hg5.size) | (go_at_call 40; refine (other_nat x y a b HSUM.out (by omega) (by omega) _).mono ?_; rintro e w9 ⟨rfl, hb9⟩))
            (have HF : Hid (RAt w ns ls n f (k + 1) b B (mput m a true) w9) := ⟨by rw [← HRS.out, HBD.out]; simp, ⟨c + 1, by have := HC.out; omega, hmp5.below hb9⟩, (below_grown (H.out.below.alloc hzr _) hg5 (by simp; omega) (fun g e => by cases e; exact hbs)).trans (hb9.mono (by simp at hz5; omega)), hbs⟩; clear hx5 hy5; go_wp2; go_roundw; (case rel => exact ⟨k + 1, b, _, by omega, by go_num, rfl, hkl, HF⟩); (case measure => (simp [intOf]; omega)))
        · have hinf : inc ns i a = false := by simpa using hinc
          rw [hinf] at hres
          have HRS := Lib.hid (show roundF ns f ls (fun _ => none) f = false from hres.symm.trans (by simp))
          have e1 := bne_yes (show (x : Int) ≠ (a : Int) by intro e; exact hinc (hin.2 (.inl (by omega))))
          have e2 := bne_yes (show (y : Int) ≠ (a : Int) by intro e; exact hinc (hin.2 (.inr (by omega))))
          clear hres hin hinc hinf
          go_wp2
          go_ret
          exact ⟨ret_bool HRS.out.symm, H.out.below.alloc hzr _⟩
    · have hkl : k = ls.length := by omega
      subst hkl
      have hres := H.out.res
      rw [List.drop_length, roundF] at hres
      have HRS := Lib.hid hres
      clear hres
      by_cases haf : a = f
      · have h9 := beq_yes (show (a : Int) = (f : Int) by omega)
        go_wp2
        go_ret
        exact ⟨ret_bool (by rw [← HRS.out]; simp [haf]), H.out.below⟩
      · have h9 := beq_no (show (a : Int) ≠ (f : Int) by omega)
        go_wp2
        go_ret
        exact ⟨ret_bool (by rw [← HRS.out]; simp [haf]), H.out.below⟩
end Go.Proofs.Ytcaeemcobgopmaa
