/-
  SortStableFunc at no more than 19 integers: an insertion sort.
-/
import Derived.Test.YtejcgjdfajppgaaGreatDoorKlg
import Derived.Test.YtejcgjdfajppgaaGreatDoorKqb
namespace Go.Proofs.YtejcgjdfajppgaaGreatDoor
section
open Go.RowKit
set_option linter.unusedVariables false
set_option linter.unusedSimpArgs false
attribute [local go_sem ↓] Go.wp_at_zero Go.wp_at_succ

def swapL (L : List Int) (j : Nat) (x y : Int) : List Int := (L.set j y).set (j - 1) x
theorem swap_len (L : List Int) (j : Nat) (x y : Int) : (swapL L j x y).length = L.length := by unfold swapL; simp
theorem swap_perm {L : List Int} {j : Nat} {x y : Int} (hj : 0 < j) (hx : L[j]? = some x) (hy : L[j - 1]? = some y) : (swapL L j x y).Perm L := by
  obtain ⟨h1, h2⟩ := List.getElem?_eq_some_iff.1 hx
  obtain ⟨h3, h4⟩ := List.getElem?_eq_some_iff.1 hy
  have h := Array.swap_perm (xs := L.toArray) (i := j) (j := j - 1) (by simpa using h1) (by simpa using h3)
  rw [Array.perm_iff_toList_perm] at h
  have e : (L.toArray.swap j (j - 1) (by simpa using h1) (by simpa using h3)).toList = swapL L j x y := by
    unfold swapL
    simp [Array.swap, h2, h4]
  rw [e] at h
  exact h
theorem swap_get {L : List Int} {j : Nat} {x y : Int} (hj : 0 < j) (hx : L[j]? = some x) (hy : L[j - 1]? = some y) (a : Nat) :
    (swapL L j x y)[a]? = if a = j then some y else if a = j - 1 then some x else L[a]? := by
  have h1 := (List.getElem?_eq_some_iff.1 hx).1
  unfold swapL
  rw [List.getElem?_set, List.getElem?_set]
  by_cases e1 : a = j
  · subst e1
    rw [if_neg (by omega), if_pos rfl, if_pos h1, if_pos rfl]
  · by_cases e2 : a = j - 1
    · subst e2
      rw [if_pos rfl, if_pos (by simp; omega), if_neg e1, if_pos rfl]
    · rw [if_neg (fun h => e2 h.symm), if_neg (fun h => e1 h.symm), if_neg e1, if_neg e2]
/-- All pairs of the first ones are in order, but those that end at j. -/
def OrdBut (k : Int → Int) (L : List Int) (i j : Nat) : Prop := ∀ (a b : Nat) x y, a < b → b ≤ i → b ≠ j → L[a]? = some x → L[b]? = some y → k x ≤ k y
def OrdTo (k : Int → Int) (L : List Int) (i : Nat) : Prop := ∀ (a b : Nat) x y, a < b → b < i → L[a]? = some x → L[b]? = some y → k x ≤ k y
theorem ordBut_start {k : Int → Int} {L : List Int} {i : Nat} (h : OrdTo k L i) : OrdBut k L i i := fun a b x y h1 h2 h3 => h a b x y h1 (by omega)
theorem ordBut_swap {k : Int → Int} {L : List Int} {i j : Nat} {x y : Int} (hj : 0 < j) (hji : j ≤ i) (h : OrdBut k L i j) (hx : L[j]? = some x) (hy : L[j - 1]? = some y) (hlt : k x < k y) : OrdBut k (swapL L j x y) i (j - 1) := by
  intro a b u z hab hb hne ha hz
  rw [swap_get hj hx hy] at ha hz
  by_cases e1 : b = j
  · subst e1
    rw [if_pos rfl] at hz
    cases hz
    rw [if_neg (by omega)] at ha
    by_cases e2 : a = b - 1
    · subst e2
      rw [if_pos rfl] at ha
      cases ha
      omega
    · rw [if_neg e2] at ha
      exact h a (b - 1) u _ (by omega) (by omega) (by omega) ha hy
  · rw [if_neg e1, if_neg hne] at hz
    by_cases e3 : a = j
    · subst e3
      rw [if_pos rfl] at ha
      cases ha
      exact h (a - 1) b _ z (by omega) hb e1 hy hz
    · rw [if_neg e3] at ha
      by_cases e4 : a = j - 1
      · subst e4
        rw [if_pos rfl] at ha
        cases ha
        exact h j b _ z (by omega) hb e1 hx hz
      · rw [if_neg e4] at ha
        exact h a b u z hab hb e1 ha hz
theorem ordBut_end0 {k : Int → Int} {L : List Int} {i : Nat} (h : OrdBut k L i 0) : OrdTo k L (i + 1) := fun a b x y h1 h2 => h a b x y h1 (by omega) (by omega)
theorem ordBut_end {k : Int → Int} {L : List Int} {i j : Nat} {x y : Int} (hj : 0 < j) (hji : j ≤ i) (h : OrdBut k L i j) (hx : L[j]? = some x) (hy : L[j - 1]? = some y) (hlt : ¬ k x < k y) : OrdTo k L (i + 1) := by
  intro a b u z hab hb ha hz
  by_cases e : b = j
  · subst e
    rw [hx] at hz; cases hz
    by_cases e2 : a = b - 1
    · subst e2
      rw [hy] at ha; cases ha
      omega
    · have := h a (b - 1) u y (by omega) (by omega) (by omega) ha hy
      omega
  · exact h a b u z hab (by omega) e ha hz
theorem ordTo_pairwise {k : Int → Int} {L : List Int} (h : OrdTo k L L.length) : L.Pairwise (fun a b => k a ≤ k b) := by
  rw [List.pairwise_iff_getElem]
  intro i j hi hj hij
  exact h i j _ _ hij hj (List.getElem?_eq_getElem hi) (List.getElem?_eq_getElem hj)
/-- A comparison of integers by a key, in a world where only block g has changed. -/
def CmpBy (F : Nat) (caps : Array Value) (c : Int → Int → Int) (k : Int → Int) (l : List Int) (w : World) (r : Option Nat) : Prop :=
  (∀ (xs : Array Value) (W : World), (callFunc F xs).run Tryz.prog W = .ok (.enter F xs) W) ∧ (∀ x y, x ∈ l → y ∈ l → (c x y < 0 ↔ k x < k y)) ∧
  ∀ (x y : Int) (W : World), x ∈ l → y ∈ l → w.grownBy W r → Calls Tryz.prog F (#[.int .i64 x, .int .i64 y] ++ caps) W fun e w1 => e = .returned (.int .i64 (c x y)) ∧ Below W.heap.size W w1
set_option maxHeartbeats 2000000 in
theorem insertion_any (F : Nat) (caps : Array Value) (c : Int → Int → Int) (k : Int → Int) (v : Value) (l : List Int) (base : Nat) (w : World) (ho : Own w base 3 intv v l) (hl : l.length ≤ 1000) (hC : CmpBy F caps c k l w v.ownBlock) :
    Calls Tryz.prog 67 #[v, .int .i64 0, .int .i64 l.length, .func (.func F) #[] caps] w fun e w' => e = .returned (.tuple #[]) ∧ ∃ l', l'.Perm l ∧ OrdTo k l' l'.length ∧ Own w' base 3 intv v l' ∧ w.grownBy w' v.ownBlock := by
  obtain ⟨hF, hck, hC⟩ := hC
  have HCK := Lib.hid hck
  clear hck
  have HC := Lib.hid hC
  have HO := Lib.hid ho
  clear hC
  rcases Nat.lt_or_ge 1 l.length with h1 | h1
  · obtain ⟨g, cap, rfl, hg, hbg, hob⟩ := Own.form ho (by omega)
    clear ho
    rw [hob] at HC ⊢
    go_enter Tryz.func67, Tryz.ntmps67
    go_wp2_with fail
    go_loopw [8] (fun i wr => ∃ (p : Nat) (L : List Int), 1 ≤ p ∧ p ≤ l.length ∧ i = .int .i64 (p : Int) ∧ w.grownBy wr (some g) ∧ Own wr base 3 intv (.slice (some ⟨g, 0, none⟩) l.length cap) L ∧ Hid (L.Perm l ∧ OrdTo k L p)) (fun i _ => l.length - (intOf i).toNat)
    case atStart => exact ⟨1, l, Nat.le_refl _, by omega, rfl, only_refl _ _, HO.out, Lib.hid ⟨.refl _, fun a b x y h2 h3 => by omega⟩⟩
    case round =>
      obtain ⟨p, L, hp1, hp2, rfl, hgw, hO, hPL⟩ := hrel
      by_cases hk2 : p < l.length
      · have HGW := Lib.hid hgw
        have HOL := Lib.hid hO
        clear hgw hO
        go_wp2_with fail
        go_loopw [9] (fun j wr => ∃ (q : Nat) (L : List Int), q ≤ p ∧ j = .int .i64 (q : Int) ∧ w.grownBy wr (some g) ∧ Own wr base 3 intv (.slice (some ⟨g, 0, none⟩) l.length cap) L ∧ Hid (L.Perm l ∧ OrdBut k L p q)) (fun j _ => (intOf j).toNat)
        case atStart => exact ⟨p, L, Nat.le_refl _, rfl, HGW.out, HOL.out, Lib.hid ⟨hPL.out.1, ordBut_start hPL.out.2⟩⟩
        case round =>
          clear HGW HOL hPL
          obtain ⟨q, L1, hq2, rfl, hgw, hO, hPL⟩ := hrel
          have HGW := Lib.hid hgw
          have HOL := Lib.hid hO
          have hlen : L1.length = l.length := hPL.out.1.length_eq
          by_cases hq : 0 < q
          · obtain ⟨x, hx⟩ : ∃ y, L1[q]? = some y := ⟨_, List.getElem?_eq_getElem (by omega)⟩
            obtain ⟨y, hy⟩ : ∃ y, L1[q - 1]? = some y := ⟨_, List.getElem?_eq_getElem (by omega)⟩
            have HQ := Lib.hid (fun (d : Nat) (os : Array Obj) => Calls.regrown_of (HC.out x y (Go.Sort.grow (redrawn wr d) os) (hPL.out.1.mem_iff.1 (List.mem_of_getElem? hx)) (hPL.out.1.mem_iff.1 (List.mem_of_getElem? hy)) (only_next hgw (only_below (below_regrown wr d os) none) (.inr (by intro g e; cases e)))))
            have HB := Lib.hid (HCK.out x y (hPL.out.1.mem_iff.1 (List.mem_of_getElem? hx)) (hPL.out.1.mem_iff.1 (List.mem_of_getElem? hy)))
            have y0 := fun d os => cell_regrown (hO.cell hx) d os
            have y1 := fun d os => cell_regrown (hO.cell hy) d os
            have hq0 : decide ((q : Int) > 0) = true := by simp; omega
            have hqs : IntKind.i64.wrap ((q : Int) - 1) = ((q - 1 : Nat) : Int) := by rw [IntWalk.i64_in _ (by omega)]; omega
            have HQS := Lib.hid hqs
            have HX := Lib.hid hx
            have HY := Lib.hid hy
            clear hx hy hgw hO
            generalize c x y = cc at *
            by_cases hcc : cc < 0
            · have HK := Lib.hid (HB.out.1 hcc)
              clear HB
              go_wp2_with fail
              refine wp_region_quiet_below (by kernel_rfl) (by kernel_rfl) ?_
              repeat (go_big_quiet_step ((first
                | (with_reducible exact HQ.out _ _))))
              refine wpQuiet_nil ?_
              intro _ hw'
              obtain ⟨⟨nq, osq⟩, hw''⟩ := hw'
              subst hw''
              have HGW2 := Lib.hid (only_next HGW.out (only_below (below_regrown wr nq osq) none) (.inr (by intro g e; cases e)))
              have HOL2 := Lib.hid (HOL.out.below (below_regrown wr nq osq))
              generalize Go.Sort.grow (redrawn wr nq) osq = W5 at *
              clear HQ y0 y1 HGW HOL
              have z0 := HOL2.out.cell HX.out
              have z1 := HOL2.out.cell HY.out
              have f0 := HOL2.out.free q
              have f1 := HOL2.out.free (q - 1)
              have hl2 : g < W5.heap.size := (HOL2.out.lt g rfl).2
              have HSW := Lib.hid (show ∀ W, Below W5.heap.size W5 W → w.grownBy ((W.setCell ⟨g, q, none⟩ (.int .i64 y)).setCell ⟨g, q - 1, none⟩ (.int .i64 x)) (some g) ∧ Own ((W.setCell ⟨g, q, none⟩ (.int .i64 y)).setCell ⟨g, q - 1, none⟩ (.int .i64 x)) base 3 intv (.slice (some ⟨g, 0, none⟩) l.length cap) (swapL L1 q x y) from fun W hW => ⟨only_trans (only_trans (only_next HGW2.out (only_below hW none) (.inr (by intro g e; cases e))) (only_set W g q _)) (only_set _ g (q - 1) _), ((HOL2.out.below hW).set q y).set (q - 1) x⟩)
              go_wp2_with fail
              go_region
              all_goals
                go_wp2
                go_roundw
                case rel => exact ⟨q - 1, swapL L1 q x y, by omega, rfl, (HSW.out _ (below_drewN' (Below.refl _ _) 1)).1, (HSW.out _ (below_drewN' (Below.refl _ _) 1)).2, Lib.hid ⟨(swap_perm hq HX.out HY.out).trans hPL.out.1, ordBut_swap hq hq2 hPL.out.2 HX.out HY.out HK.out⟩⟩
                case measure => simp [intOf]; omega
            · have HK := Lib.hid (fun h => hcc (HB.out.2 h))
              clear HB
              go_wp2_with fail
              refine wp_region_quiet_below (by kernel_rfl) (by kernel_rfl) ?_
              repeat (go_big_quiet_step ((first
                | (with_reducible exact HQ.out _ _))))
              refine wpQuiet_nil ?_
              intro _ hw'
              obtain ⟨⟨nq, osq⟩, hw''⟩ := hw'
              subst hw''
              have HGW2 := Lib.hid (only_next HGW.out (only_below (below_regrown wr nq osq) none) (.inr (by intro g e; cases e)))
              have HOL2 := Lib.hid (HOL.out.below (below_regrown wr nq osq))
              generalize Go.Sort.grow (redrawn wr nq) osq = W5 at *
              clear HQ y0 y1 HGW HOL
              go_wp2
              go_roundw
              case rel => exact ⟨p + 1, L1, by omega, by omega, by go_num, HGW2.out, HOL2.out, Lib.hid ⟨hPL.out.1, ordBut_end hq hq2 hPL.out.2 HX.out HY.out HK.out⟩⟩
              case measure => simp [intOf]; omega
          · obtain rfl : q = 0 := by omega
            go_wp2_with fail
            refine wp_region_quiet_below (by kernel_rfl) (by kernel_rfl) ?_
            repeat (go_big_quiet_step ((first
              | fail)))
            refine wpQuiet_nil ?_
            intro _ hw'
            obtain ⟨⟨nq, osq⟩, hw''⟩ := hw'
            subst hw''
            have HGW2 := Lib.hid (only_next HGW.out (only_below (below_regrown wr nq osq) none) (.inr (by intro g e; cases e)))
            have HOL2 := Lib.hid (HOL.out.below (below_regrown wr nq osq))
            generalize Go.Sort.grow (redrawn wr nq) osq = W5 at *
            clear HGW HOL
            go_wp2
            go_roundw
            case rel => exact ⟨p + 1, L1, by omega, by omega, by go_num, HGW2.out, HOL2.out, Lib.hid ⟨hPL.out.1, ordBut_end0 hPL.out.2⟩⟩
            case measure => simp [intOf]; omega
      · obtain rfl : p = l.length := by omega
        go_wp2
        go_end0
        exact ⟨rfl, L, hPL.out.1, by rw [hPL.out.1.length_eq]; exact hPL.out.2, hO, hgw⟩
  · skip
    go_enter Tryz.func67, Tryz.ntmps67
    go_wp2_with fail
    go_loopw [8] (fun i wr => i = .int .i64 1 ∧ wr = w) (fun i _ => 0)
    case atStart => exact ⟨rfl, rfl⟩
    case round =>
    obtain ⟨rfl, rfl⟩ := hrel
    go_wp2
    go_end0
    exact ⟨rfl, l, .refl _, fun a b x y h2 h3 => by omega, HO.out, only_refl _ _⟩
set_option maxHeartbeats 1000000 in
theorem stable_any (F : Nat) (caps : Array Value) (c : Int → Int → Int) (k : Int → Int) (v : Value) (l : List Int) (base : Nat) (w : World) (ho : Own w base 3 intv v l) (hl : l.length ≤ 19) (hC : CmpBy F caps c k l w v.ownBlock) :
    Calls Tryz.prog 44 #[v, .int .i64 l.length, .func (.func F) #[] caps] w fun e w' => e = .returned (.tuple #[]) ∧ ∃ l', l'.Perm l ∧ OrdTo k l' l'.length ∧ Own w' base 3 intv v l' ∧ w.grownBy w' v.ownBlock := by
  have HI := Lib.hid (insertion_any F caps c k v l base w ho (by omega) hC)
  clear hC ho
  go_enter Tryz.func44, Tryz.ntmps44
  go_wp2_with fail
  go_loopw [7, 8] (fun a b wr => a = .int .i64 0 ∧ b = .int .i64 20 ∧ wr = w) (fun _ _ _ => 0)
  case atStart => exact ⟨rfl, rfl, rfl⟩
  case round =>
    obtain ⟨rfl, rfl, rfl⟩ := hrel
    go_wp2_with fail
    refine HI.out.mono ?_
    rintro e w9 ⟨rfl, h1⟩
    have H1 := Lib.hid h1
    clear h1 HI
    go_wp2_with fail
    go_loopw [6] (fun b wr => b = .int .i64 20 ∧ wr = w9) (fun _ _ => 0)
    case atStart => exact ⟨rfl, rfl⟩
    case round =>
      obtain ⟨rfl, rfl⟩ := hrel
      go_wp2
      go_end0
      exact ⟨rfl, H1.out⟩
theorem sortStable_any (F : Nat) (caps : Array Value) (c : Int → Int → Int) (k : Int → Int) (v : Value) (l : List Int) (base : Nat) (w : World) (ho : Own w base 3 intv v l) (hl : l.length ≤ 19) (hC : CmpBy F caps c k l w v.ownBlock) :
    Calls Tryz.prog 19 #[v, .func (.func F) #[] caps] w fun e w' => e = .returned (.tuple #[]) ∧ ∃ l', l'.Perm l ∧ OrdTo k l' l'.length ∧ Own w' base 3 intv v l' ∧ w.grownBy w' v.ownBlock := by
  have HI := Lib.hid (stable_any F caps c k v l base w ho hl hC)
  obtain ⟨ao, cap, rfl⟩ := ho.shape
  clear hC ho
  go_enter Tryz.func19, Tryz.ntmps19
  go_wp2_with fail
  refine HI.out.mono ?_
  rintro e w9 ⟨rfl, h1⟩
  have H1 := Lib.hid h1
  clear h1 HI
  go_wp2
  go_end0
  exact ⟨rfl, H1.out⟩
end
end Go.Proofs.YtejcgjdfajppgaaGreatDoor
