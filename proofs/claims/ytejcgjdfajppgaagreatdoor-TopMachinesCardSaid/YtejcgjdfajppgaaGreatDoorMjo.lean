/-
  machine.Johnson: its comparisons, its lists, its order.
-/
import Derived.Test.YtejcgjdfajppgaaGreatDoorMst
import Derived.Test.YtejcgjdfajppgaaGreatDoorTso
namespace Go.Proofs.YtejcgjdfajppgaaGreatDoor
section
open Go.RowKit
set_option linter.unusedVariables false
set_option linter.unusedSimpArgs false
attribute [local go_sem ↓] Go.wp_at_zero Go.wp_at_succ

def compZ (x y : Int) : Int := if x < y then -1 else if y < x then 1 else 0
theorem compZ_neg (x y : Int) : compZ x y < 0 ↔ x < y := by
  unfold compZ
  split
  · omega
  · split <;> omega
theorem nan_any (x : Int) (w : World) : Calls Tryz.prog 45 #[.int .i64 x] w fun e w' => e = .returned (.bool false) ∧ w = w' := by
  go_enter Tryz.func45, Tryz.ntmps45
  go_wp2
  go_ret
  exact ⟨by first | rfl | simp, rfl⟩
set_option maxRecDepth 100000 in
theorem comp_any (x y : Int) (w : World) : Calls Tryz.prog 21 #[.int .i64 x, .int .i64 y] w fun e w' => e = .returned (.int .i64 (compZ x y)) ∧ w = w' := by
  have H1 := Lib.hid (fun W => nan_any x W)
  have H2 := Lib.hid (fun W => nan_any y W)
  by_cases h1 : x < y
  · have HC := Lib.hid (show compZ x y = -1 from if_pos h1)
    go_enter Tryz.func21, Tryz.ntmps21
    go_wp2_with (first
      | (go_at_call 45; refine (H1.out _).mono ?_; rintro e w9 ⟨rfl, rfl⟩)
      | (go_at_call 45; refine (H2.out _).mono ?_; rintro e w9 ⟨rfl, rfl⟩))
    go_ret
    exact ⟨by rw [HC.out]; rfl, rfl⟩
  · by_cases h2 : y < x
    · have HC := Lib.hid (show compZ x y = 1 from (if_neg h1).trans (if_pos h2))
      have h3 : x > y := h2
      go_enter Tryz.func21, Tryz.ntmps21
      go_wp2_with (first
        | (go_at_call 45; refine (H1.out _).mono ?_; rintro e w9 ⟨rfl, rfl⟩)
        | (go_at_call 45; refine (H2.out _).mono ?_; rintro e w9 ⟨rfl, rfl⟩))
      go_ret
      exact ⟨by rw [HC.out]; rfl, rfl⟩
    · have HC := Lib.hid (show compZ x y = 0 from (if_neg h1).trans (if_neg h2))
      have h3 : ¬ x > y := h2
      go_enter Tryz.func21, Tryz.ntmps21
      go_wp2_with (first
        | (go_at_call 45; refine (H1.out _).mono ?_; rintro e w9 ⟨rfl, rfl⟩)
        | (go_at_call 45; refine (H2.out _).mono ?_; rintro e w9 ⟨rfl, rfl⟩))
      go_ret
      exact ⟨by rw [HC.out]; rfl, rfl⟩
def cutZ (l : List WkD) (x : Int) : Int := cutF l x.toNat
def bendZ (l : List WkD) (x : Int) : Int := bendF l x.toNat
def InR (n : Nat) (x : Int) : Prop := ∃ i : Nat, i < n ∧ x = (i : Int)
theorem jcut_any (B : Nat) (ao : Option Addr) (cap : Nat) (l : List WkD) (x y : Int) (w : World) (hp : Wks w (.slice ao l.length cap) l) (hl : l.length ≤ 12) (hB : w.cell? ⟨B, 0, none⟩ = some (.slice ao l.length cap)) (hx : InR l.length x) (hy : InR l.length y) :
    Calls Tryz.prog 20 #[.int .i64 x, .int .i64 y, .pointer (some ⟨B, 0, none⟩)] w fun e w' => e = .returned (.int .i64 (compZ (cutZ l x) (cutZ l y))) ∧ Below w.heap.size w w' := by
  obtain ⟨i, hi, rfl⟩ := hx
  obtain ⟨j, hj, rfl⟩ := hy
  obtain ⟨a, ha⟩ : ∃ y, l[i]? = some y := ⟨_, List.getElem?_eq_getElem hi⟩
  obtain ⟨b, hb⟩ : ∃ y, l[j]? = some y := ⟨_, List.getElem?_eq_getElem hj⟩
  have ea : cutZ l (i : Int) = a.cut := by unfold cutZ; rw [Int.toNat_natCast]; exact cutF_at ha
  have eb : cutZ l (j : Int) = b.cut := by unfold cutZ; rw [Int.toNat_natCast]; exact cutF_at hb
  rw [ea, eb]
  obtain ⟨g, off, rfl, hg, c0, c1, c2⟩ := wks_get hp ha
  obtain ⟨g', off', hgo, hg', d0, d1, d2⟩ := wks_get hp hb
  cases hgo
  have HC := Lib.hid (fun W => comp_any a.cut b.cut W)
  clear hp ha hb c0 c2 d0 d2 ea eb
  have y0 := fun d os => cell_regrown c1 d os
  have y1 := fun d os => cell_regrown d1 d os
  have y2 := fun d os => cell_regrown hB d os
  clear c1 d1 hB
  generalize compZ a.cut b.cut = cz at *
  go_enter Tryz.func20, Tryz.ntmps20
  go_wp2_with fail
  refine wp_region_quiet_below (by kernel_rfl) (by kernel_rfl) ?_
  repeat (go_big_quiet_step ((first
    | (go_at_call 21; exact regrown_pure (HC.out _)))))
  refine wpQuiet_nil ?_
  intro _ hw'
  obtain ⟨⟨nq, osq⟩, hw''⟩ := hw'
  subst hw''
  go_wp2
  go_ret
  exact ⟨rfl, below_regrown w nq osq⟩
theorem jbend_any (B : Nat) (ao : Option Addr) (cap : Nat) (l : List WkD) (x y : Int) (w : World) (hp : Wks w (.slice ao l.length cap) l) (hl : l.length ≤ 12) (hB : w.cell? ⟨B, 0, none⟩ = some (.slice ao l.length cap)) (hx : InR l.length x) (hy : InR l.length y) :
    Calls Tryz.prog 22 #[.int .i64 x, .int .i64 y, .pointer (some ⟨B, 0, none⟩)] w fun e w' => e = .returned (.int .i64 (compZ (bendZ l y) (bendZ l x))) ∧ Below w.heap.size w w' := by
  obtain ⟨i, hi, rfl⟩ := hx
  obtain ⟨j, hj, rfl⟩ := hy
  obtain ⟨a, ha⟩ : ∃ y, l[i]? = some y := ⟨_, List.getElem?_eq_getElem hi⟩
  obtain ⟨b, hb⟩ : ∃ y, l[j]? = some y := ⟨_, List.getElem?_eq_getElem hj⟩
  have ea : bendZ l (i : Int) = a.bend := by unfold bendZ; rw [Int.toNat_natCast]; exact bendF_at ha
  have eb : bendZ l (j : Int) = b.bend := by unfold bendZ; rw [Int.toNat_natCast]; exact bendF_at hb
  rw [ea, eb]
  obtain ⟨g, off, rfl, hg, c0, c1, c2⟩ := wks_get hp ha
  obtain ⟨g', off', hgo, hg', d0, d1, d2⟩ := wks_get hp hb
  cases hgo
  have HC := Lib.hid (fun W => comp_any b.bend a.bend W)
  clear hp ha hb c0 c1 d0 d1 ea eb
  have y0 := fun d os => cell_regrown c2 d os
  have y1 := fun d os => cell_regrown d2 d os
  have y2 := fun d os => cell_regrown hB d os
  clear c2 d2 hB
  generalize compZ b.bend a.bend = cz at *
  go_enter Tryz.func22, Tryz.ntmps22
  go_wp2_with fail
  refine wp_region_quiet_below (by kernel_rfl) (by kernel_rfl) ?_
  repeat (go_big_quiet_step ((first
    | (go_at_call 21; exact regrown_pure (HC.out _)))))
  refine wpQuiet_nil ?_
  intro _ hw'
  obtain ⟨⟨nq, osq⟩, hw''⟩ := hw'
  subst hw''
  go_wp2
  go_ret
  exact ⟨rfl, below_regrown w nq osq⟩

def isF (l : List WkD) (i : Nat) : Bool := decide (cutF l i ≤ bendF l i)
def fL (l : List WkD) (k : Nat) : List Nat := (List.range k).filter (isF l)
def gL (l : List WkD) (k : Nat) : List Nat := (List.range k).filter fun i => !isF l i
theorem fL_yes {l : List WkD} {k : Nat} (h : isF l k = true) : fL l (k + 1) = fL l k ++ [k] ∧ gL l (k + 1) = gL l k := by
  unfold fL gL
  rw [List.range_succ, List.filter_append, List.filter_append]
  simp [h]
theorem fL_no {l : List WkD} {k : Nat} (h : isF l k = false) : fL l (k + 1) = fL l k ∧ gL l (k + 1) = gL l k ++ [k] := by
  unfold fL gL
  rw [List.range_succ, List.filter_append, List.filter_append]
  simp [h]
theorem fL_mem {l : List WkD} {k i : Nat} : i ∈ fL l k ↔ i < k ∧ isF l i = true := by unfold fL; rw [List.mem_filter, List.mem_range]
theorem gL_mem {l : List WkD} {k i : Nat} : i ∈ gL l k ↔ i < k ∧ isF l i = false := by unfold gL; rw [List.mem_filter, List.mem_range]; simp
theorem fg_perm (l : List WkD) : ∀ k, (fL l k ++ gL l k).Perm (List.range k)
  | 0 => by simp [fL, gL]
  | k + 1 => by
    rw [List.range_succ]
    have ih := fg_perm l k
    cases h : isF l k with
    | true =>
      rw [(fL_yes h).1, (fL_yes h).2, List.append_assoc]
      refine List.Perm.trans (List.Perm.append_left _ List.perm_append_comm) ?_
      rw [← List.append_assoc]
      exact ih.append_right _
    | false =>
      rw [(fL_no h).1, (fL_no h).2, ← List.append_assoc]
      exact ih.append_right _
theorem fL_len (l : List WkD) (k : Nat) : (fL l k).length ≤ k := by unfold fL; exact Nat.le_trans (List.length_filter_le _ _) (by simp)
theorem gL_len (l : List WkD) (k : Nat) : (gL l k).length ≤ k := by unfold gL; exact Nat.le_trans (List.length_filter_le _ _) (by simp)
theorem ntI_append (a b : List Nat) : ntI (a ++ b) = ntI a ++ ntI b := by unfold ntI; rw [List.map_append]
theorem ntI_snoc (a : List Nat) (k : Nat) : ntI (a ++ [k]) = ntI a ++ [(k : Int)] := by rw [ntI_append]; rfl
theorem ntI_perm {Z : List Int} {A : List Nat} (h : Z.Perm (ntI A)) : ∃ o : List Nat, Z = ntI o ∧ o.Perm A := by
  have hz : ∀ z ∈ Z, 0 ≤ z := fun z hm => by
    have := h.mem_iff.1 hm
    unfold ntI at this
    obtain ⟨i, _, rfl⟩ := List.mem_map.1 this
    omega
  refine ⟨Z.map Int.toNat, ?_, ?_⟩
  · unfold ntI
    rw [List.map_map]
    refine (List.map_id' Z).symm.trans (List.map_congr_left fun z hm => ?_)
    have := hz z hm
    simp only [Function.comp]
    omega
  · have h2 := h.map Int.toNat
    unfold ntI at h2
    rw [List.map_map] at h2
    have e : A.map (Int.toNat ∘ fun k : Nat => (k : Int)) = A := by
      refine (List.map_congr_left fun x _ => ?_).trans (List.map_id' A)
      simp
    rw [e] at h2
    exact h2
theorem ord_pairs {k : Int → Int} {o : List Nat} (h : OrdTo k (ntI o) (ntI o).length) : o.Pairwise fun (i j : Nat) => k (i : Int) ≤ k (j : Int) := by
  have := ordTo_pairwise h
  unfold ntI at this
  rw [List.pairwise_map] at this
  exact this
theorem john_pairs {l : List WkD} {F G : List Nat} {n : Nat} (hF : F.Perm (fL l n)) (hG : G.Perm (gL l n)) (sF : OrdTo (cutZ l) (ntI F) (ntI F).length) (sG : OrdTo (fun x => - bendZ l x) (ntI G) (ntI G).length) :
    (F ++ G).Pairwise (JohnR (cutF l) (bendF l)) := by
  have mF : ∀ i ∈ F, cutF l i ≤ bendF l i := fun i hi => by
    have := (fL_mem.1 (hF.mem_iff.1 hi)).2
    unfold isF at this
    exact of_decide_eq_true this
  have mG : ∀ i ∈ G, bendF l i < cutF l i := fun i hi => by
    have := (gL_mem.1 (hG.mem_iff.1 hi)).2
    unfold isF at this
    have := of_decide_eq_false this
    omega
  rw [List.pairwise_append]
  refine ⟨?_, ?_, fun i hi j hj => ?_⟩
  · refine (ord_pairs sF).imp_of_mem fun {i j} hi hj h => ?_
    have h1 := mF i hi
    have h2 := mF j hj
    unfold cutZ at h
    simp only [Int.toNat_natCast] at h
    exact ⟨fun _ => h1, fun _ _ => h, fun h3 => by omega⟩
  · refine (ord_pairs sG).imp_of_mem fun {i j} hi hj h => ?_
    have h1 := mG i hi
    have h2 := mG j hj
    unfold bendZ at h
    simp only [Int.toNat_natCast] at h
    exact ⟨fun h3 => by omega, fun h3 => by omega, fun _ _ => by omega⟩
  · have h1 := mF i hi
    have h2 := mG j hj
    exact ⟨fun h3 => by omega, fun _ h3 => by omega, fun h3 => by omega⟩
/-- Two lists that grow, in blocks of the call's own. -/
structure JW (w0 : World) (u v : Value) (F G : List Int) (wr : World) : Prop where
  bl : Below w0.heap.size w0 wr
  f : Own wr w0.heap.size 3 intv u F
  g : Own wr w0.heap.size 3 intv v G
  ap : ∀ q, u.ownBlock = some q → v.ownBlock ≠ some q
variable {w0 wr w1 : World} {u v u1 v1 : Value} {F G F1 G1 : List Int}
theorem JW.start (w0 : World) : JW w0 (.slice none 0 0) (.slice none 0 0) [] [] w0 := ⟨Below.refl _ _, Own.nil _ _ _ _, Own.nil _ _ _ _, fun q h => by cases h⟩
theorem JW.below (h : JW w0 u v F G wr) (hb : Below wr.heap.size wr w1) : JW w0 u v F G w1 := ⟨bstep h.bl hb, h.f.below hb, h.g.below hb, h.ap⟩
theorem JW.pushF (h : JW w0 u v F G wr) (hown : Own w1 w0.heap.size 3 intv u1 F1) (hg : wr.grownBy w1 u.ownBlock) (hat : u1.ownBlock = u.ownBlock ∨ ∃ g, wr.heap.size ≤ g ∧ u1.ownBlock = some g) : JW w0 u1 v F1 G w1 := by
  refine ⟨below_grown h.bl hg h.bl.size (fun g e => (h.f.lt g e).1), hown, h.g.only hg (fun g e e2 => h.ap g e2.symm e), fun q hq hv => ?_⟩
  rcases hat with e | ⟨g, hgl, e⟩
  · exact h.ap q (e ▸ hq) hv
  · rw [e] at hq
    cases hq
    have := (h.g.lt q hv).2
    omega
theorem JW.pushG (h : JW w0 u v F G wr) (hown : Own w1 w0.heap.size 3 intv v1 G1) (hg : wr.grownBy w1 v.ownBlock) (hat : v1.ownBlock = v.ownBlock ∨ ∃ g, wr.heap.size ≤ g ∧ v1.ownBlock = some g) : JW w0 u v1 F G1 w1 := by
  refine ⟨below_grown h.bl hg h.bl.size (fun g e => (h.g.lt g e).1), h.f.only hg (fun g e e2 => h.ap g e e2.symm), hown, fun q hq hv => ?_⟩
  rcases hat with e | ⟨g, hgl, e⟩
  · exact h.ap q hq (e ▸ hv)
  · rw [e] at hv
    cases hv
    have := (h.f.lt q hq).2
    omega
end
end Go.Proofs.YtejcgjdfajppgaaGreatDoor
