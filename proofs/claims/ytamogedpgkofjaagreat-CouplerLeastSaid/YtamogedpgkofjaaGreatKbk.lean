/-
  Base texts, shaken by wip/shake.py: BkI BkU BkX BkV BkS BkZ Csi.
-/
import Derived.Test.YtamogedpgkofjaaGreatKbw
import Derived.Test.YtamogedpgkofjaaGreatKsc
import Derived.Test.YtamogedpgkofjaaGreatKrf
import Derived.Test.YtamogedpgkofjaaGreatKmm
import Derived.Test.YtamogedpgkofjaaGreatOpc
namespace Go.Proofs.YtamogedpgkofjaaGreat
section
open Go.RowKit
set_option linter.unusedVariables false
set_option linter.unusedSimpArgs false
attribute [local go_sem ↓] Go.wp_at_zero Go.wp_at_succ
end
section
open Go.RowKit
set_option linter.unusedVariables false
set_option linter.unusedSimpArgs false
attribute [local go_sem ↓] Go.wp_at_zero Go.wp_at_succ

def inR (n : Int) (k : Int) : Bool := decide (0 ≤ k ∧ k < n)
def othE (n i x : Int) (T : List Int) : Int := if (i :: T).all (inR n) then (if axB x = true then (if (i :: T).Nodup then 0 else 10) else 11) else 2
theorem othE_range {n i x : Int} {T : List Int} (h : (i :: T).all (inR n) = false) : othE n i x T = 2 := by
  unfold othE
  rw [h]; rfl
theorem othE_kind {n i x : Int} {T : List Int} (h : (i :: T).all (inR n) = true) (hx : axB x = false) : othE n i x T = 11 := by
  unfold othE
  rw [h, hx]; rfl
theorem othE_twice {n i x : Int} {T : List Int} (h : (i :: T).all (inR n) = true) (hx : axB x = true) (hd : ¬ (i :: T).Nodup) : othE n i x T = 10 := by
  unfold othE
  rw [h, hx, if_neg hd]; rfl
theorem othE_ok {n i x : Int} {T : List Int} (h : (i :: T).all (inR n) = true) (hx : axB x = true) (hd : (i :: T).Nodup) : othE n i x T = 0 := by
  unfold othE
  rw [h, hx, if_pos hd]; rfl
theorem othE_zero {n i x : Int} {T : List Int} (h : othE n i x T = 0) : (0 ≤ i ∧ i < n) ∧ (∀ k ∈ T, 0 ≤ k ∧ k < n) ∧ axB x = true ∧ (i :: T).Nodup := by
  cases h1 : (i :: T).all (inR n)
  · rw [othE_range h1] at h; omega
  · cases hx : axB x
    · rw [othE_kind h1 hx] at h; omega
    · by_cases hd : (i :: T).Nodup
      · rw [List.all_eq_true] at h1
        have k : ∀ y ∈ i :: T, 0 ≤ y ∧ y < n := fun y hy => by
          have := h1 y hy
          unfold inR at this
          rwa [decide_eq_true_eq] at this
        exact ⟨k i List.mem_cons_self, fun y hy => k y (List.mem_cons_of_mem _ hy), rfl, hd⟩
      · rw [othE_twice h1 hx hd] at h; omega
def snB (n : Nat) (A : List Int) : List Bool := (List.range n).map fun j : Nat => decide ((j : Int) ∈ A)
theorem snB_len (n : Nat) (A : List Int) : (snB n A).length = n := by simp [snB]
theorem snB_get {n j : Nat} (A : List Int) (h : j < n) : (snB n A)[j]? = some (decide ((j : Int) ∈ A)) := by
  unfold snB
  rw [List.getElem?_map, List.getElem?_range h]; rfl
theorem snB_nil (n : Nat) : List.replicate n false = snB n [] := by
  apply List.ext_getElem?
  intro j
  by_cases h : j < n
  · rw [snB_get _ h, List.getElem?_replicate, if_pos h]; simp
  · rw [List.getElem?_eq_none (by simp; omega), List.getElem?_eq_none (by rw [snB_len]; omega)]
theorem snB_set {n m : Nat} (A : List Int) (h : m < n) : (snB n A).set m true = snB n (A ++ [(m : Int)]) := by
  apply List.ext_getElem?
  intro j
  by_cases hj : j < n
  · rw [snB_get _ hj]
    by_cases e : m = j
    · subst e
      rw [List.getElem?_set_self (by rw [snB_len]; exact h)]
      simp
    · rw [List.getElem?_set_ne e, snB_get _ hj]
      have : ((j : Int) ∈ A ++ [(m : Int)]) ↔ (j : Int) ∈ A := by
        rw [List.mem_append, List.mem_singleton]
        constructor
        · rintro (h | h)
          · exact h
          · omega
        · exact .inl
      rw [decide_eq_decide.2 this]
  · rw [List.getElem?_eq_none (by rw [List.length_set, snB_len]; omega), List.getElem?_eq_none (by rw [snB_len]; omega)]
theorem nodup_snoc {A : List Int} {m : Int} : decide (¬ (A ++ [m]).Nodup) = (decide (¬ A.Nodup) || decide (m ∈ A)) := by
  rw [Bool.eq_iff_iff]
  simp only [decide_eq_true_eq, Bool.or_eq_true, List.nodup_append, List.nodup_cons, List.not_mem_nil, not_false_eq_true, List.nodup_nil, and_true, true_and, List.mem_singleton]
  constructor
  · intro h
    by_cases h1 : A.Nodup
    · right
      by_cases h2 : m ∈ A
      · exact h2
      · exact absurd ⟨h1, fun a ha b hb e => h2 (by rw [← hb, ← e]; exact ha)⟩ h
    · exact .inl h1
  · rintro (h | h) ⟨h1, h2⟩
    · exact h h1
    · exact h2 m h m rfl rfl
theorem take_snocI {Q : List Int} {k : Nat} {m : Int} (h : Q[k]? = some m) : Q.take (k + 1) = Q.take k ++ [m] := by
  have hk := (List.getElem?_eq_some_iff.1 h).1
  rw [List.take_succ_eq_append_getElem hk, (List.getElem?_eq_some_iff.1 h).2]
theorem all_take_no {n : Int} {Q : List Int} {k : Nat} {m : Int} (h : Q[k]? = some m) (hm : ¬ (0 ≤ m ∧ m < n)) : Q.all (inR n) = false :=
  List.all_eq_false.2 ⟨m, List.mem_of_getElem? h, by unfold inR; simpa using fun h1 h2 => hm ⟨h1, h2⟩⟩

theorem others_bad (v vr : Value) (i x : Int) (tv : Value) (l : List BarD) (rs : List RunD) (w : World) (hp : Bars w v l) (hr : Runs w vr rs) (hl : l.length ≤ 140737488355328) (hlr : rs.length ≤ 140737488355328) (hf : FitB l) (h : laidOk l rs = false) :
    Calls Tryz.prog 62 #[v, vr, .int .i64 i, .int .i64 x, tv] w fun e w' => e = .returned (.tuple #[.slice none 0 0, .int .i64 1]) ∧ Below w.heap.size w w' := by
  have HB := Lib.hid (rods_bad v vr l rs w hp hr hl hlr hf h)
  clear hp hr h
  go_enter Tryz.func62, Tryz.ntmps62
  go_wp2_with fail
  refine HB.out.mono ?_
  rintro e w1 ⟨rfl, hb1⟩
  have HB1 := Lib.hid hb1
  clear hb1
  go_wp2
  go_ret2
  exact ⟨rfl, HB1.out⟩
structure OthW (w1 : World) (g n : Nat) (qv : Value) (Q : List Int) (k : Nat) (wr : World) : Prop where
  below : Below w1.heap.size w1 wr
  seen : Own wr w1.heap.size 4 boolf (.slice (some ⟨g, 0, none⟩) n n) (snB n (Q.take k))
  qs : OwnI wr w1.heap.size qv Q
theorem OthW.after {w1 wr w' : World} {g n k : Nat} {qv : Value} {Q : List Int} (h : OthW w1 g n qv Q k wr) (hb : Below wr.heap.size wr w') : OthW w1 g n qv Q k w' := ⟨bstep h.below hb, h.seen.below hb, h.qs.below hb⟩
theorem OthW.mark {w1 wr : World} {g n k m : Nat} {qv : Value} {Q : List Int} (h : OthW w1 g n qv Q k wr) (hm : m < n) (hq : Q[k]? = some (m : Int)) : OthW w1 g n qv Q (k + 1) (wr.setCell ⟨g, m, none⟩ (.bool true)) := by
  have hg := h.seen.lt g rfl
  refine ⟨h.below.setCell hg.1 _, ?_, h.qs.only (only_set wr g m _) (h.qs.apart h.seen (by decide))⟩
  rw [take_snocI hq, ← snB_set _ hm]
  exact h.seen.set m true
set_option maxRecDepth 100000 in
set_option maxHeartbeats 8000000 in
theorem others_good (v vr : Value) (i x : Int) (tv : Value) (T : List Int) (l : List BarD) (rs : List RunD) (w : World) (hp : Bars w v l) (hr : Runs w vr rs) (ht : Ints w tv T) (hl : l.length ≤ 140737488355328) (hlr : rs.length ≤ 140737488355328) (hlt : T.length ≤ 1000000) (hf : FitB l) (h : laidOk l rs = true) :
    Calls Tryz.prog 62 #[v, vr, .int .i64 i, .int .i64 x, tv] w (PairPost w (lgsOf l rs) (szsOf l rs) (othE (lgsOf l rs).length i x T)) := by
  have HB := Lib.hid (rods_good v vr l rs w hp hr hl hlr hf h)
  have HAX := Lib.hid (fun W => isAxis_any x W)
  have HT := Lib.hid ht
  have hsm := (lzOk_of h).small
  generalize lgsOf l rs = L at *
  generalize szsOf l rs = Z at *
  clear hp hr h ht
  have hmk := fun W => run_make_one (P := Tryz.prog) 42 4 1 (.bool false) Tryz.underlying42 (by kernel_rfl) (by omega) L.length (by omega) W
  go_enter Tryz.func62, Tryz.ntmps62
  go_wp2_with fail
  refine HB.out.mono ?_
  rintro e w1 ⟨o, rfl, ho, hb1⟩
  obtain ⟨ao, cap, rfl⟩ := ho.at_
  have HB1 := Lib.hid hb1
  have HO := Lib.hid ho
  have HT1 := Lib.hid (Sl.below HT.out hb1)
  have HM0 := Lib.hid (own_made w1 4 boolf false (.bool false) rfl L.length (by omega) w1.heap.size (Nat.le_refl _))
  have HBM := Lib.hid (below_new w1 (.cells (madeCells (Value.bool false).cells L.length) 4))
  have HLI : Hid (OwnI ((w1.alloc (.cells (madeCells (Value.bool false).cells L.length) 4)).alloc (.cells #[.int .i64 i] 3)) w1.heap.size (.slice (some ⟨w1.heap.size + 1, 0, none⟩) 1 1) [i]) := by
    have := World.ownsRow_lit (w1.alloc (.cells (madeCells (Value.bool false).cells L.length) 4)) #[intv i] 1 (e := 3) (size := 1) (base := w1.heap.size) (by simp) (by unfold maxLen; omega) rfl
    rw [World.size_alloc] at this
    exact this
  have HT3 := Lib.hid (Sl.below (Sl.below HT1.out HBM.out) (below_new _ (.cells #[.int .i64 i] 3)))
  have HM3 := Lib.hid (HM0.out.alloc (.cells #[.int .i64 i] 3))
  have hb3 : Below w1.heap.size w1 ((w1.alloc (.cells (madeCells (Value.bool false).cells L.length) 4)).alloc (.cells #[.int .i64 i] 3)) := bstep HBM.out (below_new _ _)
  have HB3 := Lib.hid hb3
  have hl1 : [i].length + T.length ≤ 1099511627776 := by simp; omega
  have hbase : w1.heap.size ≤ ((w1.alloc (.cells (madeCells (Value.bool false).cells L.length) 4)).alloc (.cells #[.int .i64 i] 3)).heap.size := hb3.size
  obtain ⟨Q, hQ⟩ : ∃ Q, [i] ++ T = Q := ⟨_, rfl⟩
  have HQE := Lib.hid hQ
  have HQD : Hid (Q = i :: T) := hQ.symm
  have hql : Q.length ≤ 1000001 := by rw [← hQ]; simp; omega
  clear hb1 ho HB HM0 HBM hb3 HT HT1 hQ
  go_wp2_with (at_builtin; refine wpList_appSl _ rfl _ _ 24 rfl 3 8 elemInt w1.heap.size intv _ _ [i] T (fun _ => rfl) HLI.out HT3.out rfl rfl hl1 (by omega) hbase ?_; intro qv w4 hown4 hg4 hat4; rw [HQE.out] at hown4; obtain ⟨qo, qc, rfl⟩ := hown4.shape; have HQ4 := Lib.hid hown4; have HS4 := Lib.hid (HM3.out.only hg4 (HM3.out.apart HLI.out (by decide))); have HB4 := Lib.hid (HB3.out.grown hg4 hbase (fun j hj => (HLI.out.lt j hj).1)); clear hown4 hg4 hat4)
  have hqz : w1.heap.size ≤ w4.heap.size := by have := HB4.out.size; exact this
  have HW4 : Hid (OthW w1 w1.heap.size L.length (.slice qo Q.length qc) Q 0 w4) := ⟨HB4.out, by rw [List.take_zero, ← snB_nil]; exact HS4.out, HQ4.out⟩
  clear HQ4 HS4 HB4 HT3 HM3 HB3 HLI hmk hl1 hbase
  go_wp2_with fail
  go_loopw [15, 35] (fun tw c wr => ∃ k : Nat, k ≤ Q.length ∧ c = .int .i64 (k : Int) ∧ tw = .bool (decide (¬ (Q.take k).Nodup)) ∧ OthW w1 w1.heap.size L.length (.slice qo Q.length qc) Q k wr ∧ Hid (∀ (j : Nat) y, j < k → Q[j]? = some y → 0 ≤ y ∧ y < (L.length : Int))) (fun _ c _ => Q.length - (intOf c).toNat)
  case atStart => exact ⟨0, Nat.zero_le _, rfl, by simp, HW4.out, fun j y hj _ => by omega⟩
  case round =>
    obtain ⟨k, hk, rfl, rfl, hW, HIN⟩ := hrel
    have HW := Lib.hid hW
    clear hW HW4
    by_cases hk2 : k < Q.length
    · obtain ⟨m, hm⟩ : ∃ y, Q[k]? = some y := ⟨_, List.getElem?_eq_getElem hk2⟩
      obtain ⟨qb, qoff, rfl, hqb, c0⟩ := zints_get HW.out.qs.sl hm
      have HM := Lib.hid hm
      clear hm
      by_cases h1 : m < 0
      · have d1 : decide (m < 0) = true := dec_yes h1
        have HE := Lib.hid (othE_range (x := x) (show (i :: T).all (inR L.length) = false from by rw [← HQD.out]; exact all_take_no HM.out (by omega)))
        go_wp2
        go_ret2
        exact ⟨_, by rw [HE.out]; rfl, fun h => by rw [HE.out] at h; omega, bstep HB1.out HW.out.below⟩
      · have d1 : decide (m < 0) = false := dec_no h1
        by_cases h2 : (L.length : Int) ≤ m
        · have d2 : decide ((L.length : Int) ≤ m) = true := dec_yes h2
          have HE := Lib.hid (othE_range (x := x) (show (i :: T).all (inR L.length) = false from by rw [← HQD.out]; exact all_take_no HM.out (by omega)))
          go_wp2
          go_ret2
          exact ⟨_, by rw [HE.out]; rfl, fun h => by rw [HE.out] at h; omega, bstep HB1.out HW.out.below⟩
        · have d2 : decide ((L.length : Int) ≤ m) = false := dec_no h2
          obtain ⟨m, rfl⟩ : ∃ n : Nat, m = (n : Int) := ⟨m.toNat, by omega⟩
          have hmL : m < L.length := by omega
          have HNX := Lib.hid (HW.out.mark hmL HM.out)
          have c1 := HW.out.seen.cell (snB_get (Q.take k) hmL)
          have f1 := HW.out.seen.free m
          have z1 := (HW.out.seen.lt _ rfl).2
          have m0 : (0 : Int) ≤ (m : Int) := by omega
          have m1 : (m : Int) < (L.length : Int) := by omega
          have HTS := Lib.hid (show decide (¬ (Q.take (k + 1)).Nodup) = (decide (¬ (Q.take k).Nodup) || decide ((m : Int) ∈ Q.take k)) by rw [take_snocI HM.out]; exact nodup_snoc)
          have HIN2 : Hid (∀ (j : Nat) y, j < k + 1 → Q[j]? = some y → 0 ≤ y ∧ y < (L.length : Int)) := fun j y hj hy => by
            by_cases e : j = k
            · subst e
              rw [HM.out] at hy
              cases hy
              exact ⟨m0, m1⟩
            · exact HIN.out j y (by omega) hy
          have HK0 : Hid (k = 0 → decide ((m : Int) ∈ Q.take k) = false) := fun e => by subst e; simp
          generalize decide (¬ (Q.take k).Nodup) = t at *
          generalize decide ((m : Int) ∈ Q.take k) = sm at *
          unfold boolf at c1
          cases t
          · by_cases hk0 : k = 0
            · have hsm := HK0.out hk0
              subst hsm
              have d3 : decide (0 < (k : Int)) = false := dec_no (by omega)
              have hk00 : ¬ (0 : Int) < (k : Int) := by omega
              clear hk0
              go_wp2
              go_roundw
              case rel => exact ⟨k + 1, by omega, by go_num, by rw [HTS.out]; rfl, HNX.out, HIN2.out⟩
              case measure => simp [intOf]; omega
            · have d3 : decide (0 < (k : Int)) = true := dec_yes (by omega)
              have hk00 : (0 : Int) < (k : Int) := by omega
              go_wp2
              go_roundw
              case rel => exact ⟨k + 1, by omega, by go_num, by rw [HTS.out]; rfl, HNX.out, HIN2.out⟩
              case measure => simp [intOf]; omega
          · go_wp2
            go_roundw
            case rel => exact ⟨k + 1, by omega, by go_num, by rw [HTS.out]; rfl, HNX.out, HIN2.out⟩
            case measure => simp [intOf]; omega
    · obtain rfl : k = Q.length := by omega
      have HALL : Hid ((i :: T).all (inR L.length) = true) := by
        rw [← HQD.out]
        exact List.all_eq_true.2 fun y hy => by
          obtain ⟨j, hj, rfl⟩ := List.getElem_of_mem hy
          unfold inR
          exact dec_yes (HIN.out j _ hj (List.getElem?_eq_getElem hj))
      have HNDP : Hid (decide (¬ (Q.take Q.length).Nodup) = decide (¬ (i :: T).Nodup)) := by rw [List.take_length, HQD.out]; rfl
      rw [HNDP.out]
      clear HIN
      obtain ⟨q, hq⟩ : ∃ q, axB x = q := ⟨_, rfl⟩
      have HQX := Lib.hid hq
      rw [hq] at HAX
      clear hq
      go_wp2_with fail
      refine (HAX.out _).mono ?_
      rintro e w6 ⟨rfl, hb6⟩
      have HB6 := Lib.hid (bstep (bstep HB1.out HW.out.below) hb6)
      have HO6 := Lib.hid ((HO.out.below HW.out.below).below hb6)
      clear hb6
      cases q
      · have HE := Lib.hid (othE_kind HALL.out HQX.out)
        go_wp2
        go_ret2
        exact ⟨_, by rw [HE.out]; rfl, fun h => by rw [HE.out] at h; omega, HB6.out⟩
      · by_cases h5 : (i :: T).Nodup
        · have HE := Lib.hid (othE_ok HALL.out HQX.out h5)
          have d5 : decide (¬ (i :: T).Nodup) = false := dec_no (fun h => h h5)
          rw [d5]
          clear d5 h5
          go_wp2
          go_ret2
          exact ⟨_, by rw [HE.out]; rfl, fun _ => HO6.out, HB6.out⟩
        · have HE := Lib.hid (othE_twice HALL.out HQX.out h5)
          have d5 : decide (¬ (i :: T).Nodup) = true := dec_yes h5
          rw [d5]
          clear d5 h5
          go_wp2
          go_ret2
          exact ⟨_, by rw [HE.out]; rfl, fun h => by rw [HE.out] at h; omega, HB6.out⟩
end
section
open Go.RowKit
set_option linter.unusedVariables false
set_option linter.unusedSimpArgs false
attribute [local go_sem ↓] Go.wp_at_zero Go.wp_at_succ

set_option maxRecDepth 100000 in
set_option maxHeartbeats 4000000 in
theorem blocked_any (ov tv : Value) (L : List (List Bx)) (Z : List Int) (T : List Int) (i : Nat) (x : Int) (w : World) (ho : Rods w ov L Z) (ht : Ints w tv T) (hz : LzOk L Z) (hi : i < L.length) (hx : axB x = true) (hT : ∀ k ∈ T, 0 ≤ k ∧ k < (L.length : Int)) (hlt : T.length ≤ 1000000) :
    Calls Tryz.prog 63 #[ov, .int .i64 (i : Int), .int .i64 x, tv] w fun e w' => ∃ o, e = .returned o ∧ Hid (OwnI w' w.heap.size o (blkL L Z x i T)) ∧ Below w.heap.size w w' := by
  obtain ⟨oo, oc, rfl⟩ := ho.at_
  obtain ⟨tpo, tc, rfl⟩ := Sl.at_ ht
  have HO := Lib.hid ho
  have HT := Lib.hid ht
  have HIN := Lib.hid hT
  have HBL := Lib.hid (fun (k : Nat) (hk : k < L.length) u u' W hu hu' => blocks_any u u' (L.getD i []) (L.getD k []) (Z.getD i 0) (Z.getD k 0) x W hu hu' (hz.legs i hi).2.2 (hz.legs k hk).2.2 (by have := hz.legs i hi; omega) (by have := hz.legs k hk; omega) (hz.size i hi) (hz.size k hk) hx)
  have hLs := hz.small
  clear ho ht hT hz
  go_enter Tryz.func63, Tryz.ntmps63
  go_wp2_with fail
  go_loopw [9, 14] (fun o c wr => ∃ k : Nat, k ≤ T.length ∧ c = .int .i64 (k : Int) ∧ Below w.heap.size w wr ∧ OwnI wr w.heap.size o (blkL L Z x i (T.take k))) (fun _ c _ => T.length - (intOf c).toNat)
  case atStart => exact ⟨0, Nat.zero_le _, rfl, Below.refl _ _, Own.nil _ _ _ _⟩
  case round =>
    obtain ⟨k, hk, rfl, hBr, hown⟩ := hrel
    have HB := Lib.hid hBr
    have HW := Lib.hid hown
    clear hBr hown
    by_cases hk2 : k < T.length
    · obtain ⟨m, hm⟩ : ∃ y, T[k]? = some y := ⟨_, List.getElem?_eq_getElem hk2⟩
      obtain ⟨m0, m1⟩ := HIN.out m (List.mem_of_getElem? hm)
      obtain ⟨m, rfl⟩ : ∃ n : Nat, m = (n : Int) := ⟨m.toNat, by omega⟩
      have hmL : m < L.length := by omega
      obtain ⟨tb, toff, rfl, htb, g0⟩ := zints_get (Sl.below HT.out HB.out) hm
      obtain ⟨b, off, cap, u, u', hv, hbl, c0, c1, hu, d0, d1, hu'⟩ := rods_two (HO.out.below HB.out) hi hmL
      cases hv
      have HSN := Lib.hid (blkL_snoc L Z x i hm)
      rw [Int.toNat_natCast] at HSN
      have HBK : Hid (blkAt L Z x i m = blkP (L.getD i []) (L.getD m []) x ((Z.getD i 0 + Z.getD m 0) * (Z.getD i 0 + Z.getD m 0))) := rfl
      have HBM := Lib.hid (HBL.out m hmL)
      have hln : (blkL L Z x i (T.take k)).length + 1 ≤ 1099511627776 := by
        have h1 : (blkL L Z x i (T.take k)).length ≤ (T.take k).length := List.length_filter_le _ _
        rw [List.length_take] at h1
        omega
      have i0 : (0 : Int) ≤ (i : Int) := by omega
      have i1 : (i : Int) < (L.length : Int) := by omega
      have c0 := fun d os => cell_regrown c0 d os
      have c1 := fun d os => cell_regrown c1 d os
      have d0 := fun d os => cell_regrown d0 d os
      have d1 := fun d os => cell_regrown d1 d os
      have HU := Lib.hid hu
      have HU' := Lib.hid hu'
      generalize blkP (L.getD i []) (L.getD m []) x ((Z.getD i 0 + Z.getD m 0) * (Z.getD i 0 + Z.getD m 0)) = q at *
      generalize Z.getD i 0 = zi at *
      generalize Z.getD m 0 = zm at *
      generalize L.getD i [] = Li at *
      generalize L.getD m [] = Lm at *
      rw [HBK.out] at HSN
      clear hm hu hu' hbl htb HBL HBK HIN
      cases q
      · go_wp2_with fail
        refine wp_region_quiet_below (by kernel_rfl) (by kernel_rfl) ?_
        repeat (go_big_quiet_step ((first
          | (go_at_call 38; exact Calls.regrown_of (HBM.out _ _ _ (HU.out.below (below_regrown _ _ _)) (HU'.out.below (below_regrown _ _ _)))))))
        refine wpQuiet_nil ?_
        intro _ hw'
        obtain ⟨⟨nq, osq⟩, hw''⟩ := hw'
        subst hw''
        have HB2 := Lib.hid (bstep HB.out (below_regrown wr nq osq))
        have HW2 := Lib.hid (HW.out.below (below_regrown wr nq osq))
        clear c0 c1 d0 d1 HBM
        generalize Go.Sort.grow (redrawn wr nq) osq = W2 at *
        go_wp2
        go_roundw
        case rel => exact ⟨k + 1, by omega, by go_num, HB2.out, by rw [HSN.out]; simpa using HW2.out⟩
        case measure => simp [intOf]; omega
      · go_wp2_with fail
        refine wp_region_quiet_below (by kernel_rfl) (by kernel_rfl) ?_
        repeat (go_big_quiet_step ((first
          | (go_at_call 38; exact Calls.regrown_of (HBM.out _ _ _ (HU.out.below (below_regrown _ _ _)) (HU'.out.below (below_regrown _ _ _)))))))
        refine wpQuiet_nil ?_
        intro _ hw'
        obtain ⟨⟨nq, osq⟩, hw''⟩ := hw'
        subst hw''
        have HB2 := Lib.hid (bstep HB.out (below_regrown wr nq osq))
        have HW2 := Lib.hid (HW.out.below (below_regrown wr nq osq))
        clear c0 c1 d0 d1 HBM
        generalize Go.Sort.grow (redrawn wr nq) osq = W2 at *
        have hbase : w.heap.size ≤ W2.heap.size := HB2.out.size
        go_wp2_with (at_builtin; refine wpList_pushO W2 W2.heap.size rfl rfl _ _ 24 rfl 3 8 elemInt w.heap.size intv _ _ (m : Int) rfl HW2.out rfl rfl hln (by omega) hbase ?_; intro v' w' hown' hg' hat'; have HW9 := Lib.hid hown'; have HB9 := Lib.hid (HB2.out.grown hg' hbase (fun j hj => (HW2.out.lt j hj).1)); clear hown' hg' hat')
        go_roundw
        case rel => exact ⟨k + 1, by omega, by go_num, HB9.out, by rw [HSN.out]; exact HW9.out⟩
        case measure => simp [intOf]; omega
    · obtain rfl : k = T.length := by omega
      rw [List.take_length] at HW
      go_wp2
      go_ret
      exact ⟨_, rfl, HW.out, HB.out⟩

def BlkdPost (w : World) (c : Int) (R : List Int) (e : Ending) (w' : World) : Prop := ∃ o, e = .returned (.tuple #[o, .int .i64 c]) ∧ (c = 0 → OwnI w' w.heap.size o R) ∧ (c ≠ 0 → o = .slice none 0 0) ∧ Below w.heap.size w w'
theorem blockedI_bad (v vr : Value) (i x : Int) (tv : Value) (l : List BarD) (rs : List RunD) (w : World) (hp : Bars w v l) (hr : Runs w vr rs) (hl : l.length ≤ 140737488355328) (hlr : rs.length ≤ 140737488355328) (hf : FitB l) (h : laidOk l rs = false) :
    Calls Tryz.prog 31 #[v, vr, .int .i64 i, .int .i64 x, tv] w (BlkdPost w 1 []) := by
  have HB := Lib.hid (others_bad v vr i x tv l rs w hp hr hl hlr hf h)
  clear hp hr h
  go_enter Tryz.func31, Tryz.ntmps31
  go_wp2_with fail
  refine HB.out.mono ?_
  rintro e w1 ⟨rfl, hb1⟩
  have HB1 := Lib.hid hb1
  clear hb1
  go_wp2
  go_ret2
  exact ⟨_, rfl, fun h => by omega, fun _ => rfl, HB1.out⟩
set_option maxHeartbeats 4000000 in
theorem blockedI_good (v vr : Value) (i x : Int) (tv : Value) (T : List Int) (l : List BarD) (rs : List RunD) (w : World) (hp : Bars w v l) (hr : Runs w vr rs) (ht : Ints w tv T) (hl : l.length ≤ 140737488355328) (hlr : rs.length ≤ 140737488355328) (hlt : T.length ≤ 1000000) (hf : FitB l) (h : laidOk l rs = true) :
    Calls Tryz.prog 31 #[v, vr, .int .i64 i, .int .i64 x, tv] w (BlkdPost w (othE (lgsOf l rs).length i x T) (blkL (lgsOf l rs) (szsOf l rs) x i.toNat T)) := by
  have HB := Lib.hid (others_good v vr i x tv T l rs w hp hr ht hl hlr hlt hf h)
  have HLZ := Lib.hid (lzOk_of h)
  have HT := Lib.hid ht
  generalize lgsOf l rs = L at *
  generalize szsOf l rs = Z at *
  clear hp hr h hf ht
  by_cases hc : othE L.length i x T = 0
  · obtain ⟨⟨i0, i1⟩, hT, hx, hnd⟩ := othE_zero hc
    obtain ⟨i, rfl⟩ : ∃ n : Nat, i = (n : Int) := ⟨i.toNat, by omega⟩
    have HBK := Lib.hid (fun ov W (h1 : Rods W ov L Z) (h2 : Ints W tv T) => blocked_any ov tv L Z T i x W h1 h2 HLZ.out (by omega) hx hT hlt)
    rw [hc] at HB ⊢
    rw [Int.toNat_natCast]
    clear hc hT hx hnd HLZ
    go_enter Tryz.func31, Tryz.ntmps31
    go_wp2_with fail
    refine HB.out.mono ?_
    rintro e w1 ⟨o, rfl, ho, hb1⟩
    have HO := Lib.hid (ho rfl)
    have HB1 := Lib.hid hb1
    have HT1 := Lib.hid (Sl.below HT.out hb1)
    clear hb1 ho HB
    go_wp2_with fail
    refine (HBK.out _ _ HO.out HT1.out).mono ?_
    rintro e w2 ⟨o2, rfl, HO2, hb2⟩
    have HB2 := Lib.hid (bstep HB1.out hb2)
    have hz := HB1.out.size
    clear hb2
    go_wp2
    go_ret2
    exact ⟨_, rfl, fun _ => HO2.out.mono hz, fun h => absurd rfl h, HB2.out⟩
  · have hcb : (othE L.length i x T != 0) = true := bne_yes hc
    generalize othE L.length i x T = c at *
    have HC := Lib.hid hc
    clear hc
    go_enter Tryz.func31, Tryz.ntmps31
    go_wp2_with fail
    refine HB.out.mono ?_
    rintro e w1 ⟨o, rfl, ho, hb1⟩
    have HB1 := Lib.hid hb1
    clear hb1 ho HB
    go_wp2
    go_ret2
    exact ⟨_, rfl, fun h => absurd h HC.out, fun _ => rfl, HB1.out⟩

def waysN (L : List (List Bx)) (Z : List Int) (i : Nat) (T : List Int) (k : Nat) : List Int := (axesL.take k).filter fun x => (blkL L Z x i T).isEmpty
theorem waysN_snoc (L : List (List Bx)) (Z : List Int) (i : Nat) (T : List Int) {k : Nat} {x : Int} (h : axesL[k]? = some x) : waysN L Z i T (k + 1) = waysN L Z i T k ++ if (blkL L Z x i T).isEmpty then [x] else [] := by
  have hk := (List.getElem?_eq_some_iff.1 h).1
  unfold waysN
  rw [List.take_succ_eq_append_getElem hk, List.filter_append, (List.getElem?_eq_some_iff.1 h).2]
  congr 1
  cases hb : (blkL L Z x i T).isEmpty <;> simp [hb]
end
section
open Go.RowKit
set_option linter.unusedVariables false
set_option linter.unusedSimpArgs false
attribute [local go_sem ↓] Go.wp_at_zero Go.wp_at_succ

def prCells (p : Int × Int) : List Value := [.int .i64 p.1, .int .i64 p.2]
theorem pr_one (p : Int × Int) : ∀ u ∈ prCells p, u.oneCell' = true := by intro u hu; simp [prCells] at hu; rcases hu with rfl | rfl <;> rfl
theorem elemPr : ElemN Tryz.prog 27 33 2 16 := elemN_of (z := .agg #[.int .i64 0, .int .i64 0]) Tryz.underlying27 (by kernel_rfl) rfl (by omega)
abbrev OwnPr (w : World) (B : Nat) (v : Value) (l : List (Int × Int)) : Prop := OwnN w B 33 2 prCells v l
theorem edgR_len (L : List (List Bx)) (Z : List Int) (x : Int) (i k : Nat) : (edgR L Z x i k).length ≤ k := by
  unfold edgR
  rw [List.length_map]
  refine Nat.le_trans (List.length_filter_le _ _) ?_
  simp
theorem edgL_len (L : List (List Bx)) (Z : List Int) (X : List Int) (n : Nat) : ∀ i, (edgL L Z X n i).length ≤ i * n := by
  intro i
  induction i with
  | zero => simp [edgL]
  | succ i ih =>
    rw [edgL_succ, List.length_append, Nat.succ_mul]
    have := edgR_len L Z (X.getD i 0) i n
    omega
def edgE (n : Nat) (X : List Int) : Int := if 60 < n then 6 else if X.length = n then (if X.any (fun a => !axB a) then 11 else 0) else 3
theorem edgE_limit {n : Nat} {X : List Int} (h : 60 < n) : edgE n X = 6 := if_pos h
theorem edgE_size {n : Nat} {X : List Int} (h : ¬ 60 < n) (h2 : X.length ≠ n) : edgE n X = 3 := (if_neg h).trans (if_neg h2)
theorem edgE_kind {n : Nat} {X : List Int} (h : ¬ 60 < n) (h2 : X.length = n) (h3 : X.any (fun a => !axB a) = true) : edgE n X = 11 := (if_neg h).trans ((if_pos h2).trans (if_pos h3))
theorem edgE_ok {n : Nat} {X : List Int} (h : ¬ 60 < n) (h2 : X.length = n) (h3 : X.any (fun a => !axB a) = false) : edgE n X = 0 := (if_neg h).trans ((if_pos h2).trans (if_neg (by simp [h3])))
theorem edgE_zero {n : Nat} {X : List Int} (h : edgE n X = 0) : n ≤ 60 ∧ X.length = n ∧ ∀ k, k < n → axB (X.getD k 0) = true := by
  by_cases h1 : 60 < n
  · rw [edgE_limit h1] at h; omega
  · by_cases h2 : X.length = n
    · cases h3 : X.any (fun a => !axB a)
      · refine ⟨by omega, h2, fun k hk => ?_⟩
        rw [List.any_eq_false] at h3
        have := h3 (X.getD k 0) (by rw [List.getD_eq_getElem?_getD, List.getElem?_eq_getElem (by omega)]; exact List.getElem_mem (by omega))
        simpa using this
      · rw [edgE_kind h1 h2 h3] at h; omega
    · rw [edgE_size h1 h2] at h; omega

theorem edges1_any (x : Int) (w : World) : Calls Tryz.prog 35 #[.int .i64 x] w fun e w' => e = .returned (.bool (!axB x)) ∧ Below w.heap.size w w' := by
  have H := Lib.hid (fun W => isAxis_any x W)
  generalize axB x = q at *
  go_enter Tryz.func35, Tryz.ntmps35
  go_wp2_with fail
  refine (H.out _).mono ?_
  rintro e w1 ⟨rfl, hb1⟩
  have HB1 := Lib.hid hb1
  clear hb1
  go_wp2
  go_ret
  exact ⟨rfl, HB1.out⟩

def EdgPost (w : World) (c : Int) (E : List (Int × Int)) (e : Ending) (w' : World) : Prop := ∃ o, e = .returned (.tuple #[o, .int .i64 c]) ∧ (c = 0 → OwnPr w' w.heap.size o E) ∧ (c ≠ 0 → o = .slice none 0 0) ∧ Below w.heap.size w w'
theorem edgesI_bad (v vr tv : Value) (l : List BarD) (rs : List RunD) (w : World) (hp : Bars w v l) (hr : Runs w vr rs) (hl : l.length ≤ 140737488355328) (hlr : rs.length ≤ 140737488355328) (hf : FitB l) (h : laidOk l rs = false) :
    Calls Tryz.prog 11 #[v, vr, tv] w (EdgPost w 1 []) := by
  have HB := Lib.hid (count_bad v vr l rs w hp hr hl hlr hf h)
  clear hp hr h
  go_enter Tryz.func11, Tryz.ntmps11
  go_wp2_with fail
  refine HB.out.mono ?_
  rintro e w1 ⟨rfl, hb1⟩
  have HB1 := Lib.hid hb1
  clear hb1
  go_wp2
  go_ret2
  exact ⟨_, rfl, fun h => by omega, fun _ => rfl, HB1.out⟩
set_option maxRecDepth 100000 in
set_option maxHeartbeats 8000000 in
theorem edgesI_good (v vr tv : Value) (X : List Int) (l : List BarD) (rs : List RunD) (w : World) (hp : Bars w v l) (hr : Runs w vr rs) (ht : Ints w tv X) (hl : l.length ≤ 140737488355328) (hlr : rs.length ≤ 140737488355328) (hlt : X.length ≤ 140737488355328) (hf : FitB l) (h : laidOk l rs = true) :
    Calls Tryz.prog 11 #[v, vr, tv] w (EdgPost w (edgE (lgsOf l rs).length X) (edgL (lgsOf l rs) (szsOf l rs) X (lgsOf l rs).length (lgsOf l rs).length)) := by
  have HCO := Lib.hid (count_good v vr l rs w hp hr hl hlr hf h)
  have HRO := Lib.hid (fun W (hW : Below w.heap.size w W) => rods_good v vr l rs W (hp.below hW) (hr.below hW) hl hlr hf h)
  have HLZ := Lib.hid (lzOk_of h)
  have HT := Lib.hid ht
  rw [← lgsOf_len l rs] at HCO
  generalize lgsOf l rs = L at *
  generalize szsOf l rs = Z at *
  obtain ⟨tpo, tc, rfl⟩ := Sl.at_ ht
  have hLs := HLZ.out.small
  clear hp hr h hf ht
  go_enter Tryz.func11, Tryz.ntmps11
  go_wp2_with fail
  refine HCO.out.mono ?_
  rintro e w1 ⟨rfl, hb1⟩
  have HB1 := Lib.hid hb1
  have HT1 := Lib.hid (Sl.below HT.out hb1)
  have HAN := Lib.hid (anyInts_any 35 #[] (fun a => !axB a) _ X w1 HT1.out hlt ⟨fun xs W => by go_simp, fun x W _ _ => edges1_any x W⟩)
  clear hb1 HCO
  by_cases h1 : 60 < L.length
  · have d1 : decide ((60 : Int) < (L.length : Int)) = true := dec_yes (by omega)
    have HE := Lib.hid (edgE_limit (X := X) h1)
    have hh1 : (60 : Int) < (L.length : Int) := by omega
    go_wp2
    go_ret2
    exact ⟨_, by rw [HE.out]; rfl, fun h => by rw [HE.out] at h; omega, fun _ => rfl, HB1.out⟩
  · have d1 : decide ((60 : Int) < (L.length : Int)) = false := dec_no (by omega)
    have hh1 : ¬ (60 : Int) < (L.length : Int) := by omega
    by_cases h2 : X.length = L.length
    · have d2 : ((X.length : Int) != (L.length : Int)) = false := bne_no (by omega)
      obtain ⟨q, hq⟩ : ∃ q, X.any (fun a => !axB a) = q := ⟨_, rfl⟩
      have HQ := Lib.hid hq
      rw [hq] at HAN
      have HX2 := Lib.hid h2
      clear hq h2
      go_wp2_with fail
      refine HAN.out.mono ?_
      rintro e w2 ⟨rfl, hb2⟩
      have HB2 := Lib.hid (bstep HB1.out hb2)
      have HT2 := Lib.hid (Sl.below HT1.out hb2)
      clear hb2 HT1
      cases q
      · have HE := Lib.hid (edgE_ok h1 HX2.out HQ.out)
        have HAXS := Lib.hid (edgE_zero HE.out).2.2
        go_wp2_with fail
        refine (HRO.out _ HB2.out).mono ?_
        rintro e w3 ⟨o, rfl, ho, hb3⟩
        obtain ⟨oo, oc, rfl⟩ := ho.at_
        have HO3 := Lib.hid ho
        have HB3 := Lib.hid (bstep HB2.out hb3)
        have HT3 := Lib.hid (Sl.below HT2.out hb3)
        clear ho hb3 HT2 HRO HB1 HB2
        go_wp2_with fail
        go_loopw [11, 46] (fun o c wr => ∃ i : Nat, i ≤ L.length ∧ c = .int .i64 (i : Int) ∧ Below w3.heap.size w3 wr ∧ OwnPr wr w3.heap.size o (edgL L Z X L.length i)) (fun _ c _ => L.length - (intOf c).toNat)
        case atStart => exact ⟨0, Nat.zero_le _, rfl, Below.refl _ _, OwnN.nil _ _ _ _ _⟩
        case round =>
          obtain ⟨i, hi, rfl, hBr, hown⟩ := hrel
          obtain ⟨wo, rfl⟩ : ∃ wo : World, wo = wr := ⟨_, rfl⟩
          have HBo := Lib.hid hBr
          have HWo := Lib.hid hown
          clear hBr hown
          by_cases hi2 : i < L.length
          · have HES := Lib.hid (edgL_succ L Z X L.length i)
            have HEL := edgL_len L Z X L.length i
            have HE0 : Hid (edgR L Z (X.getD i 0) i 0 = []) := rfl
            have hxa := HAXS.out i hi2
            generalize hx : X.getD i 0 = x at *
            obtain ⟨y, hy⟩ : ∃ y, X[i]? = some y := ⟨_, List.getElem?_eq_getElem (by have := HX2.out; omega)⟩
            obtain rfl : y = x := by rw [List.getD_eq_getElem?_getD, hy] at hx; exact hx
            have HY := Lib.hid hy
            have HBL := Lib.hid (fun (k : Nat) (hk : k < L.length) u u' W hu hu' => blocks_any u u' (L.getD i []) (L.getD k []) (Z.getD i 0) (Z.getD k 0) y W hu hu' (HLZ.out.legs i hi2).2.2 (HLZ.out.legs k hk).2.2 (by have := HLZ.out.legs i hi2; omega) (by have := HLZ.out.legs k hk; omega) (HLZ.out.size i hi2) (HLZ.out.size k hk) hxa)
            generalize edgL L Z X L.length i = E0 at *
            have hE0 : E0.length ≤ 3600 := by
              have : i * L.length ≤ 60 * 60 := Nat.mul_le_mul (by omega) (by omega)
              omega
            clear hx hy hxa HEL
            go_wp2_with fail
            go_loopw [11, 51] (fun o c wr => ∃ k : Nat, k ≤ L.length ∧ c = .int .i64 (k : Int) ∧ Below w3.heap.size w3 wr ∧ OwnPr wr w3.heap.size o (E0 ++ edgR L Z y i k)) (fun _ c _ => L.length - (intOf c).toNat)
            case atStart => exact ⟨0, Nat.zero_le _, rfl, HBo.out, by rw [HE0.out, List.append_nil]; exact HWo.out⟩
            case round =>
              clear HBo HWo HE0
              obtain ⟨k, hk, rfl, hBr, hown⟩ := hrel
              have HB := Lib.hid hBr
              have HW := Lib.hid hown
              clear hBr hown
              by_cases hk2 : k < L.length
              · have HSN := Lib.hid (edgR_succ L Z y i k)
                have hRl := edgR_len L Z y i k
                by_cases hik : i = k
                · have d3 : ((i : Int) != (k : Int)) = false := bne_no (by omega)
                  rw [if_neg (fun h => h.1 hik), List.append_nil] at HSN
                  clear hik
                  go_wp2_with fail
                  refine wp_region_quiet_below (by kernel_rfl) (by kernel_rfl) ?_
                  repeat (go_big_quiet_step ((first
                    | fail)))
                  refine wpQuiet_nil ?_
                  intro _ hw'
                  obtain ⟨⟨nq, osq⟩, hw''⟩ := hw'
                  subst hw''
                  have HB2 := Lib.hid (bstep HB.out (below_regrown wr nq osq))
                  have HW2 := Lib.hid (OwnN.below HW.out (below_regrown wr nq osq))
                  generalize Go.Sort.grow (redrawn wr nq) osq = W2 at *
                  go_wp2
                  go_roundw
                  case rel => exact ⟨k + 1, by omega, by go_num, HB2.out, by rw [HSN.out]; exact HW2.out⟩
                  case measure => simp [intOf]; omega
                · have d3 : ((i : Int) != (k : Int)) = true := bne_yes (by omega)
                  obtain ⟨tb, toff, rfl, htb, g0⟩ := zints_get (Sl.below (Sl.below HT3.out HB.out) (Below.refl _ _)) HY.out
                  obtain ⟨b, off, cap, u, u', hv, hbl, c0, c1, hu, e0, e1, hu'⟩ := rods_two (HO3.out.below HB.out) hi2 hk2
                  cases hv
                  have HBK : Hid (blkAt L Z y i k = blkP (L.getD i []) (L.getD k []) y ((Z.getD i 0 + Z.getD k 0) * (Z.getD i 0 + Z.getD k 0))) := rfl
                  rw [HBK.out] at HSN
                  have HBM := Lib.hid (HBL.out k hk2)
                  have i0 : (0 : Int) ≤ (i : Int) := by omega
                  have i1 : (i : Int) < (L.length : Int) := by omega
                  have i2 : (i : Int) < (X.length : Int) := by have := HX2.out; omega
                  have k0 : (0 : Int) ≤ (k : Int) := by omega
                  have k1 : (k : Int) < (L.length : Int) := by omega
                  have c0 := fun d os => cell_regrown c0 d os
                  have c1 := fun d os => cell_regrown c1 d os
                  have e0 := fun d os => cell_regrown e0 d os
                  have e1 := fun d os => cell_regrown e1 d os
                  have g0 := fun d os => cell_regrown g0 d os
                  have HU := Lib.hid hu
                  have HU' := Lib.hid hu'
                  have HIK := Lib.hid hik
                  generalize blkP (L.getD i []) (L.getD k []) y ((Z.getD i 0 + Z.getD k 0) * (Z.getD i 0 + Z.getD k 0)) = q at *
                  generalize Z.getD i 0 = zi at *
                  generalize Z.getD k 0 = zm at *
                  generalize L.getD i [] = Li at *
                  generalize L.getD k [] = Lm at *
                  clear hu hu' hbl htb HBL HBK hik
                  cases q
                  · rw [if_neg (fun h => by cases h.2), List.append_nil] at HSN
                    go_wp2_with fail
                    refine wp_region_quiet_below (by kernel_rfl) (by kernel_rfl) ?_
                    repeat (go_big_quiet_step ((first
                      | (go_at_call 38; exact Calls.regrown_of (HBM.out _ _ _ (HU.out.below (below_regrown _ _ _)) (HU'.out.below (below_regrown _ _ _)))))))
                    refine wpQuiet_nil ?_
                    intro _ hw'
                    obtain ⟨⟨nq, osq⟩, hw''⟩ := hw'
                    subst hw''
                    have HB2 := Lib.hid (bstep HB.out (below_regrown wr nq osq))
                    have HW2 := Lib.hid (OwnN.below HW.out (below_regrown wr nq osq))
                    clear c0 c1 e0 e1 g0 HBM
                    generalize Go.Sort.grow (redrawn wr nq) osq = W2 at *
                    go_wp2
                    go_roundw
                    case rel => exact ⟨k + 1, by omega, by go_num, HB2.out, by rw [HSN.out]; exact HW2.out⟩
                    case measure => simp [intOf]; omega
                  · rw [if_pos ⟨HIK.out, rfl⟩] at HSN
                    go_wp2_with fail
                    refine wp_region_quiet_below (by kernel_rfl) (by kernel_rfl) ?_
                    repeat (go_big_quiet_step ((first
                      | (go_at_call 38; exact Calls.regrown_of (HBM.out _ _ _ (HU.out.below (below_regrown _ _ _)) (HU'.out.below (below_regrown _ _ _)))))))
                    refine wpQuiet_nil ?_
                    intro _ hw'
                    obtain ⟨⟨nq, osq⟩, hw''⟩ := hw'
                    subst hw''
                    have HB2 := Lib.hid (bstep HB.out (below_regrown wr nq osq))
                    have HW2 := Lib.hid (OwnN.below HW.out (below_regrown wr nq osq))
                    clear c0 c1 e0 e1 g0 HBM
                    generalize Go.Sort.grow (redrawn wr nq) osq = W2 at *
                    have hbase : w3.heap.size ≤ W2.heap.size := HB2.out.size
                    have hln : (E0 ++ edgR L Z y i k).length + 1 ≤ 1099511627776 := by rw [List.length_append]; omega
                    generalize hE1 : E0 ++ edgR L Z y i k = E1 at *
                    have HE1 := Lib.hid hE1
                    clear hE1
                    go_wp2_with (at_builtin; refine wpList_pushAt _ W2.heap.size (by simp) rfl _ _ 27 rfl 33 2 16 elemPr w3.heap.size prCells _ _ ((i : Int), (k : Int)) _ rfl rfl (pr_one _) HW2.out rfl rfl hln (by omega) hbase ?_; intro v' w' hown' hg' hat'; have HW9 := Lib.hid hown'; have HB9 := Lib.hid (HB2.out.grown hg' hbase (fun j hj => (HW2.out.lt j hj).1)); clear hown' hg' hat')
                    go_roundw
                    case rel => exact ⟨k + 1, by omega, by go_num, HB9.out, by rw [HSN.out, ← List.append_assoc, HE1.out]; exact HW9.out⟩
                    case measure => simp [intOf]; omega
              · obtain rfl : k = L.length := by omega
                go_wp2
                go_roundw
                case rel => exact ⟨i + 1, by omega, by go_num, HB.out, by rw [HES.out]; exact HW.out⟩
                case measure => simp [intOf]; omega
          · obtain rfl : i = L.length := by omega
            have hz : w.heap.size ≤ w3.heap.size := HB3.out.size
            go_wp2
            go_ret2
            exact ⟨_, by rw [HE.out]; rfl, fun _ => OwnN.mono HWo.out hz, fun h => absurd HE.out h, bstep HB3.out HBo.out⟩
      · have HE := Lib.hid (edgE_kind h1 HX2.out HQ.out)
        go_wp2
        go_ret2
        exact ⟨_, by rw [HE.out]; rfl, fun h => by rw [HE.out] at h; omega, fun _ => rfl, HB2.out⟩
    · have d2 : ((X.length : Int) != (L.length : Int)) = true := bne_yes (by omega)
      have HE := Lib.hid (edgE_size h1 h2)
      clear h2
      go_wp2
      go_ret2
      exact ⟨_, by rw [HE.out]; rfl, fun h => by rw [HE.out] at h; omega, fun _ => rfl, HB1.out⟩
end
section
open Go.RowKit
set_option linter.unusedVariables false
set_option linter.unusedSimpArgs false
attribute [local go_sem ↓] Go.wp_at_zero Go.wp_at_succ

theorem field_size (b : BarD) (dv : Value) (W : World) : (Instr.field 104 (barv b dv) 1).run Tryz.prog W = .ok (.int .i64 b.size) W := by kernel_rfl
theorem rbarS_any (v vr : Value) (l : List BarD) (rs : List RunD) (n : Nat) (w : World) (hp : Bars w v l) (hr : Runs w vr rs) (hl : l.length ≤ 140737488355328) (h : laidOk l rs = true) (hn : n < cumN rs) :
    Calls Tryz.prog 141 #[v, vr, .int .i64 (n : Int)] w fun e w' => ∃ b dv, e = .returned (barv b dv) ∧ b.size = (szsOf l rs).getD n 0 ∧ Below w.heap.size w w' := by
  obtain ⟨q, b', hF⟩ := laid_fact h hn
  obtain ⟨k, j, r, hk, hj, hij⟩ := cum_place hn
  obtain ⟨b, line, ok, turn, hat, c1, c2, hst, hpts⟩ := laid_place h hk hj
  obtain ⟨t, ht, hb, hbm⟩ := lineOf_some line
  obtain ⟨s1, s2, s3, s4, s5⟩ := laid_sum h
  obtain ⟨ao, cap, rfl⟩ := hp.at_
  obtain ⟨bb, off, rfl, hbl, x0, x1, x2, x3, uo, uc, x4, hdx⟩ := bars_get hp hb
  refine (rbar_any bb off cap vr l rs n k j r b uo uc t w hp hr hl s2 s3 hn (by omega) hk hj hij ht hb x4).mono fun e w' ⟨h1, h2⟩ => ⟨b, _, h1, ?_, h2⟩
  have hm : (laidMarks rs)[n]? = some r.mark := by rw [hij]; exact laidMarks_at hk hj
  have hm2 : b'.mark = r.mark := Option.some.inj (hF.mark.symm.trans hm)
  obtain ⟨t', ht', hb'⟩ := hF.find
  rw [hm2, ht] at ht'
  have : t = t' := by omega
  subst this
  rw [hb] at hb'
  cases hb'
  exact hF.sat.symm
end
section
open Go.RowKit
set_option linter.unusedVariables false
set_option linter.unusedSimpArgs false
attribute [local go_sem ↓] Go.wp_at_zero Go.wp_at_succ

theorem part_run (ao : Option Addr) (n cap m : Nat) (h : m ≤ cap) (W : World) :
    (Instr.slice 24 (.slice ao n cap) none (some (.int .i64 (m : Int))) none).run Tryz.prog W = .ok (.slice (if cap = 0 then ao else ao.map (·.add (0 * 1))) (m - 0) (cap - 0)) W := by
  have h1 : (m : Int) ≤ (cap : Int) := by omega
  have h0 : (0 : Int) ≤ (m : Int) := by omega
  go_simp
/-- A part of a slice of numbers: its first m. -/
theorem part_of {w : World} {ao : Option Addr} {cap : Nat} {T : List Int} (h : Ints w (.slice ao T.length cap) T) (hc : T.length ≤ cap) (m : Nat) (hm : m ≤ T.length) :
    ∃ po pc, (∀ W, (Instr.slice 24 (.slice ao T.length cap) none (some (.int .i64 (m : Int))) none).run Tryz.prog W = .ok (.slice po m pc) W) ∧ Ints w (.slice po m pc) (T.take m) := by
  refine ⟨if cap = 0 then ao else ao.map (·.add (0 * 1)), cap, fun W => part_run ao T.length cap m (by omega) W, ?_⟩
  obtain ⟨ao', cap', hv, h2⟩ := h
  cases hv
  have e : (T.take m).length = m := by simp; omega
  refine ⟨_, cap, by rw [e], fun hl => ?_⟩
  obtain ⟨b, off, rfl, hlt, hcl⟩ := h2 (by rw [e] at hl; omega)
  have hp : (if cap = 0 then some (⟨b, off, none⟩ : Addr) else (some (⟨b, off, none⟩ : Addr)).map (·.add (0 * 1))) = some ⟨b, off, none⟩ := by
    split
    · rfl
    · simp [Addr.add]
  rw [hp]
  refine ⟨b, off, rfl, hlt, fun k x hx => hcl k x ?_⟩
  rw [List.getElem?_take] at hx
  split at hx
  · exact hx
  · cases hx
end
section
section
open Go.RowKit
set_option linter.unusedVariables false
set_option linter.unusedSimpArgs false
attribute [local go_sem ↓] Go.wp_at_zero Go.wp_at_succ

theorem rsmall19_any (v vr : Value) (l : List BarD) (rs : List RunD) (w : World) (hp : Bars w v l) (hr : Runs w vr rs) (hl : l.length ≤ 140737488355328) (hlr : rs.length ≤ 140737488355328) :
    Calls Tryz.prog 33 #[v, vr] w (SmB rs w) := by
  have H := Lib.hid (small6_any v vr l rs w hp hr hl hlr)
  clear hp hr
  go_enter Tryz.func33, Tryz.ntmps33
  go_wp2_with fail
  refine H.out.mono ?_
  rintro e w1 ⟨q, rfl, hb1, hq⟩
  have HB1 := Lib.hid hb1
  have HQ := Lib.hid hq
  clear hb1 hq
  go_wp2
  go_ret
  exact ⟨q, rfl, HB1.out, HQ.out⟩
theorem few_of {rs : List RunD} {l : List BarD} (h : laidOk l rs = true) (hq : (∀ r ∈ rs, 1 ≤ r.count ∧ r.count ≤ 2000) → rs.length ≤ 60 → sumC rs ≤ 14) : (lgsOf l rs).length ≤ 14 := by
  obtain ⟨s1, s2, s3, s4, s5⟩ := laid_sum h
  have := hq (fun r hr => by have := s3 r hr; omega) s2
  rw [lgsOf_len]
  omega
end
end
end Go.Proofs.YtamogedpgkofjaaGreat
