/-
  Bars that are there: block.others, blocked, Blocked, Ways.
-/
import Derived.Test.YtnlloecbjohfdaaGreatBkw
import Derived.Test.YtnlloecbjohfdaaGreatMxw
namespace Go.Proofs.YtnlloecbjohfdaaGreat
open Go.RowKit
set_option linter.unusedVariables false
set_option linter.unusedSimpArgs false
attribute [local go_sem ↓] Go.wp_at_zero Go.wp_at_succ

/-! ### plain -/
def inR (n : Int) (k : Int) : Bool := decide (0 ≤ k ∧ k < n)
def othE (n i x : Int) (T : List Int) : Int := if (i :: T).all (inR n) then (if axB x = true then (if (i :: T).Nodup then 0 else 10) else 11) else 2
theorem othE_range {n i x : Int} {T : List Int} (h : (i :: T).all (inR n) = false) : othE n i x T = 2 := by
  unfold othE
  rw [h]; rfl
theorem othE_kind {n i x : Int} {T : List Int} (h : (i :: T).all (inR n) = true) (hx : axB x = false) : othE n i x T = 11 := by
  unfold othE
  rw [h, hx]; rfl
theorem othE_twice {n i x : Int} {T : List Int} (h : (i :: T).all (inR n) = true) (hx : axB x = true) (hd : ¬ (i :: T).Nodup) : othE n i x T = 10 := by
  unfold othE
  rw [h, hx, if_neg hd]; rfl
theorem othE_ok {n i x : Int} {T : List Int} (h : (i :: T).all (inR n) = true) (hx : axB x = true) (hd : (i :: T).Nodup) : othE n i x T = 0 := by
  unfold othE
  rw [h, hx, if_pos hd]; rfl
theorem othE_zero {n i x : Int} {T : List Int} (h : othE n i x T = 0) : (0 ≤ i ∧ i < n) ∧ (∀ k ∈ T, 0 ≤ k ∧ k < n) ∧ axB x = true ∧ (i :: T).Nodup := by
  cases h1 : (i :: T).all (inR n)
  · rw [othE_range h1] at h; omega
  · cases hx : axB x
    · rw [othE_kind h1 hx] at h; omega
    · by_cases hd : (i :: T).Nodup
      · rw [List.all_eq_true] at h1
        have k : ∀ y ∈ i :: T, 0 ≤ y ∧ y < n := fun y hy => by
          have := h1 y hy
          unfold inR at this
          rwa [decide_eq_true_eq] at this
        exact ⟨k i List.mem_cons_self, fun y hy => k y (List.mem_cons_of_mem _ hy), rfl, hd⟩
      · rw [othE_twice h1 hx hd] at h; omega
def snB (n : Nat) (A : List Int) : List Bool := (List.range n).map fun j : Nat => decide ((j : Int) ∈ A)
theorem snB_len (n : Nat) (A : List Int) : (snB n A).length = n := by simp [snB]
theorem snB_get {n j : Nat} (A : List Int) (h : j < n) : (snB n A)[j]? = some (decide ((j : Int) ∈ A)) := by
  unfold snB
  rw [List.getElem?_map, List.getElem?_range h]; rfl
theorem snB_nil (n : Nat) : List.replicate n false = snB n [] := by
  apply List.ext_getElem?
  intro j
  by_cases h : j < n
  · rw [snB_get _ h, List.getElem?_replicate, if_pos h]; simp
  · rw [List.getElem?_eq_none (by simp; omega), List.getElem?_eq_none (by rw [snB_len]; omega)]
theorem snB_set {n m : Nat} (A : List Int) (h : m < n) : (snB n A).set m true = snB n (A ++ [(m : Int)]) := by
  apply List.ext_getElem?
  intro j
  by_cases hj : j < n
  · rw [snB_get _ hj]
    by_cases e : m = j
    · subst e
      rw [List.getElem?_set_self (by rw [snB_len]; exact h)]
      simp
    · rw [List.getElem?_set_ne e, snB_get _ hj]
      have : ((j : Int) ∈ A ++ [(m : Int)]) ↔ (j : Int) ∈ A := by
        rw [List.mem_append, List.mem_singleton]
        constructor
        · rintro (h | h)
          · exact h
          · omega
        · exact .inl
      rw [decide_eq_decide.2 this]
  · rw [List.getElem?_eq_none (by rw [List.length_set, snB_len]; omega), List.getElem?_eq_none (by rw [snB_len]; omega)]
theorem nodup_snoc {A : List Int} {m : Int} : decide (¬ (A ++ [m]).Nodup) = (decide (¬ A.Nodup) || decide (m ∈ A)) := by
  rw [Bool.eq_iff_iff]
  simp only [decide_eq_true_eq, Bool.or_eq_true, List.nodup_append, List.nodup_cons, List.not_mem_nil, not_false_eq_true, List.nodup_nil, and_true, true_and, List.mem_singleton]
  constructor
  · intro h
    by_cases h1 : A.Nodup
    · right
      by_cases h2 : m ∈ A
      · exact h2
      · exact absurd ⟨h1, fun a ha b hb e => h2 (by rw [← hb, ← e]; exact ha)⟩ h
    · exact .inl h1
  · rintro (h | h) ⟨h1, h2⟩
    · exact h h1
    · exact h2 m h m rfl rfl
theorem take_snocI {Q : List Int} {k : Nat} {m : Int} (h : Q[k]? = some m) : Q.take (k + 1) = Q.take k ++ [m] := by
  have hk := (List.getElem?_eq_some_iff.1 h).1
  rw [List.take_succ_eq_append_getElem hk, (List.getElem?_eq_some_iff.1 h).2]
theorem all_take_no {n : Int} {Q : List Int} {k : Nat} {m : Int} (h : Q[k]? = some m) (hm : ¬ (0 ≤ m ∧ m < n)) : Q.all (inR n) = false :=
  List.all_eq_false.2 ⟨m, List.mem_of_getElem? h, by unfold inR; simpa using fun h1 h2 => hm ⟨h1, h2⟩⟩

/-! ### block.others -/
theorem others_bad (v vr : Value) (i x : Int) (tv : Value) (l : List BarD) (rs : List RunD) (w : World) (hp : Bars w v l) (hr : Runs w vr rs) (hl : l.length ≤ 140737488355328) (hlr : rs.length ≤ 140737488355328) (hf : FitB l) (h : laidOk l rs = false) :
    Calls Tryz.prog 91 #[v, vr, .int .i64 i, .int .i64 x, tv] w fun e w' => e = .returned (.tuple #[.slice none 0 0, .int .i64 1]) ∧ Below w.heap.size w w' := by
  have HB := Lib.hid (rods_bad v vr l rs w hp hr hl hlr hf h)
  clear hp hr h
  go_enter Tryz.func91, Tryz.ntmps91
  go_wp2_with fail
  refine HB.out.mono ?_
  rintro e w1 ⟨rfl, hb1⟩
  have HB1 := Lib.hid hb1
  clear hb1
  go_wp2
  go_ret2
  exact ⟨rfl, HB1.out⟩
structure OthW (w1 : World) (g n : Nat) (qv : Value) (Q : List Int) (k : Nat) (wr : World) : Prop where
  below : Below w1.heap.size w1 wr
  seen : Own wr w1.heap.size 4 boolf (.slice (some ⟨g, 0, none⟩) n n) (snB n (Q.take k))
  qs : OwnI wr w1.heap.size qv Q
theorem OthW.after {w1 wr w' : World} {g n k : Nat} {qv : Value} {Q : List Int} (h : OthW w1 g n qv Q k wr) (hb : Below wr.heap.size wr w') : OthW w1 g n qv Q k w' := ⟨bstep h.below hb, h.seen.below hb, h.qs.below hb⟩
theorem OthW.mark {w1 wr : World} {g n k m : Nat} {qv : Value} {Q : List Int} (h : OthW w1 g n qv Q k wr) (hm : m < n) (hq : Q[k]? = some (m : Int)) : OthW w1 g n qv Q (k + 1) (wr.setCell ⟨g, m, none⟩ (.bool true)) := by
  have hg := h.seen.lt g rfl
  refine ⟨h.below.setCell hg.1 _, ?_, h.qs.only (only_set wr g m _) (h.qs.apart h.seen (by decide))⟩
  rw [take_snocI hq, ← snB_set _ hm]
  exact h.seen.set m true
set_option maxRecDepth 100000 in
set_option maxHeartbeats 8000000 in
theorem others_good (v vr : Value) (i x : Int) (tv : Value) (T : List Int) (l : List BarD) (rs : List RunD) (w : World) (hp : Bars w v l) (hr : Runs w vr rs) (ht : Ints w tv T) (hl : l.length ≤ 140737488355328) (hlr : rs.length ≤ 140737488355328) (hlt : T.length ≤ 1000000) (hf : FitB l) (h : laidOk l rs = true) :
    Calls Tryz.prog 91 #[v, vr, .int .i64 i, .int .i64 x, tv] w (PairPost w (lgsOf l rs) (szsOf l rs) (othE (lgsOf l rs).length i x T)) := by
  have HB := Lib.hid (rods_good v vr l rs w hp hr hl hlr hf h)
  have HAX := Lib.hid (fun W => isAxis_any x W)
  have HT := Lib.hid ht
  have hsm := (lzOk_of h).small
  generalize lgsOf l rs = L at *
  generalize szsOf l rs = Z at *
  clear hp hr h ht
  have hmk := fun W => run_make_one (P := Tryz.prog) 165 4 1 (.bool false) Tryz.underlying165 (by kernel_rfl) (by omega) L.length (by omega) W
  go_enter Tryz.func91, Tryz.ntmps91
  go_wp2_with fail
  refine HB.out.mono ?_
  rintro e w1 ⟨o, rfl, ho, hb1⟩
  obtain ⟨ao, cap, rfl⟩ := ho.at_
  have HB1 := Lib.hid hb1
  have HO := Lib.hid ho
  have HT1 := Lib.hid (Sl.below HT.out hb1)
  have HM0 := Lib.hid (own_made w1 4 boolf false (.bool false) rfl L.length (by omega) w1.heap.size (Nat.le_refl _))
  have HBM := Lib.hid (below_new w1 (.cells (madeCells (Value.bool false).cells L.length) 4))
  have HLI : Hid (OwnI ((w1.alloc (.cells (madeCells (Value.bool false).cells L.length) 4)).alloc (.cells #[.int .i64 i] 3)) w1.heap.size (.slice (some ⟨w1.heap.size + 1, 0, none⟩) 1 1) [i]) := by
    have := World.ownsRow_lit (w1.alloc (.cells (madeCells (Value.bool false).cells L.length) 4)) #[intv i] 1 (e := 3) (size := 1) (base := w1.heap.size) (by simp) (by unfold maxLen; omega) rfl
    rw [World.size_alloc] at this
    exact this
  have HT3 := Lib.hid (Sl.below (Sl.below HT1.out HBM.out) (below_new _ (.cells #[.int .i64 i] 3)))
  have HM3 := Lib.hid (HM0.out.alloc (.cells #[.int .i64 i] 3))
  have hb3 : Below w1.heap.size w1 ((w1.alloc (.cells (madeCells (Value.bool false).cells L.length) 4)).alloc (.cells #[.int .i64 i] 3)) := bstep HBM.out (below_new _ _)
  have HB3 := Lib.hid hb3
  have hl1 : [i].length + T.length ≤ 1099511627776 := by simp; omega
  have hbase : w1.heap.size ≤ ((w1.alloc (.cells (madeCells (Value.bool false).cells L.length) 4)).alloc (.cells #[.int .i64 i] 3)).heap.size := hb3.size
  obtain ⟨Q, hQ⟩ : ∃ Q, [i] ++ T = Q := ⟨_, rfl⟩
  have HQE := Lib.hid hQ
  have HQD : Hid (Q = i :: T) := hQ.symm
  have hql : Q.length ≤ 1000001 := by rw [← hQ]; simp; omega
  clear hb1 ho HB HM0 HBM hb3 HT HT1 hQ
  go_wp2_with (at_builtin; refine wpList_appSl _ rfl _ _ 43 rfl 3 8 elemInt w1.heap.size intv _ _ [i] T (fun _ => rfl) HLI.out HT3.out rfl rfl hl1 (by omega) hbase ?_; intro qv w4 hown4 hg4 hat4; rw [HQE.out] at hown4; obtain ⟨qo, qc, rfl⟩ := hown4.shape; have HQ4 := Lib.hid hown4; have HS4 := Lib.hid (HM3.out.only hg4 (HM3.out.apart HLI.out (by decide))); have HB4 := Lib.hid (HB3.out.grown hg4 hbase (fun j hj => (HLI.out.lt j hj).1)); clear hown4 hg4 hat4)
  have hqz : w1.heap.size ≤ w4.heap.size := by have := HB4.out.size; exact this
  have HW4 : Hid (OthW w1 w1.heap.size L.length (.slice qo Q.length qc) Q 0 w4) := ⟨HB4.out, by rw [List.take_zero, ← snB_nil]; exact HS4.out, HQ4.out⟩
  clear HQ4 HS4 HB4 HT3 HM3 HB3 HLI hmk hl1 hbase
  go_wp2_with fail
  go_loopw [15, 35] (fun tw c wr => ∃ k : Nat, k ≤ Q.length ∧ c = .int .i64 (k : Int) ∧ tw = .bool (decide (¬ (Q.take k).Nodup)) ∧ OthW w1 w1.heap.size L.length (.slice qo Q.length qc) Q k wr ∧ Hid (∀ (j : Nat) y, j < k → Q[j]? = some y → 0 ≤ y ∧ y < (L.length : Int))) (fun _ c _ => Q.length - (intOf c).toNat)
  case atStart => exact ⟨0, Nat.zero_le _, rfl, by simp, HW4.out, fun j y hj _ => by omega⟩
  case round =>
    obtain ⟨k, hk, rfl, rfl, hW, HIN⟩ := hrel
    have HW := Lib.hid hW
    clear hW HW4
    by_cases hk2 : k < Q.length
    · obtain ⟨m, hm⟩ : ∃ y, Q[k]? = some y := ⟨_, List.getElem?_eq_getElem hk2⟩
      obtain ⟨qb, qoff, rfl, hqb, c0⟩ := zints_get HW.out.qs.sl hm
      have HM := Lib.hid hm
      clear hm
      by_cases h1 : m < 0
      · have d1 : decide (m < 0) = true := dec_yes h1
        have HE := Lib.hid (othE_range (x := x) (show (i :: T).all (inR L.length) = false from by rw [← HQD.out]; exact all_take_no HM.out (by omega)))
        go_wp2
        go_ret2
        exact ⟨_, by rw [HE.out]; rfl, fun h => by rw [HE.out] at h; omega, bstep HB1.out HW.out.below⟩
      · have d1 : decide (m < 0) = false := dec_no h1
        by_cases h2 : (L.length : Int) ≤ m
        · have d2 : decide ((L.length : Int) ≤ m) = true := dec_yes h2
          have HE := Lib.hid (othE_range (x := x) (show (i :: T).all (inR L.length) = false from by rw [← HQD.out]; exact all_take_no HM.out (by omega)))
          go_wp2
          go_ret2
          exact ⟨_, by rw [HE.out]; rfl, fun h => by rw [HE.out] at h; omega, bstep HB1.out HW.out.below⟩
        · have d2 : decide ((L.length : Int) ≤ m) = false := dec_no h2
          obtain ⟨m, rfl⟩ : ∃ n : Nat, m = (n : Int) := ⟨m.toNat, by omega⟩
          have hmL : m < L.length := by omega
          have HNX := Lib.hid (HW.out.mark hmL HM.out)
          have c1 := HW.out.seen.cell (snB_get (Q.take k) hmL)
          have f1 := HW.out.seen.free m
          have z1 := (HW.out.seen.lt _ rfl).2
          have m0 : (0 : Int) ≤ (m : Int) := by omega
          have m1 : (m : Int) < (L.length : Int) := by omega
          have HTS := Lib.hid (show decide (¬ (Q.take (k + 1)).Nodup) = (decide (¬ (Q.take k).Nodup) || decide ((m : Int) ∈ Q.take k)) by rw [take_snocI HM.out]; exact nodup_snoc)
          have HIN2 : Hid (∀ (j : Nat) y, j < k + 1 → Q[j]? = some y → 0 ≤ y ∧ y < (L.length : Int)) := fun j y hj hy => by
            by_cases e : j = k
            · subst e
              rw [HM.out] at hy
              cases hy
              exact ⟨m0, m1⟩
            · exact HIN.out j y (by omega) hy
          have HK0 : Hid (k = 0 → decide ((m : Int) ∈ Q.take k) = false) := fun e => by subst e; simp
          generalize decide (¬ (Q.take k).Nodup) = t at *
          generalize decide ((m : Int) ∈ Q.take k) = sm at *
          unfold boolf at c1
          cases t
          · by_cases hk0 : k = 0
            · have hsm := HK0.out hk0
              subst hsm
              have d3 : decide (0 < (k : Int)) = false := dec_no (by omega)
              have hk00 : ¬ (0 : Int) < (k : Int) := by omega
              clear hk0
              go_wp2
              go_roundw
              case rel => exact ⟨k + 1, by omega, by go_num, by rw [HTS.out]; rfl, HNX.out, HIN2.out⟩
              case measure => simp [intOf]; omega
            · have d3 : decide (0 < (k : Int)) = true := dec_yes (by omega)
              have hk00 : (0 : Int) < (k : Int) := by omega
              go_wp2
              go_roundw
              case rel => exact ⟨k + 1, by omega, by go_num, by rw [HTS.out]; rfl, HNX.out, HIN2.out⟩
              case measure => simp [intOf]; omega
          · go_wp2
            go_roundw
            case rel => exact ⟨k + 1, by omega, by go_num, by rw [HTS.out]; rfl, HNX.out, HIN2.out⟩
            case measure => simp [intOf]; omega
    · obtain rfl : k = Q.length := by omega
      have HALL : Hid ((i :: T).all (inR L.length) = true) := by
        rw [← HQD.out]
        exact List.all_eq_true.2 fun y hy => by
          obtain ⟨j, hj, rfl⟩ := List.getElem_of_mem hy
          unfold inR
          exact dec_yes (HIN.out j _ hj (List.getElem?_eq_getElem hj))
      have HNDP : Hid (decide (¬ (Q.take Q.length).Nodup) = decide (¬ (i :: T).Nodup)) := by rw [List.take_length, HQD.out]; rfl
      rw [HNDP.out]
      clear HIN
      obtain ⟨q, hq⟩ : ∃ q, axB x = q := ⟨_, rfl⟩
      have HQX := Lib.hid hq
      rw [hq] at HAX
      clear hq
      go_wp2_with fail
      refine (HAX.out _).mono ?_
      rintro e w6 ⟨rfl, hb6⟩
      have HB6 := Lib.hid (bstep (bstep HB1.out HW.out.below) hb6)
      have HO6 := Lib.hid ((HO.out.below HW.out.below).below hb6)
      clear hb6
      cases q
      · have HE := Lib.hid (othE_kind HALL.out HQX.out)
        go_wp2
        go_ret2
        exact ⟨_, by rw [HE.out]; rfl, fun h => by rw [HE.out] at h; omega, HB6.out⟩
      · by_cases h5 : (i :: T).Nodup
        · have HE := Lib.hid (othE_ok HALL.out HQX.out h5)
          have d5 : decide (¬ (i :: T).Nodup) = false := dec_no (fun h => h h5)
          rw [d5]
          clear d5 h5
          go_wp2
          go_ret2
          exact ⟨_, by rw [HE.out]; rfl, fun _ => HO6.out, HB6.out⟩
        · have HE := Lib.hid (othE_twice HALL.out HQX.out h5)
          have d5 : decide (¬ (i :: T).Nodup) = true := dec_yes h5
          rw [d5]
          clear d5 h5
          go_wp2
          go_ret2
          exact ⟨_, by rw [HE.out]; rfl, fun h => by rw [HE.out] at h; omega, HB6.out⟩
end Go.Proofs.YtnlloecbjohfdaaGreat
