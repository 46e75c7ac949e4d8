/-
  The reference's Short, and yardEntries.
-/
import Derived.Test.YtejcgjdfajppgaaDoorTyp
namespace Go.Proofs.YtejcgjdfajppgaaDoor
section
open Go.RowKit
set_option linter.unusedVariables false
set_option linter.unusedSimpArgs false
attribute [local go_sem ↓] Go.wp_at_zero Go.wp_at_succ

def SomeB (e : Ending) : Prop := ∃ b, e = .returned (.bool b)
set_option maxHeartbeats 1000000 in
set_option maxRecDepth 100000 in
theorem rshort_any (v : Value) (l : List BunD) (w : World) (hp : Buns w v l) (hl : l.length ≤ 10) :
    Calls Tryd.prog 5 #[v, .int .i64 10] w fun e w' => SomeB e ∧ Below w.heap.size w w' := by
  obtain ⟨ao, cap, rfl⟩ := hp.at_
  have HP := Lib.hid hp
  clear hp
  have e1 : decide ((l.length : Int) > 10) = false := by simp; omega
  have e2 : decide ((l.length : Int) > 1003) = false := by simp; omega
  go_enter Tryd.func5, Tryd.ntmps5
  go_wp2_with fail
  clear e1 e2
  go_loopw [5] (fun i wr => ∃ k : Nat, k ≤ l.length ∧ i = .int .i64 (k : Int) ∧ Below w.heap.size w wr) (fun i _ => l.length - (intOf i).toNat)
  case atStart => exact ⟨0, Nat.zero_le _, rfl, Below.refl _ _⟩
  case round =>
    obtain ⟨k, hk, rfl, hB⟩ := hrel
    have HB := Lib.hid hB
    by_cases hk2 : k < l.length
    · obtain ⟨x, hx⟩ : ∃ x, l[k]? = some x := ⟨_, List.getElem?_eq_getElem hk2⟩
      obtain ⟨b, off, rfl, hbl, d0, d1, _, _⟩ := buns_get (HP.out.below hB) hx
      have z0 : (0 : Int) ≤ (k : Int) := Int.natCast_nonneg _
      have z1 : (k : Int) < (l.length : Int) := by omega
      have hw : IntKind.i64.wrap ((k : Int) + 1) = ((k + 1 : Nat) : Int) := by rw [IntWalk.i64_in _ (by omega)]; omega
      clear hx hB
      by_cases h1 : (x.tag.size : Int) > 60
      · go_wp2
        go_ret
        exact ⟨⟨_, rfl⟩, HB.out⟩
      · by_cases h2 : (x.mark.size : Int) > 60
        · go_wp2
          go_ret
          exact ⟨⟨_, rfl⟩, HB.out⟩
        · go_wp2
          go_roundw
          case rel => exact ⟨k + 1, by omega, by go_num, HB.out⟩
          case measure => simp [intOf]; omega
    · obtain rfl : k = l.length := by omega
      clear hB
      go_wp2
      go_ret
      exact ⟨⟨_, rfl⟩, HB.out⟩

theorem delK_snoc {l : List BunD} {R : List (List Nat)} {k : Nat} {r : List Nat} (h : R[k]? = some r) : delK l R (k + 1) = delK l R k ++ delR l k r := by
  rw [delK, h]
theorem delR_snoc {l : List BunD} {day j i : Nat} {r : List Nat} {b : BunD} (h : r[j]? = some i) (hb : l[i]? = some b) : delR l day (r.take (j + 1)) = delR l day (r.take j) ++ [⟨day, 1, b.tag⟩] := by
  unfold delR
  rw [List.take_add_one, h, List.map_append]
  simp [tagOf_some hb]
theorem plaK_snoc {l : List BunD} {D k : Nat} {b : BunD} (h : l[k]? = some b) : plaK l D (k + 1) = plaK l D k ++ [⟨D, 2, b.tag⟩] := by
  unfold plaK
  rw [List.take_add_one, h, List.map_append]
  rfl
theorem delK_le {l : List BunD} {R : List (List Nat)} (h : YardOk l R) (k : Nat) (r : List Nat) (hr : R[k]? = some r) (j : Nat) : (delK l R k).length + (delR l k (r.take j)).length ≤ l.length := by
  have h1 := congrArg List.length (delK_name l R k)
  have h2 := congrArg List.length (take_flat R k)
  rw [hr, List.length_append] at h2
  simp only at h2
  rw [List.length_map, List.length_map] at h1
  have h3 : (R.take (k + 1)).flatten.length ≤ R.flatten.length := by
    have := congrArg List.length (congrArg List.flatten (List.take_append_drop (k + 1) R))
    rw [List.flatten_append, List.length_append] at this
    omega
  rw [h.flen] at h3
  unfold delR
  rw [List.length_map, List.length_take]
  omega
theorem row_le {l : List BunD} {R : List (List Nat)} (h : YardOk l R) {k : Nat} {r : List Nat} (hr : R[k]? = some r) : r.length ≤ l.length := by
  have h1 := delK_le h k r hr r.length
  unfold delR at h1
  rw [List.length_map, List.take_length] at h1
  omega
theorem row_in {l : List BunD} {R : List (List Nat)} (h : YardOk l R) {k i : Nat} {r : List Nat} (hr : R[k]? = some r) (hi : i ∈ r) : i < l.length := by
  have := h.perm.mem_iff.1 (List.mem_flatten.2 ⟨r, List.mem_of_getElem? hr, hi⟩)
  simpa using this
def YPost (l : List BunD) (R : List (List Nat)) (w : World) (e : Ending) (w' : World) : Prop := ∃ o, e = .returned o ∧ OwnN w' w.heap.size 35 3 entCells o (entsF l R) ∧ Below w.heap.size w w'
set_option maxHeartbeats 2000000 in
set_option maxRecDepth 100000 in
theorem yardEntries_any (v V : Value) (l : List BunD) (R : List (List Nat)) (vals : List Value) (base : Nat) (w : World) (hp : Buns w v l) (hm : MatVals w base V vals R) (h : YardOk l R) :
    Calls Tryd.prog 8 #[v, V] w (YPost l R w) := by
  obtain ⟨ao, cap, rfl⟩ := hp.at_
  obtain ⟨Vo, Vc, rfl⟩ := hm.2.1.shape
  have hvl : vals.length = R.length := hm.1
  have HP := Lib.hid hp
  have HM := Lib.hid hm
  have HY := Lib.hid h
  have hfew := h.few
  have hrl := h.rl
  clear hp hm h
  have HNR := Lib.hid hvl
  have hvn : vals.length ≤ 10 := by omega
  clear hvl
  go_enter Tryd.func8, Tryd.ntmps8
  go_wp2_with fail
  go_loopw [5, 14] (fun o i wr => ∃ (k : Nat), k ≤ vals.length ∧ i = .int .i64 (k : Int) ∧ Hid (Below w.heap.size w wr ∧ OwnN wr w.heap.size 35 3 entCells o (delK l R k))) (fun _ i _ => vals.length - (intOf i).toNat)
  case atStart => exact ⟨0, Nat.zero_le _, rfl, Lib.hid ⟨Below.refl _ _, OwnN.nil _ _ _ _ _⟩⟩
  case round =>
    obtain ⟨k, hk, rfl, HR⟩ := hrel
    obtain ⟨wo, rfl⟩ : ∃ wo : World, wo = wr := ⟨_, rfl⟩
    by_cases hk2 : k < vals.length
    · obtain ⟨r, hr⟩ : ∃ r, R[k]? = some r := ⟨_, List.getElem?_eq_getElem (by rw [← HNR.out]; exact hk2)⟩
      obtain ⟨rv, hrv⟩ : ∃ r, vals[k]? = some r := ⟨_, List.getElem?_eq_getElem hk2⟩
      have hMo := HM.out.below HR.out.1
      have HRV := Lib.hid (HM.out.2.2.1 k rv r hrv hr)
      obtain ⟨ra, rc, rfl⟩ := HRV.out.shape
      obtain ⟨G, _, hgo, hgl, _, _⟩ := Own.form hMo.2.1 (by omega)
      cases hgo
      have c0 := hMo.2.1.cell hrv
      unfold rowf at c0
      have z0 : (0 : Int) ≤ (k : Int) := Int.natCast_nonneg _
      have z1 : (k : Int) < (vals.length : Int) := by omega
      have hrln := row_le HY.out hr
      have HRR := Lib.hid hr
      clear hMo hr hrv
      go_wp2_with fail
      clear c0
      go_loopw [5, 21] (fun o i wr => ∃ (j : Nat), j ≤ r.length ∧ i = .int .i64 (j : Int) ∧ Hid (Below w.heap.size w wr ∧ OwnN wr w.heap.size 35 3 entCells o (delK l R k ++ delR l k (r.take j)))) (fun _ i _ => r.length - (intOf i).toNat)
      case atStart => exact ⟨0, Nat.zero_le _, rfl, Lib.hid ⟨HR.out.1, by rw [List.take_zero]; unfold delR; rw [List.map_nil, List.append_nil]; exact HR.out.2⟩⟩
      case round =>
        obtain ⟨j, hj, rfl, HI⟩ := hrel
        by_cases hj2 : j < r.length
        · obtain ⟨q, hq⟩ : ∃ q, r[j]? = some q := ⟨_, List.getElem?_eq_getElem (hj2)⟩
          have hql : q < l.length := row_in HY.out HRR.out (List.mem_of_getElem? hq)
          obtain ⟨b, hb⟩ : ∃ b, l[q]? = some b := ⟨_, List.getElem?_eq_getElem hql⟩
          have hRr := HRV.out.below HI.out.1
          obtain ⟨G2, _, hgo, hgl2, _, _⟩ := Own.form hRr (by omega)
          cases hgo
          have c1 := hRr.cell hq
          unfold natf at c1
          obtain ⟨bb, off, rfl, hbl, d0, _, _, _⟩ := buns_get (HP.out.below HI.out.1) hb
          have HS := Lib.hid (delR_snoc (day := k) hq hb)
          have j0 : (0 : Int) ≤ (j : Int) := Int.natCast_nonneg _
          have j1 : (j : Int) < (r.length : Int) := by omega
          have q0 : (0 : Int) ≤ (q : Int) := Int.natCast_nonneg _
          have q1 : (q : Int) < (l.length : Int) := by omega
          have hl2 : (delK l R k ++ delR l k (r.take j)).length + 1 ≤ 1099511627776 := by
            rw [List.length_append]
            have := delK_le HY.out k r HRR.out j
            omega
          have hbs := HI.out.1.size
          have HO := Lib.hid HI.out.2
          clear hRr hq hb
          go_wp2_with (at_builtin; refine wpList_pushN wr rfl _ _ 32 rfl 35 3 32 elemEnt w.heap.size entCells _ _ (⟨k, 1, b.tag⟩ : EntD) _ rfl rfl (ent_one _) HO.out rfl rfl hl2 (by omega) hbs ?_; intro v' w' hown' hg' hat'; have HO9 := Lib.hid hown'; have HB9 := Lib.hid (HI.out.1.grown hg' hbs (fun j hj => (HO.out.lt j hj).1)); clear hown' hg' hat')
          go_roundw
          case rel => exact ⟨j + 1, by omega, by go_num, Lib.hid ⟨HB9.out, by rw [HS.out, ← List.append_assoc]; exact HO9.out⟩⟩
          case measure => simp [intOf]; omega
        · obtain rfl : j = r.length := by omega
          have HS := Lib.hid (delK_snoc (l := l) HRR.out)
          go_wp2
          go_roundw
          case rel => exact ⟨k + 1, by omega, by go_num, Lib.hid ⟨HI.out.1, by rw [HS.out]; have := HI.out.2; rw [List.take_length] at this; exact this⟩⟩
          case measure => simp [intOf]; omega
    · obtain rfl : k = vals.length := by omega
      go_wp2_with fail
      go_loopw [5, 47] (fun o i wr => ∃ (j : Nat), j ≤ l.length ∧ i = .int .i64 (j : Int) ∧ Hid (Below w.heap.size w wr ∧ OwnN wr w.heap.size 35 3 entCells o (delK l R vals.length ++ plaK l vals.length j))) (fun _ i _ => l.length - (intOf i).toNat)
      case atStart => exact ⟨0, Nat.zero_le _, rfl, Lib.hid ⟨HR.out.1, by unfold plaK; rw [List.take_zero, List.map_nil, List.append_nil]; exact HR.out.2⟩⟩
      case round =>
        obtain ⟨j, hj, rfl, HI⟩ := hrel
        by_cases hj2 : j < l.length
        · obtain ⟨b, hb⟩ : ∃ b, l[j]? = some b := ⟨_, List.getElem?_eq_getElem hj2⟩
          obtain ⟨bb, off, rfl, hbl, d0, d1, d2, d3⟩ := buns_get (HP.out.below HI.out.1) hb
          have HS := Lib.hid (plaK_snoc (D := vals.length) hb)
          have j0 : (0 : Int) ≤ (j : Int) := Int.natCast_nonneg _
          have j1 : (j : Int) < (l.length : Int) := by omega
          clear hb
          obtain ⟨w8, hw8⟩ : ∃ w8, wr.alloc (.cells #[.string b.tag, .string b.mark, .int .i64 b.count, .int .i64 b.mass] 40) = w8 := ⟨_, rfl⟩
          have hb8 : Below wr.heap.size wr w8 := by rw [← hw8]; exact below_new _ _
          have HB8 := Lib.hid (bstep HI.out.1 hb8)
          have HO8 := Lib.hid (HI.out.2.below hb8)
          have BX : BlkIs w8 wr.heap.size 40 #[.string b.tag, .string b.mark, .int .i64 b.count, .int .i64 b.mass] := by rw [← hw8]; exact BlkIs.new _ _ _
          have x0 := BX.cell 0
          have lx := BX.lt
          have hbs : w.heap.size ≤ w8.heap.size := HB8.out.size
          have hl2 : (delK l R vals.length ++ plaK l vals.length j).length + 1 ≤ 1099511627776 := by
            have := delK_len HY.out
            rw [← HNR.out] at this
            rw [List.length_append, this]
            unfold plaK
            rw [List.length_map, List.length_take]
            omega
          clear hb8 BX
          go_wp2_with (at_builtin; refine wpList_pushN w8 rfl _ _ 32 rfl 35 3 32 elemEnt w.heap.size entCells _ _ (⟨vals.length, 2, b.tag⟩ : EntD) _ rfl rfl (ent_one _) HO8.out rfl rfl hl2 (by omega) hbs ?_; intro v' w' hown' hg' hat'; have HO9 := Lib.hid hown'; have HB9 := Lib.hid (HB8.out.grown hg' hbs (fun j hj => (HO8.out.lt j hj).1)); clear hown' hg' hat')
          go_roundw
          case rel => exact ⟨j + 1, by omega, by go_num, Lib.hid ⟨HB9.out, by rw [HS.out, ← List.append_assoc]; exact HO9.out⟩⟩
          case measure => simp [intOf]; omega
        · obtain rfl : j = l.length := by omega
          have hbs : w.heap.size ≤ wr.heap.size := HI.out.1.size
          have hl2 : (delK l R vals.length ++ plaK l vals.length l.length).length + 1 ≤ 1099511627776 := by
            have := delK_len HY.out
            rw [← HNR.out] at this
            rw [List.length_append, this, plaK_len]
            omega
          go_wp2_with (at_builtin; refine wpList_pushN wr rfl _ _ 32 rfl 35 3 32 elemEnt w.heap.size entCells _ _ (⟨vals.length, 5, mB⟩ : EntD) _ rfl rfl (ent_one _) HI.out.2 rfl rfl hl2 (by omega) hbs ?_; intro v' w' hown' hg' hat'; have HO9 := Lib.hid hown'; have HB9 := Lib.hid (HI.out.1.grown hg' hbs (fun j hj => (HI.out.2.lt j hj).1)); clear hown' hg' hat')
          go_ret
          exact ⟨_, rfl, by unfold entsF; rw [← HNR.out]; exact HO9.out, HB9.out⟩
end
end Go.Proofs.YtejcgjdfajppgaaDoor
