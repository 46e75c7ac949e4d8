/-
  lorry.heaviest: the indices of bundles, sorted by mass.
-/
import Derived.Test.YtejcgjdfajppgaaGreatDoorTbv
import Derived.Test.YtejcgjdfajppgaaGreatDoorTso
namespace Go.Proofs.YtejcgjdfajppgaaGreatDoor
section
open Go.RowKit
set_option linter.unusedVariables false
set_option linter.unusedSimpArgs false
attribute [local go_sem ↓] Go.wp_at_zero Go.wp_at_succ

def idxs (n : Nat) : List Int := (List.range n).map fun i : Nat => (i : Int)
theorem idxs_len (n : Nat) : (idxs n).length = n := by unfold idxs; simp
theorem idxs_succ (n : Nat) : idxs (n + 1) = idxs n ++ [(n : Int)] := by unfold idxs; rw [List.range_succ, List.map_append]; rfl
theorem idxs_mem {n : Nat} {x : Int} : x ∈ idxs n ↔ ∃ i : Nat, i < n ∧ x = i := by
  unfold idxs
  rw [List.mem_map]
  constructor
  · rintro ⟨i, hi, rfl⟩; exact ⟨i, List.mem_range.1 hi, rfl⟩
  · rintro ⟨i, hi, rfl⟩; exact ⟨i, List.mem_range.2 hi, rfl⟩
theorem idxs_nodup (n : Nat) : (idxs n).Nodup := by
  unfold idxs
  rw [List.nodup_iff_pairwise_ne, List.pairwise_map]
  exact (List.nodup_iff_pairwise_ne.1 List.nodup_range).imp (fun h e => h (by omega))
def massZ (l : List BunD) (i : Int) : Int := match l[i.toNat]? with | some b => b.mass | none => 0
theorem massZ_at {l : List BunD} {i : Nat} {b : BunD} (h : l[i]? = some b) : massZ l (i : Int) = b.mass := by unfold massZ; rw [Int.toNat_natCast, h]
def MassIn (l : List BunD) : Prop := ∀ b ∈ l, 0 ≤ b.mass ∧ b.mass ≤ 1099511627776
theorem massZ_in {l : List BunD} (h : MassIn l) (i : Int) : 0 ≤ massZ l i ∧ massZ l i ≤ 1099511627776 := by
  unfold massZ
  cases hb : l[i.toNat]? with
  | none => simp
  | some b => exact h b (List.mem_of_getElem? hb)
set_option maxHeartbeats 1000000 in
theorem hcmp_any (B : Nat) (v : Value) (l : List BunD) (x y : Int) (w : World) (hp : Buns w v l) (hl : l.length ≤ 1000) (hm : MassIn l) (hB : w.cell? ⟨B, 0, none⟩ = some v) (hx : x ∈ idxs l.length) (hy : y ∈ idxs l.length) :
    Calls Tryz.prog 62 #[.int .i64 x, .int .i64 y, .pointer (some ⟨B, 0, none⟩)] w fun e w' => e = .returned (.int .i64 (massZ l y - massZ l x)) ∧ Below w.heap.size w w' := by
  obtain ⟨ao, cap, rfl⟩ := hp.at_
  obtain ⟨i, hi, rfl⟩ := idxs_mem.1 hx
  obtain ⟨j, hj, rfl⟩ := idxs_mem.1 hy
  clear hx hy
  obtain ⟨a, ha⟩ : ∃ y, l[i]? = some y := ⟨_, List.getElem?_eq_getElem hi⟩
  obtain ⟨b, hb⟩ : ∃ y, l[j]? = some y := ⟨_, List.getElem?_eq_getElem hj⟩
  rw [massZ_at ha, massZ_at hb]
  obtain ⟨g, off, rfl, hg, c0, c1, c2, c3⟩ := buns_get hp ha
  obtain ⟨g', off', hgo, hg', d0, d1, d2, d3⟩ := buns_get hp hb
  cases hgo
  have m1 := hm a (List.mem_of_getElem? ha)
  have m2 := hm b (List.mem_of_getElem? hb)
  have hw : IntKind.i64.wrap (b.mass - a.mass) = b.mass - a.mass := IntWalk.i64_in _ (by omega)
  clear hp ha hb c0 c1 c2 d0 d1 d2
  have y0 := fun d os => cell_regrown c3 d os
  have y1 := fun d os => cell_regrown d3 d os
  have y2 := fun d os => cell_regrown hB d os
  clear c3 d3 hB
  go_enter Tryz.func62, Tryz.ntmps62
  go_wp2_with fail
  refine wp_region_quiet_below (by kernel_rfl) (by kernel_rfl) ?_
  repeat (go_big_quiet_step ((first
    | fail)))
  refine wpQuiet_nil ?_
  intro _ hw'
  obtain ⟨⟨nq, osq⟩, hw''⟩ := hw'
  subst hw''
  go_wp2
  go_ret
  exact ⟨rfl, below_regrown w nq osq⟩
set_option maxHeartbeats 1000000 in
theorem heaviest_any (v : Value) (l : List BunD) (w : World) (hp : Buns w v l) (hl : l.length ≤ 19) (hm : MassIn l) :
    Calls Tryz.prog 38 #[v] w fun e w' => ∃ v' o, e = .returned v' ∧ Own w' w.heap.size 3 intv v' o ∧ o.Perm (idxs l.length) ∧ Below w.heap.size w w' := by
  obtain ⟨ao, cap, rfl⟩ := hp.at_
  obtain ⟨w0, hw0⟩ : ∃ w0, w.alloc (.cells #[.slice ao l.length cap] 44) = w0 := ⟨_, rfl⟩
  have BX : BlkIs w0 w.heap.size 44 #[.slice ao l.length cap] := by rw [← hw0]; exact BlkIs.new _ _ _
  have hB0 : Below w.heap.size w w0 := by rw [← hw0]; exact below_new _ _
  have HBX := Lib.hid BX
  have HB0 := Lib.hid hB0
  have HP := Lib.hid (hp.below hB0)
  have c0 := BX.cell 0
  have l0 := BX.lt
  clear hp BX hB0
  go_enter Tryz.func38, Tryz.ntmps38
  go_wp2_with fail
  (try rw [hw0])
  clear c0 l0
  go_loopw [3, 7] (fun o i wr => ∃ k : Nat, k ≤ l.length ∧ i = .int .i64 (k : Int) ∧ Below w0.heap.size w0 wr ∧ Own wr w0.heap.size 3 intv o (idxs k)) (fun _ i _ => l.length - (intOf i).toNat)
  case atStart => exact ⟨0, Nat.zero_le _, rfl, Below.refl _ _, Own.nil _ _ _ _⟩
  case round =>
    obtain ⟨k, hk, rfl, hB, hO⟩ := hrel
    have HO := Lib.hid hO
    have HB := Lib.hid hB
    by_cases hk2 : k < l.length
    · have hln : (idxs k).length + 1 ≤ 1099511627776 := by rw [idxs_len]; omega
      have hb0 := hB.size
      have HSN := Lib.hid (idxs_succ k)
      clear hO hB
      go_wp2_with (at_builtin; refine wpList_pushO wr wr.heap.size rfl rfl _ _ 23 rfl 3 8 elemInt w0.heap.size intv _ _ (k : Int) rfl HO.out rfl rfl hln (by omega) hb0 ?_; intro v' w' hown' hg' hat'; have HW9 := Lib.hid hown'; have HB9 := Lib.hid (HB.out.grown hg' hb0 (fun j hj => (HO.out.lt j hj).1)); clear hown' hg' hat')
      go_roundw
      case rel => exact ⟨k + 1, by omega, by go_num, HB9.out, by rw [HSN.out]; exact HW9.out⟩
      case measure => simp [intOf]; omega
    · obtain rfl : k = l.length := by omega
      have HS := Lib.hid (sortStable_any 62 #[.pointer (some ⟨w.heap.size, 0, none⟩)] (fun i k => massZ l k - massZ l i) (fun i => - massZ l i) u3 (idxs l.length) w0.heap.size wr hO (by rw [idxs_len]; exact hl) ⟨fun xs W => by go_simp, fun x y _ _ => by simp only; omega, fun x y W hx hy hg => by
        have hBW : Below w0.heap.size w0 W := below_grown hB hg hB.size (fun g h => (hO.lt g h).1)
        exact hcmp_any w.heap.size (.slice ao l.length cap) l x y W (HP.out.below hBW) (by omega) hm ((hBW.cell (p := ⟨w.heap.size, 0, none⟩) HBX.out.lt).trans (HBX.out.cell 0)) hx hy⟩)
      clear hO hB
      go_wp2_with fail
      refine HS.out.mono ?_
      rintro e w9 ⟨rfl, o, hpm, _, ho, hg⟩
      have HO9 := Lib.hid ho
      have HB9 := Lib.hid (bstep HB0.out (below_grown HB.out hg HB.out.size (fun g h => (HO.out.lt g h).1)))
      clear hg ho HS
      go_wp2
      go_ret
      exact ⟨_, o, rfl, HO9.out.mono HB0.out.size, hpm, HB9.out⟩
end
end Go.Proofs.YtejcgjdfajppgaaGreatDoor
