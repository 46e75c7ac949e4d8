/-
  Couplers: named.
-/
import Derived.Test.YtamogedpgkofjaaGreatCpm
namespace Go.Proofs.YtamogedpgkofjaaGreat
section
open Go.RowKit
set_option linter.unusedVariables false
set_option linter.unusedSimpArgs false
attribute [local go_sem ↓] Go.wp_at_zero Go.wp_at_succ

set_option maxHeartbeats 1000000 in
theorem cnamed_any (nv pv : Value) (nodes places : List Nat) (w : World) (hn : Nats w nv nodes) (hp : Nats w pv places) (hl : places.length ≤ 1000) (hi : ∀ i ∈ places, i < nodes.length) :
    Calls Tryz.prog 46 #[nv, pv] w fun e w' => ∃ o, e = .returned o ∧ Hid (Own w' w.heap.size 3 natf o (namN nodes places)) ∧ Below w.heap.size w w' := by
  obtain ⟨no, nc, rfl⟩ := Sl.at_ hn
  obtain ⟨po, pc, rfl⟩ := Sl.at_ hp
  have HN := Lib.hid hn
  have HP := Lib.hid hp
  have HI := Lib.hid hi
  clear hn hp hi
  go_enter Tryz.func46, Tryz.ntmps46
  go_wp2_with fail
  go_loopw [5, 10] (fun o i wr => ∃ k : Nat, k ≤ places.length ∧ i = .int .i64 (k : Int) ∧ Below w.heap.size w wr ∧ Own wr w.heap.size 3 natf o (namN nodes (places.take k))) (fun _ i _ => places.length - (intOf i).toNat)
  case atStart => exact ⟨0, Nat.zero_le _, rfl, Below.refl _ _, Own.nil _ _ _ _⟩
  case round =>
    obtain ⟨k, hk, rfl, hBr, hown⟩ := hrel
    have HB := Lib.hid hBr
    have HO := Lib.hid hown
    clear hBr hown
    by_cases hk2 : k < places.length
    · obtain ⟨i, hi⟩ : ∃ y, places[k]? = some y := ⟨_, List.getElem?_eq_getElem hk2⟩
      have hin := HI.out i (List.mem_of_getElem? hi)
      obtain ⟨x, hx⟩ : ∃ y, nodes[i]? = some y := ⟨_, List.getElem?_eq_getElem hin⟩
      obtain ⟨pb, poff, rfl, hpb, g0⟩ := nats_get (Sl.below HP.out HB.out : Nats wr _ places) hi
      obtain ⟨nb, noff, rfl, hnb, g1⟩ := nats_get (Sl.below HN.out HB.out : Nats wr _ nodes) hx
      have HSN := Lib.hid (namN_snoc (nodes := nodes) hi)
      have hxe : nodes.getD i 0 = x := by rw [List.getD_eq_getElem?_getD, hx]; rfl
      rw [hxe] at HSN
      have i0 : (0 : Int) ≤ (i : Int) := Int.natCast_nonneg _
      have i1 : (i : Int) < (nodes.length : Int) := by omega
      have hnl := namN_len nodes (places.take k)
      rw [List.length_take] at hnl
      have hln : (namN nodes (places.take k)).length + 1 ≤ 1099511627776 := by omega
      have hb0 : w.heap.size ≤ wr.heap.size := HB.out.size
      obtain ⟨oo, oc, hoo⟩ := HO.out.shape
      subst hoo
      generalize hE1 : namN nodes (places.take k) = E1 at *
      clear hi hx hE1 hxe hnl
      go_wp2_with (at_builtin; refine wpList_pushO wr wr.heap.size rfl rfl _ _ 24 rfl 3 8 elemInt w.heap.size natf _ _ x rfl HO.out rfl rfl hln (by omega) hb0 ?_; intro v' w' hown' hg' hat'; have HW9 := Lib.hid hown'; have HB9 := Lib.hid (HB.out.grown hg' hb0 (fun j hj => (HO.out.lt j hj).1)); clear hown' hg' hat')
      go_roundw
      case rel => exact ⟨k + 1, by omega, by go_num, HB9.out, by rw [HSN.out]; exact HW9.out⟩
      case measure => simp [intOf]; omega
    · obtain rfl : places.length = k := by omega
      rw [List.take_length] at HO
      obtain ⟨oo, oc, hoo⟩ := HO.out.shape
      subst hoo
      generalize (namN nodes places).length = nl at *
      go_wp2
      go_ret
      exact ⟨_, rfl, HO.out, HB.out⟩
end
end Go.Proofs.YtamogedpgkofjaaGreat
