/-
  machine.ordered, given, Length, Starts.
-/
import Derived.Test.YtejcgjdfajppgaaGreatDoorMru
namespace Go.Proofs.YtejcgjdfajppgaaGreatDoor
section
open Go.RowKit
set_option linter.unusedVariables false
set_option linter.unusedSimpArgs false
attribute [local go_sem ↓] Go.wp_at_zero Go.wp_at_succ

theorem perm_of_sub : ∀ {l D : List Nat}, l.Nodup → D.Nodup → (∀ x ∈ l, x ∈ D) → D.length ≤ l.length → l.Perm D
  | [], D, _, _, _, hl => by
    have : D = [] := List.length_eq_zero_iff.1 (by simpa using hl)
    rw [this]
  | a :: l, D, hn, hd, hs, hl => by
    have ha := hs a List.mem_cons_self
    have hp := List.perm_cons_erase ha
    have hn2 := List.nodup_cons.1 hn
    refine List.Perm.trans (List.Perm.cons a (perm_of_sub (D := D.erase a) hn2.2 (hd.erase a) (fun x hx => ?_) ?_)) hp.symm
    · exact (List.mem_erase_of_ne (fun e => hn2.1 (by rw [← e]; exact hx))).2 (hs x (List.mem_cons_of_mem _ hx))
    · rw [List.length_erase_of_mem ha]
      simp at hl
      omega
theorem perm_range {o : List Nat} {n : Nat} (hn : o.Nodup) (hb : ∀ x ∈ o, x < n) (hl : o.length = n) : o.Perm (List.range n) :=
  perm_of_sub hn List.nodup_range (fun x hx => List.mem_range.2 (hb x hx)) (by simp; omega)
/-- A list of numbers has each index once. -/
def OrdOk (n : Nat) (Z : List Int) : Prop := ∃ o : List Nat, Z = ntI o ∧ o.Perm (List.range n)
theorem ntI_get {o : List Nat} {j : Nat} {z : Int} (h : (ntI o)[j]? = some z) : ∃ i, o[j]? = some i ∧ z = (i : Int) := by
  unfold ntI at h
  rw [List.getElem?_map] at h
  cases ho : o[j]? with
  | none => rw [ho] at h; cases h
  | some i => rw [ho] at h; cases h; exact ⟨i, rfl, rfl⟩
theorem ntI_nodup {o : List Nat} (h : o.Nodup) : (ntI o).Nodup := by
  unfold ntI
  rw [List.nodup_iff_pairwise_ne, List.pairwise_map]
  rw [List.nodup_iff_pairwise_ne] at h
  exact h.imp (fun hab => by omega)
theorem ord_len {n : Nat} {Z : List Int} (h : OrdOk n Z) : Z.length = n := by
  obtain ⟨o, rfl, hp⟩ := h
  rw [ntI_len, hp.length_eq, List.length_range]
theorem ord_rng {n j : Nat} {Z : List Int} {z : Int} (h : OrdOk n Z) (hz : Z[j]? = some z) : 0 ≤ z ∧ z < n := by
  obtain ⟨o, rfl, hp⟩ := h
  obtain ⟨i, hi, rfl⟩ := ntI_get hz
  have := List.mem_range.1 (hp.mem_iff.1 (List.mem_of_getElem? hi))
  omega
theorem ord_new {n j : Nat} {Z : List Int} {z : Int} (h : OrdOk n Z) (hz : Z[j]? = some z) : ¬ z ∈ Z.take j := by
  obtain ⟨o, rfl, hp⟩ := h
  have hnd := ntI_nodup (hp.nodup_iff.2 List.nodup_range)
  intro hm
  obtain ⟨q, hq, e⟩ := List.mem_take_iff_getElem.1 hm
  obtain ⟨hj1, hj2⟩ := List.getElem?_eq_some_iff.1 hz
  rw [List.nodup_iff_pairwise_ne] at hnd
  exact List.pairwise_iff_getElem.1 hnd q j (by omega) hj1 (by omega) (e.trans hj2.symm)
theorem ord_yes {n : Nat} {Z : List Int} (hl : Z.length = n) (h : ∀ (j : Nat) z, j < n → Z[j]? = some z → 0 ≤ z ∧ z < n ∧ ¬ z ∈ Z.take j) : OrdOk n Z := by
  have hz : ∀ z ∈ Z, 0 ≤ z ∧ z < n := fun z hm => by
    obtain ⟨j, hj, rfl⟩ := List.getElem_of_mem hm
    have := h j _ (by omega) (List.getElem?_eq_getElem hj)
    exact ⟨this.1, this.2.1⟩
  have he : Z = ntI (Z.map Int.toNat) := by
    unfold ntI
    rw [List.map_map]
    refine (List.map_id' Z).symm.trans (List.map_congr_left fun z hm => ?_)
    have := hz z hm
    simp only [Function.comp]
    omega
  have hnd : Z.Nodup := by
    rw [List.nodup_iff_pairwise_ne, List.pairwise_iff_getElem]
    intro i j hi hj hij e
    refine (h j _ (by omega) (List.getElem?_eq_getElem hj)).2.2 ?_
    rw [List.mem_take_iff_getElem]
    exact ⟨i, by omega, e⟩
  refine ⟨Z.map Int.toNat, he, perm_range ?_ (fun x hx => ?_) (by rw [List.length_map]; exact hl)⟩
  · rw [List.nodup_iff_pairwise_ne, List.pairwise_map]
    rw [List.nodup_iff_pairwise_ne] at hnd
    exact hnd.imp_of_mem (fun ha hb hab e => by
      have h1 := hz _ ha
      have h2 := hz _ hb
      exact hab (by omega))
  · obtain ⟨z, hm, rfl⟩ := List.mem_map.1 hx
    have := hz z hm
    omega
theorem partI_run (ao : Option Addr) (n cap m : Nat) (h : m ≤ cap) (W : World) :
    (Instr.slice 23 (.slice ao n cap) none (some (.int .i64 (m : Int))) none).run Tryz.prog W = .ok (.slice (if cap = 0 then ao else ao.map (·.add (0 * 1))) (m - 0) (cap - 0)) W := by
  have h1 : (m : Int) ≤ (cap : Int) := by omega
  have h0 : (0 : Int) ≤ (m : Int) := by omega
  go_simp
theorem partI_of {w : World} {ao : Option Addr} {cap : Nat} {T : List Int} (h : Ints w (.slice ao T.length cap) T) (hc : T.length ≤ cap) (m : Nat) (hm : m ≤ T.length) :
    ∃ po pc, (∀ W, (Instr.slice 23 (.slice ao T.length cap) none (some (.int .i64 (m : Int))) none).run Tryz.prog W = .ok (.slice po m pc) W) ∧ Ints w (.slice po m pc) (T.take m) := by
  refine ⟨if cap = 0 then ao else ao.map (·.add (0 * 1)), cap, fun W => partI_run ao T.length cap m (by omega) W, ?_⟩
  obtain ⟨ao', cap', hv, h2⟩ := h
  cases hv
  have e : (T.take m).length = m := by simp; omega
  refine ⟨_, cap, by rw [e], fun hl => ?_⟩
  obtain ⟨b, off, rfl, hlt, hcl⟩ := h2 (by rw [e] at hl; omega)
  have hp : (if cap = 0 then some (⟨b, off, none⟩ : Addr) else (some (⟨b, off, none⟩ : Addr)).map (·.add (0 * 1))) = some ⟨b, off, none⟩ := by
    split
    · rfl
    · simp [Addr.add]
  rw [hp]
  refine ⟨b, off, rfl, hlt, fun k x hx => hcl k x ?_⟩
  rw [List.getElem?_take] at hx
  split at hx
  · exact hx
  · cases hx
/-- An error that is 0 just where a condition holds. -/
def ErIf (p : Prop) (e : Ending) : Prop := ∃ er : Int, e = .returned (.int .i64 er) ∧ (er = 0 ↔ p)
set_option maxHeartbeats 2000000 in
set_option maxRecDepth 100000 in
theorem mordered_any (n : Nat) (zo : Option Addr) (zc : Nat) (Z : List Int) (w : World) (hz : Ints w (.slice zo Z.length zc) Z) (hzc : Z.length ≤ zc) (hn : n ≤ 12) (hzl : Z.length ≤ 30) :
    Calls Tryz.prog 52 #[.int .i64 (n : Int), .slice zo Z.length zc] w fun e w' => ErIf (OrdOk n Z) e ∧ w = w' := by
  have HZ := Lib.hid hz
  clear hz
  by_cases hl : Z.length = n
  · subst hl
    go_enter Tryz.func52, Tryz.ntmps52
    go_wp2_with fail
    go_loopw [13] (fun i wr => ∃ k : Nat, k ≤ Z.length ∧ i = .int .i64 (k : Int) ∧ wr = w ∧ Hid (∀ (j : Nat) z, j < k → Z[j]? = some z → 0 ≤ z ∧ z < (Z.length : Int) ∧ ¬ z ∈ Z.take j)) (fun i _ => Z.length - (intOf i).toNat)
    case atStart => exact ⟨0, Nat.zero_le _, rfl, rfl, Lib.hid (fun j z hj => by omega)⟩
    case round =>
      obtain ⟨k, hk, rfl, rfl, HR⟩ := hrel
      by_cases hk2 : k < Z.length
      · obtain ⟨z, hz⟩ : ∃ z, Z[k]? = some z := ⟨_, List.getElem?_eq_getElem hk2⟩
        have HX := Lib.hid hz
        obtain ⟨b, off, rfl, hbl, d0⟩ := zints_get HZ.out hz
        obtain ⟨po, pc, hsl, hpt⟩ := partI_of HZ.out hzc k hk
        have hCN := contains_any (.slice po k pc) (Z.take k) z wr hpt (by rw [List.length_take]; omega)
        have z0 : (0 : Int) ≤ (k : Int) := Int.natCast_nonneg _
        have z1 : (k : Int) < (Z.length : Int) := by omega
        clear hz hpt
        by_cases h0 : z < 0
        · have HNO := Lib.hid (fun h : OrdOk Z.length Z => (by have := ord_rng h HX.out; omega : False))
          clear hCN
          go_wp2
          go_ret
          exact ⟨⟨2, rfl, ⟨fun h => absurd h (by decide), fun h => (HNO.out h).elim⟩⟩, rfl⟩
        · by_cases h1 : z ≥ (Z.length : Int)
          · have HNO := Lib.hid (fun h : OrdOk Z.length Z => (by have := ord_rng h HX.out; omega : False))
            clear hCN
            go_wp2
            go_ret
            exact ⟨⟨2, rfl, ⟨fun h => absurd h (by decide), fun h => (HNO.out h).elim⟩⟩, rfl⟩
          · obtain ⟨q, hq⟩ : ∃ q, decide (z ∈ Z.take k) = q := ⟨_, rfl⟩
            rw [hq] at hCN
            have HCN := Lib.hid hCN
            have HQ := Lib.hid hq
            clear hCN hq
            cases q
            · go_wp2_with (go_at_call 74; refine HCN.out.mono ?_; rintro e w9 ⟨rfl, rfl⟩)
              go_roundw
              case rel => exact ⟨k + 1, by omega, by go_num, trivial, Lib.hid (fun j y hj hy => by
                by_cases ej : j = k
                · subst ej; rw [HX.out] at hy; cases hy; exact ⟨by omega, by omega, by simpa using HQ.out⟩
                · exact HR.out j y (by omega) hy)⟩
              case measure => simp [intOf]; omega
            · have HNO := Lib.hid (fun h : OrdOk Z.length Z => ord_new h HX.out (by simpa using HQ.out))
              go_wp2_with (go_at_call 74; refine HCN.out.mono ?_; rintro e w9 ⟨rfl, rfl⟩)
              go_ret
              exact ⟨⟨10, rfl, ⟨fun h => absurd h (by decide), fun h => (HNO.out h).elim⟩⟩, rfl⟩
      · obtain rfl : k = Z.length := by omega
        have HY := Lib.hid (ord_yes rfl HR.out)
        go_wp2
        go_ret
        exact ⟨⟨0, rfl, ⟨fun _ => HY.out, fun _ => rfl⟩⟩, rfl⟩
  · have HNO := Lib.hid (fun h : OrdOk n Z => hl (ord_len h))
    have e1 : ¬ (Z.length : Int) = (n : Int) := by omega
    go_enter Tryz.func52, Tryz.ntmps52
    go_wp2
    go_ret
    exact ⟨⟨3, rfl, ⟨fun h => absurd h (by decide), fun h => (HNO.out h).elim⟩⟩, rfl⟩
end
end Go.Proofs.YtejcgjdfajppgaaGreatDoor
