/-
  Graph: Cycle.
-/
import Derived.Test.YtcaeemcobgopmaaGrH
namespace Go.Proofs.Ytcaeemcobgopmaa
open Go.RowKit
set_option linter.unusedVariables false

theorem cycleNo_any (n : Int) (v vl : Value) (l : List (Int × Int)) (w : World) (hp : Pairs w v l) (hl : l.length ≤ 140737488355328) (hv : vld n l = false) :
    Calls Try.prog 29 #[.int .i64 n, v, vl] w fun e w' => e = .returned (.tuple #[.bool false, .int .i64 1]) ∧ Below w.heap.size w w' := by
  have HV := Lib.hid hv
  clear hv
  go_enter Try.func29, Try.ntmps29
  go_wp2_with (first
    | (go_at_call 19; refine (valid_any n _ l _ hp hl).mono ?_; rw [HV.out]; rintro e w9 ⟨rfl, hb1⟩))
  go_ret2
  exact ⟨rfl, hb1⟩

theorem Sl.unmap {α β : Type} {w : World} {f : α → Value} {g : β → Value} {v : Value} {l : List β} (m : β → α) (h : Sl w f v (l.map m)) (hm : ∀ x, f (m x) = g x) : Sl w g v l := by
  obtain ⟨ao, cap, rfl, h⟩ := h
  refine ⟨ao, cap, by simp, fun hl => ?_⟩
  obtain ⟨b, off, rfl, hlt, hc⟩ := h (by simpa using hl)
  refine ⟨b, off, rfl, hlt, fun k x hx => ?_⟩
  rw [hc k (m x) (by rw [List.getElem?_map, hx]; rfl), hm]

def dup (l : List Nat) : Bool := decide (¬ l.Nodup)
def usedM (l : List Nat) : Nat → Option Bool := fun v => if v ∈ l then some true else none
theorem dup_snoc (l : List Nat) (i : Nat) : dup (l ++ [i]) = (dup l || decide (i ∈ l)) := by
  unfold dup
  rw [Bool.eq_iff_iff]
  simp only [decide_eq_true_eq, Bool.or_eq_true, List.nodup_append]
  constructor
  · intro h
    by_cases h1 : l.Nodup
    · by_cases h2 : i ∈ l
      · exact .inr h2
      · exfalso; apply h
        refine ⟨h1, by simp, ?_⟩
        intro a ha b hb
        rw [List.mem_singleton] at hb
        rintro rfl
        exact h2 (hb ▸ ha)
    · exact .inl h1
  · rintro (h | h) ⟨h1, _, h2⟩
    · exact h h1
    · exact h2 i h i (by simp) rfl
theorem usedM_snoc (l : List Nat) (i : Nat) : mput (usedM l) i true = usedM (l ++ [i]) := by
  funext v
  unfold mput usedM
  by_cases e : v = i
  · simp [e]
  · simp [e]
theorem usedM_get (l : List Nat) (i : Nat) : (usedM l i).getD false = decide (i ∈ l) := by
  unfold usedM; split <;> simp_all

def inR (m : Nat) (L : List Int) : Bool := L.all fun i => decide (0 ≤ i) && decide (i < (m : Int))
def cycLs (ns : List (Nat × Nat)) (ls : List Nat) : Bool :=
  if dup ls || decide (ls.length < 2) then false else
    roundF ns (ns.getD (ls.headD 0) (0, 0)).1 ls (fun _ => none) (ns.getD (ls.headD 0) (0, 0)).1 || roundF ns (ns.getD (ls.headD 0) (0, 0)).2 ls (fun _ => none) (ns.getD (ls.headD 0) (0, 0)).2
def cycV (ns : List (Nat × Nat)) (L : List Int) : Bool × Int := if inR ns.length L then (cycLs ns (L.map Int.toNat), 0) else (false, 2)

theorem inR_nat {m : Nat} {L : List Int} (h : inR m L = true) : L = (L.map Int.toNat).map (fun x : Nat => (x : Int)) ∧ ∀ i ∈ L.map Int.toNat, i < m := by
  unfold inR at h
  rw [List.all_eq_true] at h
  simp only [Bool.and_eq_true, decide_eq_true_eq] at h
  refine ⟨?_, fun i hi => ?_⟩
  · rw [List.map_map]
    conv => lhs; rw [← List.map_id L]
    apply List.map_congr_left
    intro a ha
    have := h a ha
    simp; omega
  · obtain ⟨a, ha, rfl⟩ := List.mem_map.1 hi
    have := h a ha
    omega

structure YAt (w : World) (ns : List (Nat × Nat)) (L : List Int) (k B : Nat) (wr : World) : Prop where
  inr : inR ns.length (L.take k) = true
  map_ : ∃ c, c ≤ k ∧ IMap wr 4 (fun x : Bool => .bool x) false B c (usedM ((L.take k).map Int.toNat))
  below : Below w.heap.size w wr
  base : w.heap.size ≤ B

set_option maxRecDepth 100000 in
theorem cycle_ok (n : Nat) (v vl : Value) (ns : List (Nat × Nat)) (L : List Int) (w : World) (hg : Gr w n v ns) (hl : Ints w vl L) (hll : L.length ≤ 1000000) :
    Calls Try.prog 29 #[.int .i64 (n : Int), v, vl] w fun e w' => e = .returned (.tuple #[.bool (cycV ns L).1, .int .i64 (cycV ns L).2]) ∧ Below w.heap.size w w' := by
  have hcl : (cst ns).length ≤ 140737488355328 := by rw [cst_len]; have := hg.m_le; omega
  have HO := Lib.hid hg.ok
  have hn := hg.n_le
  have hm := hg.m_le
  have HG := Lib.hid hg
  have hp := hg.pairs
  have HL := Lib.hid hl
  obtain ⟨lo, lc, rfl, h2⟩ := hl
  have HH2 := Lib.hid h2
  have hmm := @run_makeMap Try.prog
  clear h2
  go_enter Try.func29, Try.ntmps29
  go_wp2_with fail
  refine (valid_any n _ (cst ns) _ hp hcl).mono ?_
  rw [HO.out]
  rintro e w1 ⟨rfl, hb1⟩
  obtain ⟨eao, ecap, rfl, hec⟩ := hp.open_
  have HEC := Lib.hid hec
  clear hec
  go_wp2_with fail
  clear hmm
  have hz1 := hb1.size
  have HY0 : Hid (YAt w ns L 0 w1.heap.size (w1.alloc (.map #[] 0))) := ⟨by simp [inR], ⟨0, Nat.le_refl _, by
    have := IMap.new w1 4 (fun x : Bool => .bool x) false
    have e : usedM ((L.take 0).map Int.toNat) = fun _ => none := by funext k; simp [usedM]
    rw [e]; exact this⟩, hb1.alloc hz1 _, hz1⟩
  obtain ⟨B, hB⟩ : ∃ B, w1.heap.size = B := ⟨_, rfl⟩
  have HB := Lib.hid hB
  rw [hB] at HY0 ⊢
  clear hB
  go_loopw [9, 20] (fun s9 s20 wr => ∃ k : Nat, k ≤ L.length ∧ s20 = .int .i64 ((k : Nat) : Int) ∧ s9 = .bool (dup ((L.take k).map Int.toNat)) ∧ Hid (YAt w ns L k B wr)) (fun _ s20 _ => L.length - (intOf s20).toNat)
  case atStart => exact ⟨0, Nat.zero_le _, rfl, rfl, HY0⟩
  case round =>
    clear HY0
    obtain ⟨k, hk, rfl, rfl, H⟩ := hrel
    by_cases hlt : k < L.length
    · obtain ⟨i, hik⟩ : ∃ i, L[k]? = some i := ⟨_, List.getElem?_eq_getElem hlt⟩
      obtain ⟨lb, loff, rfl, hlb, hlc⟩ := HH2.out (by omega)
      have hci := (H.out.below.cell (p := ⟨lb, loff + k, none⟩) hlb).trans (hlc k i hik)
      have htk : L.take (k + 1) = L.take k ++ [i] := by rw [List.take_succ_eq_append_getElem hlt, (List.getElem?_eq_some_iff.1 hik).2]
      have HTK := Lib.hid htk
      have HIK := Lib.hid (List.mem_of_getElem? hik)
      clear hlc htk hik
      by_cases hbad : i < 0 ∨ (ns.length : Int) ≤ i
      · have HF : Hid (cycV ns L = (false, 2)) := by
          unfold cycV
          rw [if_neg]
          · exact rfl
          · intro h
            unfold inR at h
            rw [List.all_eq_true] at h
            have := h i HIK.out
            simp only [Bool.and_eq_true, decide_eq_true_eq] at this
            omega
        rcases hbad with hb | hb
        · go_wp2
          go_ret2
          exact ⟨by rw [HF.out]; rfl, H.out.below⟩
        · have hi0 : 0 ≤ i := by omega
          go_wp2
          go_ret2
          exact ⟨by rw [HF.out]; rfl, H.out.below⟩
      · have hi0 : 0 ≤ i := by omega
        have hi1 : i < (ns.length : Int) := by omega
        clear hbad
        obtain ⟨j, rfl⟩ : ∃ j : Nat, i = (j : Int) := ⟨i.toNat, by omega⟩
        obtain ⟨c, hc, hmp⟩ := H.out.map_
        obtain ⟨l, hld⟩ : ∃ l, (L.take k).map Int.toNat = l := ⟨_, rfl⟩
        rw [hld] at hmp ⊢
        have hlk := hmp.look mapBool (x := j) (by omega)
        rw [usedM_get] at hlk
        have HMP := Lib.hid hmp
        have HC := Lib.hid hc
        have hbs := H.out.base
        have hsn : (L.take (k + 1)).map Int.toNat = l ++ [j] := by rw [HTK.out, List.map_append, hld]; rfl
        have hdn : dup ((L.take (k + 1)).map Int.toNat) = (dup l || decide (j ∈ l)) := by rw [hsn, dup_snoc]
        have HSN := Lib.hid hsn
        have HDN := Lib.hid hdn
        clear hmp hc hsn hdn hld
        have fin : ∀ w5, IMap w5 4 (fun x : Bool => .bool x) false B (c + 1) (mput (usedM l) j true) → wr.grownBy w5 (some B) → Hid (YAt w ns L (k + 1) B w5) := by
          intro w5 hmp5 hg5
          refine ⟨?_, ⟨c + 1, by have := HC.out; omega, ?_⟩, below_grown H.out.below hg5 H.out.below.size (fun g e => by cases e; exact hbs), hbs⟩
          · have := H.out.inr
            rw [HTK.out]
            unfold inR at this ⊢
            rw [List.all_append, this]
            simp; omega
          · rw [HSN.out, ← usedM_snoc]; exact hmp5
        have FIN := Lib.hid fin
        clear fin
        cases hd : dup l
        · rw [hd, Bool.false_or] at HDN
          have HD := Lib.hid hd
          clear hd
          go_wp2_with (first
            | (at_mapUpdate; refine wpList_put _ rfl _ _ _ _ rfl 4 (fun x : Bool => .bool x) false mapBool B c _ HMP.out (by have := HC.out; omega) j (by omega) true trivial rfl rfl rfl ?_; intro w5 hmp5 hg5))
          have HF := FIN.out w5 hmp5 hg5
          go_roundw
          case rel => exact ⟨k + 1, by omega, by go_num, by rw [HDN.out], HF⟩
          case measure => simp [intOf]; omega
        · rw [hd, Bool.true_or] at HDN
          have HD := Lib.hid hd
          clear hd
          clear hlk
          go_wp2_with (first
            | (at_mapUpdate; refine wpList_put _ rfl _ _ _ _ rfl 4 (fun x : Bool => .bool x) false mapBool B c _ HMP.out (by have := HC.out; omega) j (by omega) true trivial rfl rfl rfl ?_; intro w5 hmp5 hg5))
          have HF := FIN.out w5 hmp5 hg5
          go_roundw
          case rel => exact ⟨k + 1, by omega, by go_num, by rw [HDN.out], HF⟩
          case measure => simp [intOf]; omega
    · have hkl : k = L.length := by omega
      subst hkl
      have hin := H.out.inr
      rw [List.take_length] at hin ⊢
      have HV : Hid (cycV ns L = (cycLs ns (L.map Int.toNat), 0)) := by unfold cycV; rw [if_pos hin]; exact rfl
      obtain ⟨e1, e2⟩ := inR_nat hin
      have HB2 := Lib.hid H.out.below
      have hzr := HB2.out.size
      clear H
      obtain ⟨ls, hls⟩ : ∃ ls, L.map Int.toNat = ls := ⟨_, rfl⟩
      rw [hls] at e1 e2 HV ⊢
      have hN : Nats w (.slice lo L.length lc) ls := by
        have := HL.out
        rw [e1] at this
        rw [e1]
        exact Sl.unmap _ this (fun _ => rfl)
      have hlen : L.length = ls.length := by rw [e1]; simp
      rw [hlen] at hN hll ⊢
      have HE2 := Lib.hid e2
      have HN := Lib.hid hN
      clear HH2 hls e1 e2 hN hin
      cases hd : dup ls
      · by_cases h2 : ls.length < 2
        · have HF : Hid (cycLs ns ls = false) := by unfold cycLs; rw [if_pos (by simp [h2])]; exact rfl
          clear hd
          go_wp2
          go_ret2
          exact ⟨by rw [HV.out, HF.out]; rfl, HB2.out⟩
        · obtain ⟨i0, hi0⟩ : ∃ i0, ls[0]? = some i0 := ⟨_, List.getElem?_eq_getElem (by omega)⟩
          have hil := HE2.out i0 (List.mem_of_getElem? hi0)
          obtain ⟨⟨x, y⟩, hxy⟩ : ∃ e, ns[i0]? = some e := ⟨_, List.getElem?_eq_getElem hil⟩
          have HF : Hid (cycLs ns ls = (roundF ns x ls (fun _ => none) x || roundF ns y ls (fun _ => none) y)) := by
            have e0 : ls.headD 0 = i0 := by cases ls with | nil => cases hi0 | cons a t => cases hi0; rfl
            unfold cycLs
            rw [if_neg (by simp [hd, h2]), e0]
            simp [List.getD, hxy]
            exact trivial
          have hends := HG.out.ends i0 _ hxy
          obtain ⟨eb, eoff, rfl, heb, hec⟩ := HEC.out (by omega)
          obtain ⟨he1, he2⟩ := hec i0 _ hxy
          have hd1 := (HB2.out.cell (p := ⟨eb, eoff + i0 * 2, none⟩) heb).trans he1
          have hd2 := (HB2.out.cell (p := ⟨eb, eoff + i0 * 2 + 1, none⟩) heb).trans he2
          simp only at hd1 hd2 hends
          obtain ⟨hx1, hy1, _⟩ := hends
          obtain ⟨ao5, c5, hs5, hcc⟩ := HN.out
          cases hs5
          obtain ⟨lb, loff, rfl, hlb, hlc⟩ := hcc (by omega)
          have hci := (HB2.out.cell (p := ⟨lb, loff + 0, none⟩) hlb).trans (hlc 0 i0 hi0)
          rw [Nat.add_zero] at hci
          have HD := Lib.hid hd
          have j0 : (0 : Int) ≤ (i0 : Int) := Int.natCast_nonneg _
          have j1 : (i0 : Int) < (ns.length : Int) := by omega
          have hbx := HB2.out.alloc hzr (.cells #[.int .i64 (x : Int), .int .i64 (y : Int)] 43)
          have HBX := Lib.hid hbx
          clear hcc hlc hi0 hxy hec he1 he2 hd hbx
          obtain ⟨r1, hr1⟩ : ∃ r, roundF ns x ls (fun _ => none) x = r := ⟨_, rfl⟩
          obtain ⟨r2, hr2⟩ : ∃ r, roundF ns y ls (fun _ => none) y = r := ⟨_, rfl⟩
          rw [hr1, hr2] at HF
          have HR1 := Lib.hid hr1
          have HR2 := Lib.hid hr2
          clear hr1 hr2
          go_wp2_with fail
          refine (round_any n _ _ ns ls x _ hn hm (hp.below HBX.out) HG.out.ends (HN.out.below HBX.out) hll HE2.out hx1).mono ?_
          rw [HR1.out]
          rintro e w9 ⟨rfl, hb9⟩
          have HB9 := Lib.hid (bstep HBX.out hb9)
          have hy9 : w9.cell? ⟨wr.heap.size, 1, none⟩ = some (.int .i64 (y : Int)) := (hb9.cell (p := ⟨wr.heap.size, 1, none⟩) (by simp)).trans (by rw [World.cell?_alloc_at _ _ _ _ rfl]; rfl)
          clear hd1 hd2 hci hb9
          cases r1
          · go_wp2_with fail
            refine (round_any n _ _ ns ls y _ hn hm (hp.below HB9.out) HG.out.ends (HN.out.below HB9.out) hll HE2.out hy1).mono ?_
            rw [HR2.out]
            rintro e w10 ⟨rfl, hb10⟩
            have HB10 := Lib.hid (bstep HB9.out hb10)
            clear hy9 hb10
            go_wp2
            go_ret2
            exact ⟨by rw [HV.out, HF.out]; rfl, HB10.out⟩
          · go_wp2
            go_ret2
            exact ⟨by rw [HV.out, HF.out]; rfl, HB9.out⟩
      · have HF : Hid (cycLs ns ls = false) := by unfold cycLs; rw [if_pos (by simp [hd])]; exact rfl
        clear hd
        go_wp2
        go_ret2
        exact ⟨by rw [HV.out, HF.out]; rfl, HB2.out⟩
end Go.Proofs.Ytcaeemcobgopmaa
