/-
  Graph: the sets of nodes (singles, first, join), forest, indices.
-/
import Derived.Test.YtcaeemcobgopmaaGrA
import Derived.Test.YtcaeemcobgopmaaMat
namespace Go.Proofs.Ytcaeemcobgopmaa
open Go.RowKit
set_option linter.unusedVariables false

theorem elemSets : Elem Try.prog 64 3 8 := elem_of (z := .int .i64 0) Try.underlying64 (by kernel_rfl) rfl
theorem elemBool : Elem Try.prog 55 4 1 := elem_of (z := .bool false) Try.underlying55 (by kernel_rfl) rfl


def cst (ns : List (Nat × Nat)) : List (Int × Int) := ns.map fun e => ((e.1 : Int), (e.2 : Int))
theorem cst_len (ns : List (Nat × Nat)) : (cst ns).length = ns.length := by simp [cst]
theorem cst_get {ns : List (Nat × Nat)} {k : Nat} {e : Nat × Nat} (h : ns[k]? = some e) : (cst ns)[k]? = some ((e.1 : Int), (e.2 : Int)) := by
  unfold cst; rw [List.getElem?_map, h]; rfl

/-- A slice of pairs of nodes. -/
def NPairs (w : World) (v : Value) (ns : List (Nat × Nat)) : Prop := Pairs w v (cst ns)
theorem NPairs.below {w w1 : World} {v : Value} {l : List (Nat × Nat)} (h : NPairs w v l) (hb : Below w.heap.size w w1) : NPairs w1 v l := Pairs.below h hb
theorem NPairs.open_ {w : World} {v : Value} {ns : List (Nat × Nat)} (h : NPairs w v ns) :
    ∃ ao cap, v = .slice ao ns.length cap ∧ (0 < ns.length → ∃ b off, ao = some ⟨b, off, none⟩ ∧ b < w.heap.size ∧ ∀ k x, ns[k]? = some x → w.cell? ⟨b, off + k * 2, none⟩ = some (.int .i64 (x.1 : Int)) ∧ w.cell? ⟨b, off + k * 2 + 1, none⟩ = some (.int .i64 (x.2 : Int))) := by
  obtain ⟨ao, cap, rfl, h⟩ := h
  refine ⟨ao, cap, by rw [cst_len], fun hl => ?_⟩
  obtain ⟨b, off, rfl, hlt, hc⟩ := h (by rw [cst_len]; exact hl)
  exact ⟨b, off, rfl, hlt, fun k x hx => hc k _ (cst_get hx)⟩

/-- All ends are nodes. -/
def Ends (n : Nat) (ns : List (Nat × Nat)) : Prop := ∀ (k : Nat) e, ns[k]? = some e → e.1 < n ∧ e.2 < n ∧ e.1 ≠ e.2

theorem vld_nat {n : Int} {l : List (Int × Int)} (h : vld n l = true) : ∃ (N : Nat) (ns : List (Nat × Nat)), n = (N : Int) ∧ l = cst ns ∧ N ≤ 1000 ∧ ns.length ≤ 4000 ∧ Ends N ns := by
  unfold vld at h
  rw [Bool.and_eq_true] at h
  obtain ⟨h1, h2⟩ := h
  have h1 := of_decide_eq_true h1
  have h2 : ∀ x ∈ l, badE n x = false := by
    rw [Bool.not_eq_true', List.any_eq_false] at h2
    intro x hx
    simpa using h2 x hx
  have h3 : ∀ x ∈ l, x.1 ≠ x.2 ∧ 0 ≤ x.1 ∧ 0 ≤ x.2 ∧ x.1 < n ∧ x.2 < n := by
    intro x hx
    have := of_decide_eq_false (h2 x hx)
    omega
  refine ⟨n.toNat, l.map fun e => (e.1.toNat, e.2.toNat), by omega, ?_, by omega, by simp; omega, ?_⟩
  · unfold cst
    rw [List.map_map]
    have e : l = l.map id := by simp
    rw [e, List.map_map]
    refine List.map_congr_left fun x hx => ?_
    obtain ⟨x1, x2⟩ := x
    have := h3 _ hx
    simp only [Function.comp, id]
    rw [Int.toNat_of_nonneg this.2.1, Int.toNat_of_nonneg this.2.2.1]
  · intro k e he
    rw [List.getElem?_map] at he
    obtain ⟨x, hx, rfl⟩ := Option.map_eq_some_iff.1 he
    have := h3 _ (List.mem_of_getElem? hx)
    simp only
    omega

set_option maxHeartbeats 400000 in
theorem singles_any (n : Nat) (hn : n ≤ 1000) (w : World) :
    Calls Try.prog 61 #[.int .i64 (n : Int)] w fun e w' => ∃ v, e = .returned v ∧ Own w' w.heap.size 3 natf v (List.range n) ∧ Below w.heap.size w w' := by
  go_enter Try.func61, Try.ntmps61
  go_wp2
  go_loopw [3, 6] (fun v i wr => ∃ k : Nat, k ≤ n ∧ i = .int .i64 k ∧ Own wr w.heap.size 3 natf v (List.range k) ∧ Below w.heap.size w wr) (fun _ i _ => n - (intOf i).toNat)
  case atStart => exact ⟨0, Nat.zero_le _, rfl, Own.nil _ _ _ _, Below.refl _ _⟩
  case round =>
    obtain ⟨k, hk, rfl, hown, hB⟩ := hrel
    have hz := hB.size
    by_cases hlt : k < n
    · have hl : (List.range k).length + 1 ≤ 1099511627776 := by simp; omega
      have hrb := (hown.lt)
      have HR := Lib.hid (List.range_succ (n := k))
      go_wp2_with (first
        | (at_builtin; refine wpList_push wr rfl _ _ 64 rfl 3 8 elemSets w.heap.size natf _ (List.range k) k rfl hown rfl rfl hl (by omega) hz ?_; intro v' w' hown' hg _))
      go_roundw
      case rel => exact ⟨k + 1, by omega, by go_num, by rw [HR.out]; exact hown', below_grown hB hg hz (fun g hg => (hrb g hg).1)⟩
      case measure => simp [intOf]; omega
    · obtain rfl : k = n := by omega
      go_wp2
      go_ret
      exact ⟨_, rfl, hown, hB⟩
/-- What first and join leave: the same classes in the same place. -/
def SetsAt (w : World) (base g n cap : Nat) (f : Nat → Nat) (w' : World) : Prop :=
  ∃ L, L.length = n ∧ UF L f ∧ Own w' base 3 natf (.slice (some ⟨g, 0, none⟩) n cap) L ∧ w.grownBy w' (some g) ∧ w'.heap.size = w.heap.size

def FirstPost (w : World) (base g n cap : Nat) (f : Nat → Nat) (i : Nat) (e : Ending) (w' : World) : Prop :=
  e = .returned (.int .i64 (f i : Int)) ∧ SetsAt w base g n cap f w'

set_option maxHeartbeats 400000 in
theorem first_any (base g n cap : Nat) (L : List Nat) (f : Nat → Nat) (i : Nat) (w : World) (hL : L.length = n) (hn : n ≤ 1000) (hown : Own w base 3 natf (.slice (some ⟨g, 0, none⟩) n cap) L) (hu : UF L f) (hi : i < n) :
    Calls Try.prog 48 #[.slice (some ⟨g, 0, none⟩) n cap, .int .i64 (i : Int)] w (FirstPost w base g n cap f i) := by
  go_enter Try.func48, Try.ntmps48
  go_wp2
  go_loopw [1] (fun s wr => ∃ k : Nat, k < n ∧ s = .int .i64 k ∧ Hid (f k = f i ∧ SetsAt w base g n cap f wr)) (fun s _ => (intOf s).toNat)
  case atStart => exact ⟨i, hi, rfl, rfl, L, hL, hu, hown, only_refl _ _, rfl⟩
  case round =>
    obtain ⟨k, hk, rfl, H⟩ := hrel
    obtain ⟨hf, L', hL', hu', hown', hg', hs'⟩ := H.out
    obtain ⟨x, hx⟩ : ∃ x, L'[k]? = some x := ⟨_, List.getElem?_eq_getElem (by omega)⟩
    have hxk := (hu' k x hx).1
    obtain ⟨y, hy⟩ : ∃ y, L'[x]? = some y := ⟨_, List.getElem?_eq_getElem (by omega)⟩
    have hyx := (hu' x y hy).1
    have c1 := hown'.cell hx
    have c2 := hown'.cell hy
    have fr := hown'.free k
    have HX := Lib.hid hx
    have HY := Lib.hid hy
    have HF := Lib.hid hf
    have HS := Lib.hid hs'
    have HL := Lib.hid hL'
    have HU := Lib.hid hu'
    unfold natf at c1 c2
    clear hx hy hL' hf hs' hu' hu H hL
    by_cases hxe : x = k
    · subst hxe
      clear c2
      have hb0 := bne_no (show (x : Int) = (x : Int) from rfl)
      go_wp2
      go_ret
      exact ⟨ret_int (by rw [← HF.out, (HU.out x x HX.out).2.2 rfl]), L', HL.out, HU.out, hown', hg', HS.out⟩
    · have hb := bne_yes (show (x : Int) ≠ (k : Int) by omega)
      have hlt : x < k := by omega
      have HE := Lib.hid hxe
      clear hxe
      go_wp2
      go_roundw
      case rel =>
        have hs := Own.set hown' k y
        exact ⟨y, by omega, rfl, by rw [← HF.out, (HU.out x y HY.out).2.1, (HU.out k x HX.out).2.1], _, by rw [List.length_set]; exact HL.out, UF.halve HU.out HX.out HY.out HE.out, hs,
          only_trans hg' (only_set _ _ _ _), by simpa using HS.out⟩
      case measure => simp [intOf]; omega

def JoinPost (w : World) (base g n cap : Nat) (f : Nat → Nat) (a b : Nat) (e : Ending) (w' : World) : Prop :=
  e = .returned (.bool (decide (f a ≠ f b))) ∧ SetsAt w base g n cap (mrg f a b) w'

set_option maxHeartbeats 400000 in
theorem join_any (base g n cap : Nat) (L : List Nat) (f : Nat → Nat) (a b : Nat) (w : World) (hL : L.length = n) (hn : n ≤ 1000) (hown : Own w base 3 natf (.slice (some ⟨g, 0, none⟩) n cap) L) (hu : UF L f) (hf : Least f) (ha : a < n) (hb : b < n) :
    Calls Try.prog 62 #[.slice (some ⟨g, 0, none⟩) n cap, .int .i64 (a : Int), .int .i64 (b : Int)] w (JoinPost w base g n cap f a b) := by
  have h1 := (hf a).1
  have h2 := (hf b).1
  go_enter Try.func62, Try.ntmps62
  go_wp2_with fail
  refine (first_any base g n cap L f a _ hL hn hown hu ha).mono ?_
  rintro e w1 ⟨rfl, L1, hL1, hu1, hown1, hg1, hs1⟩
  have HS1 := Lib.hid hs1
  clear hs1
  go_wp2_with fail
  refine (first_any base g n cap L1 f b _ hL1 hn hown1 hu1 hb).mono ?_
  rintro e w2 ⟨rfl, L2, hL2, hu2, hown2, hg2, hs2⟩
  have HS2 := Lib.hid hs2
  have HL2 := Lib.hid hL2
  have HU := Lib.hid hu2
  clear hs2 hL1 hL2 hL hu1 hu2 hu
  have HJ := Lib.hid (UF.join HU.out hf a b (by rw [HL2.out]; omega))
  obtain ⟨x, hx⟩ : ∃ x, L2[f a]? = some x := ⟨_, List.getElem?_eq_getElem (by rw [HL2.out]; omega)⟩
  obtain ⟨y, hy⟩ : ∃ y, L2[f b]? = some y := ⟨_, List.getElem?_eq_getElem (by rw [HL2.out]; omega)⟩
  have c1 := hown2.cell hx
  have c2 := hown2.cell hy
  have fr1 := hown2.free (f a)
  have fr2 := hown2.free (f b)
  clear hx hy
  obtain ⟨p, hp⟩ : ∃ p, f a = p := ⟨_, rfl⟩
  obtain ⟨q, hq⟩ : ∃ q, f b = q := ⟨_, rfl⟩
  have HP := Lib.hid hp
  have HQ := Lib.hid hq
  rw [hp] at c1 fr1 h1
  rw [hq] at c2 fr2 h2
  rw [hp, hq]
  unfold natf at c1 c2
  clear hp hq
  by_cases hpq : p = q
  · subst hpq
    have hb0 := bne_no (show (p : Int) = (p : Int) from rfl)
    go_wp2
    go_ret
    have hj := HJ.out
    rw [HP.out, HQ.out, Nat.max_self, Nat.min_self] at hj
    exact ⟨ret_bool (by rw [HP.out, HQ.out]; simp), _, by rw [List.length_set]; exact HL2.out, hj, Own.set hown2 p p, only_trans (only_trans hg1 hg2) (only_set _ _ _ _), by simpa using HS2.out.trans HS1.out⟩
  · have hb0 := bne_yes (show (p : Int) ≠ (q : Int) by omega)
    have HPQ := Lib.hid hpq
    rcases Nat.lt_or_ge p q with hlt | hge
    · clear hpq
      go_wp2
      go_ret
      have hj := HJ.out
      rw [HP.out, HQ.out, Nat.max_eq_right (by omega), Nat.min_eq_left (by omega)] at hj
      exact ⟨ret_bool (by rw [HP.out, HQ.out, dec_yes HPQ.out]), _, by rw [List.length_set]; exact HL2.out, hj, Own.set hown2 q p, only_trans (only_trans hg1 hg2) (only_set _ _ _ _), by simpa using HS2.out.trans HS1.out⟩
    · have hlt : q < p := by omega
      clear hpq hge
      go_wp2
      go_ret
      have hj := HJ.out
      rw [HP.out, HQ.out, Nat.max_eq_left (by omega), Nat.min_eq_right (by omega)] at hj
      exact ⟨ret_bool (by rw [HP.out, HQ.out, dec_yes HPQ.out]), _, by rw [List.length_set]; exact HL2.out, hj, Own.set hown2 p q, only_trans (only_trans hg1 hg2) (only_set _ _ _ _), by simpa using HS2.out.trans HS1.out⟩

def ForestPost (w : World) (n : Nat) (ns : List (Nat × Nat)) (e : Ending) (w' : World) : Prop :=
  ∃ v u L, e = .returned (.tuple #[v, u]) ∧ Own w' w.heap.size 4 boolf v (inF ns) ∧ Own w' w.heap.size 3 natf u L ∧ L.length = n ∧ UF L (lbl ns) ∧ Below w.heap.size w w'

set_option maxHeartbeats 800000 in
theorem forest_any (n : Nat) (v : Value) (ns : List (Nat × Nat)) (w : World) (hn : n ≤ 1000) (hm : ns.length ≤ 4000) (hp : NPairs w v ns) (he : Ends n ns) :
    Calls Try.prog 47 #[.int .i64 (n : Int), v] w (ForestPost w n ns) := by
  obtain ⟨ao, cap, rfl, h⟩ := hp.open_
  have HE := Lib.hid he
  clear he hp
  go_enter Try.func47, Try.ntmps47
  go_wp2_with fail
  refine (singles_any n hn _).mono ?_
  rintro e w1 ⟨u, rfl, hu, hB1⟩
  go_wp2_with fail
  obtain ⟨w2, hw2⟩ : ∃ w2, w2 = w1 := ⟨_, rfl⟩
  go_loopw [7, 14] (fun v i wr => ∃ k : Nat, k ≤ ns.length ∧ i = .int .i64 k ∧ Hid (Own wr w.heap.size 4 boolf v (inF (ns.take k))) ∧ Below w.heap.size w wr ∧ Hid (∃ L, L.length = n ∧ Own wr w.heap.size 3 natf u L ∧ UF L (lbl (ns.take k)))) (fun _ i _ => ns.length - (intOf i).toNat)
  case atStart => exact ⟨0, Nat.zero_le _, rfl, Own.nil _ _ _ _, hB1, List.range n, by simp, hu, UF.start n⟩
  case round =>
    obtain ⟨k, hk, rfl, hv, hB, H⟩ := hrel
    obtain ⟨L, hL, hown, huf⟩ := H.out
    have hz := hB.size
    by_cases hlt : k < ns.length
    · obtain ⟨b, off, rfl, hbl, hc⟩ := h (by omega)
      obtain ⟨⟨x, y⟩, hy⟩ : ∃ y, ns[k]? = some y := ⟨_, List.getElem?_eq_getElem hlt⟩
      obtain ⟨hc1, hc2⟩ := hc k _ hy
      have hxy := HE.out k _ hy
      have hd1 := (hB.cell (p := ⟨b, off + k * 2, none⟩) hbl).trans hc1
      have hd2 := (hB.cell (p := ⟨b, off + k * 2 + 1, none⟩) hbl).trans hc2
      have HY := Lib.hid hy
      clear hy hc h hc1 hc2
      simp only at hd1 hd2 hxy
      obtain ⟨hx, hy, _⟩ := hxy
      have hn0 : 0 < L.length := by omega
      obtain ⟨g, ucap, hug, hgl, hgb, _⟩ := hown.form hn0
      rw [hL] at hug
      subst hug
      have HL := Lib.hid hL
      clear hL hn0
      have HN := Lib.hid (inF_snoc ns k _ HY.out)
      have HT := Lib.hid (show lbl (ns.take (k + 1)) = mrg (lbl (ns.take k)) x y by
        rw [List.take_succ_eq_append_getElem hlt, lbl_snoc]
        have := (List.getElem?_eq_some_iff.1 HY.out).2
        rw [this])
      have hvl := hv.out.lt
      have hap := hv.out.apart hown (by decide)
      have hlen : (inF (ns.take k)).length + 1 ≤ 1099511627776 := by unfold inF; simp; omega
      go_wp2_with fail
      refine (join_any w.heap.size g n ucap L (lbl (ns.take k)) x y _ HL.out hn (hown.alloc _) huf (lbl_least _) hx hy).mono ?_
      rintro e w3 ⟨rfl, L3, hL3, huf3, hown3, hg3, hs3⟩
      have hg3' : wr.grownBy w3 (some g) := only_trans (World.grownBy_alloc wr _ _) hg3
      have hv3 : Own w3 w.heap.size 4 boolf _ (inF (ns.take k)) := Own.only hv.out hg3' hap
      have hB3 : Below w.heap.size w w3 := below_grown hB hg3' hz (fun g' e => by cases e; exact hgb)
      have HD : Hid (decide (lbl (ns.take k) x ≠ lbl (ns.take k) y) = decide (lbl (ns.take k) x ≠ lbl (ns.take k) y)) := rfl
      have hap3 := hv3.apart hown3 (by decide)
      have hz3 := hB3.size
      have H3 : Hid (L3.length = n ∧ UF L3 (mrg (lbl (ns.take k)) x y) ∧ w3.heap.size = (wr.alloc (.cells #[.int .i64 x, .int .i64 y] 43)).heap.size) := ⟨hL3, huf3, hs3⟩
      clear hL3 huf3 hs3 huf hown hg3 hap
      obtain ⟨d, hd⟩ : ∃ d, decide (lbl (ns.take k) x ≠ lbl (ns.take k) y) = d := ⟨_, rfl⟩
      rw [hd]
      have HDD := Lib.hid hd
      clear hd HD
      go_wp2_with (first
        | (at_builtin; refine wpList_push w3 rfl _ _ 55 rfl 4 1 elemBool w.heap.size boolf _ (inF (ns.take k)) d rfl hv3 rfl rfl hlen (by omega) hz3 ?_; intro v' w' hown' hg _))
      go_roundw
      case rel => exact ⟨k + 1, by omega, by go_num, by rw [HN.out, HDD.out]; exact hown', below_grown hB3 hg hz3 (fun g hg => (hv3.lt g hg).1), L3, H3.out.1, hown3.only hg (fun g' e1 e2 => hap3 g' e2.symm e1.symm), by rw [HT.out]; exact H3.out.2.1⟩
      case measure => simp [intOf]; omega
    · clear h
      go_wp2
      go_ret2
      have hkl : ns.take k = ns := List.take_of_length_le (by omega)
      rw [hkl] at huf hv
      exact ⟨_, _, L, rfl, hv.out, hown, hL, huf, hB⟩
end Go.Proofs.Ytcaeemcobgopmaa
