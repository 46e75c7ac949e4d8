/-
  Bundles: their data, and which are valid.
-/
import Derived.Test.YtejcgjdfajppgaaGreatDoorTpm
import Derived.Test.YtejcgjdfajppgaaGreatDoorKlg
import Derived.Test.YtejcgjdfajppgaaGreatDoorKqb
namespace Go.Proofs.YtejcgjdfajppgaaGreatDoor
section
open Go.RowKit
set_option linter.unusedVariables false
set_option linter.unusedSimpArgs false
attribute [local go_sem ↓] Go.wp_at_zero Go.wp_at_succ

structure BunD where
  tag : ByteArray
  mark : ByteArray
  count : Int
  mass : Int
def bunCells (b : BunD) : List Value := [.string b.tag, .string b.mark, .int .i64 b.count, .int .i64 b.mass]
theorem bun_len (b : BunD) : (bunCells b).length = 4 := rfl
def bunv (b : BunD) : Value := .agg #[.string b.tag, .string b.mark, .int .i64 b.count, .int .i64 b.mass]
abbrev Buns (w : World) (v : Value) (l : List BunD) : Prop := Fl 4 bunCells w v l
theorem buns_get {w : World} {ao : Option Addr} {n cap k : Nat} {l : List BunD} {x : BunD} (h : Buns w (.slice ao n cap) l) (hx : l[k]? = some x) :
    ∃ b off, ao = some ⟨b, off, none⟩ ∧ b < w.heap.size ∧ w.cell? ⟨b, off + k * 4, none⟩ = some (.string x.tag) ∧ w.cell? ⟨b, off + k * 4 + 1, none⟩ = some (.string x.mark) ∧ w.cell? ⟨b, off + k * 4 + 2, none⟩ = some (.int .i64 x.count) ∧ w.cell? ⟨b, off + k * 4 + 3, none⟩ = some (.int .i64 x.mass) := by
  obtain ⟨b, off, rfl, hb, hc⟩ := Fl.get h hx
  exact ⟨b, off, rfl, hb, hc 0 _ rfl, hc 1 _ rfl, hc 2 _ rfl, hc 3 _ rfl⟩
/-- The limits of a bundle. -/
def inR (b : BunD) : Bool := decide (1 ≤ b.count) && (decide (b.count ≤ 1000) && (decide (0 ≤ b.mass) && decide (b.mass ≤ 1099511627776)))
def seenT (l : List BunD) : ByteArray → Bool := fun t => l.any fun x => decide (x.tag = t)
def bun1 (l : List BunD) (i : Nat) (b : BunD) : Bool := nameB b.tag && (nameB b.mark && (!(seenT (l.take i) b.tag) && inR b))
def bunAt (l : List BunD) (i : Nat) : Bool := match l[i]? with | some b => bun1 l i b | none => true
def bunsOk (l : List BunD) : Bool := decide (l.length ≤ 1000) && (List.range l.length).all (bunAt l)
def FitU (l : List BunD) : Prop := ∀ b ∈ l, b.tag.size ≤ maxLen ∧ b.mark.size ≤ maxLen
theorem bunAt_some {l : List BunD} {i : Nat} {b : BunD} (h : l[i]? = some b) : bunAt l i = bun1 l i b := by unfold bunAt; rw [h]
theorem buns_big {l : List BunD} (h : 1000 < l.length) : bunsOk l = false := by unfold bunsOk; rw [dec_no (by omega)]; rfl
theorem buns_no {l : List BunD} {i : Nat} {b : BunD} (h : l[i]? = some b) (hb : bun1 l i b = false) : bunsOk l = false := by
  unfold bunsOk
  rw [show (List.range l.length).all (bunAt l) = false from List.all_eq_false.2 ⟨i, List.mem_range.2 (List.getElem?_eq_some_iff.1 h).1, by rw [bunAt_some h, hb]; simp⟩]
  simp
theorem buns_yes {l : List BunD} (h : l.length ≤ 1000) (h2 : ∀ (i : Nat) b, i < l.length → l[i]? = some b → bun1 l i b = true) : bunsOk l = true := by
  unfold bunsOk
  rw [dec_yes h, Bool.true_and, List.all_eq_true]
  intro i hi
  rw [List.mem_range] at hi
  rw [bunAt_some (List.getElem?_eq_getElem hi)]
  exact h2 i _ hi (List.getElem?_eq_getElem hi)
theorem buns_all {l : List BunD} (h : bunsOk l = true) : l.length ≤ 1000 ∧ ∀ (i : Nat) b, l[i]? = some b → bun1 l i b = true := by
  unfold bunsOk at h
  rw [Bool.and_eq_true] at h
  refine ⟨by simpa using h.1, fun i b hb => ?_⟩
  have := List.all_eq_true.1 h.2 i (List.mem_range.2 (List.getElem?_eq_some_iff.1 hb).1)
  rw [bunAt_some hb] at this
  exact this
theorem seen_snoc {l : List BunD} {k : Nat} {b : BunD} (h : l[k]? = some b) : seenT (l.take (k + 1)) = bput (seenT (l.take k)) b.tag true := by
  funext t
  unfold seenT bput
  rw [List.take_add_one, h]
  simp only [Option.toList, List.any_append, List.any_cons, List.any_nil, Bool.or_false]
  by_cases e : b.tag = t
  · rw [dec_yes e, if_pos e.symm]; simp
  · rw [dec_no e, if_neg (fun h => e h.symm)]; simp
theorem inR_cases (b : BunD) : (inR b = true ∧ 1 ≤ b.count ∧ b.count ≤ 1000 ∧ 0 ≤ b.mass ∧ b.mass ≤ 1099511627776) ∨ inR b = false ∧ (b.count < 1 ∨ (1 ≤ b.count ∧ 1000 < b.count) ∨ (1 ≤ b.count ∧ b.count ≤ 1000 ∧ b.mass < 0) ∨ (1 ≤ b.count ∧ b.count ≤ 1000 ∧ 0 ≤ b.mass ∧ 1099511627776 < b.mass)) := by
  unfold inR
  by_cases h1 : 1 ≤ b.count
  · by_cases h2 : b.count ≤ 1000
    · by_cases h3 : 0 ≤ b.mass
      · by_cases h4 : b.mass ≤ 1099511627776
        · exact .inl ⟨by simp [h1, h2, h3, h4], h1, h2, h3, h4⟩
        · exact .inr ⟨by simp [h4], .inr (.inr (.inr ⟨h1, h2, h3, by omega⟩))⟩
      · exact .inr ⟨by simp [h3], .inr (.inr (.inl ⟨h1, h2, by omega⟩))⟩
    · exact .inr ⟨by simp [h2], .inr (.inl ⟨h1, by omega⟩)⟩
  · exact .inr ⟨by simp [h1], .inl (by omega)⟩
structure SeenW (w : World) (B n : Nat) (m : ByteArray → Bool) (wr : World) : Prop where
  below : Below w.heap.size w wr
  map : BMap wr B n m
  far : w.heap.size ≤ B
theorem SeenW.step {w wr w' : World} {B n n' : Nat} {m m' : ByteArray → Bool} (h : SeenW w B n m wr) (hm : BMap w' B n' m') (hg : wr.grownBy w' (some B)) : SeenW w B n' m' w' :=
  ⟨h.below.grown hg h.below.size (fun j hj => by cases hj; exact h.far), hm, h.far⟩
theorem SeenW.alloc {w wr : World} {B n : Nat} {m : ByteArray → Bool} (h : SeenW w B n m wr) (o : Obj) : SeenW w B n m (wr.alloc o) := ⟨h.below.alloc h.below.size o, h.map.below (below_new _ _), h.far⟩
set_option maxRecDepth 100000 in
set_option maxHeartbeats 4000000 in
theorem bvalid_any (v : Value) (l : List BunD) (w : World) (hp : Buns w v l) (hl : l.length ≤ 140737488355328) (hf : FitU l) :
    Calls Tryz.prog 41 #[v] w fun e w' => e = .returned (.bool (bunsOk l)) ∧ Below w.heap.size w w' := by
  obtain ⟨ao, cap, rfl⟩ := hp.at_
  have HP := Lib.hid hp
  have HFI := Lib.hid hf
  clear hp hf
  rcases Nat.lt_or_ge 1000 l.length with h60 | h60
  · have HF := Lib.hid (buns_big h60)
    have h61 : (1000 : Int) < (l.length : Int) := by omega
    go_enter Tryz.func41, Tryz.ntmps41
    go_wp2
    go_ret
    exact ⟨ret_bool HF.out.symm, Below.refl _ _⟩
  · have h61 : ¬ (1000 : Int) < (l.length : Int) := by omega
    have hmm := @run_makeMap Tryz.prog
    have HW1 : Hid (SeenW w w.heap.size 0 (seenT (l.take 0)) (w.alloc (.map #[] 0))) := ⟨below_new _ _, BMap.new w, Nat.le_refl _⟩
    go_enter Tryz.func41, Tryz.ntmps41
    go_wp2_with fail
    go_loopw [12] (fun i wr => ∃ k : Nat, k ≤ l.length ∧ i = .int .i64 k ∧ SeenW w w.heap.size k (seenT (l.take k)) wr ∧ Hid (∀ (j : Nat) b, j < k → l[j]? = some b → bun1 l j b = true)) (fun i _ => l.length - (intOf i).toNat)
    case atStart => exact ⟨0, Nat.zero_le _, rfl, HW1.out, Lib.hid (fun j b hj => by omega)⟩
    case round =>
      clear HW1
      obtain ⟨k, hk, rfl, hBW, hno⟩ := hrel
      by_cases hk2 : k < l.length
      · obtain ⟨x, hy⟩ : ∃ y, l[k]? = some y := ⟨_, List.getElem?_eq_getElem hk2⟩
        obtain ⟨b, off, rfl, hbl, c0, c1, c2, c3⟩ := buns_get (HP.out.below hBW.below) hy
        have HX := HFI.out x (List.mem_of_getElem? hy)
        have HXT := Lib.hid HX.1
        have HN1 := Lib.hid (fun W => name_any x.tag W HX.1)
        have HN2 := Lib.hid (fun W => name_any x.mark W HX.2)
        have HSN := Lib.hid (seen_snoc hy)
        have HBW := Lib.hid (hBW.alloc (.cells #[.string x.tag, .string x.mark, .int .i64 x.count, .int .i64 x.mass] 73))
        have hlk := HBW.out.map.look (x := x.tag) (by have := HXT.out; unfold maxLen at this; omega)
        have HU := Lib.hid (show bun1 l k x = (nameB x.tag && (nameB x.mark && (!(seenT (l.take k) x.tag) && inR x))) from rfl)
        have HNO := Lib.hid (fun hb => buns_no (l := l) hy hb)
        have HY := Lib.hid hy
        clear hy HX hBW
        generalize nameB x.tag = n1 at *
        generalize nameB x.mark = n2 at *
        generalize seenT (l.take k) x.tag = sn at *
        cases n1
        · have hF : bunsOk l = false := HNO.out (by rw [HU.out]; rfl)
          have HF := Lib.hid hF
          clear hF
          go_wp2_with (first
            | (go_at_call 24; with_reducible refine (HN1.out _).mono ?_; rintro e w9 ⟨rfl, rfl⟩))
          go_ret
          exact ⟨ret_bool HF.out.symm, HBW.out.below⟩
        cases n2
        · have hF : bunsOk l = false := HNO.out (by rw [HU.out]; rfl)
          have HF := Lib.hid hF
          clear hF
          go_wp2_with (first
            | (go_at_call 24; with_reducible refine (HN1.out _).mono ?_; rintro e w9 ⟨rfl, rfl⟩)
            | (go_at_call 24; with_reducible refine (HN2.out _).mono ?_; rintro e w9 ⟨rfl, rfl⟩))
          go_ret
          exact ⟨ret_bool HF.out.symm, HBW.out.below⟩
        cases sn
        case true =>
          have hF : bunsOk l = false := HNO.out (by rw [HU.out]; rfl)
          have HF := Lib.hid hF
          clear hF
          go_wp2_with (first
            | (go_at_call 24; with_reducible refine (HN1.out _).mono ?_; rintro e w9 ⟨rfl, rfl⟩)
            | (go_at_call 24; with_reducible refine (HN2.out _).mono ?_; rintro e w9 ⟨rfl, rfl⟩))
          go_ret
          exact ⟨ret_bool HF.out.symm, HBW.out.below⟩
        rcases inR_cases x with ⟨hin, i1, i2, i3, i4⟩ | ⟨hin, i1 | ⟨i1, i2⟩ | ⟨i1, i2, i3⟩ | ⟨i1, i2, i3, i4⟩⟩
        · have HT := Lib.hid (HU.out.trans (by rw [hin]))
          clear hin HNO
          go_wp2_with (first
            | (go_at_call 24; with_reducible refine (HN1.out _).mono ?_; rintro e w9 ⟨rfl, rfl⟩)
            | (go_at_call 24; with_reducible refine (HN2.out _).mono ?_; rintro e w9 ⟨rfl, rfl⟩)
            | (at_mapUpdate; refine wpList_bput _ rfl _ _ _ rfl w.heap.size k _ HBW.out.map (by omega) x.tag (by have := HXT.out; unfold maxLen at this; omega) true rfl rfl rfl ?_; intro w5 hmp5 hg5; have HBW5 := Lib.hid (HBW.out.step hmp5 hg5); clear hmp5 hg5))
          go_roundw
          case rel => exact ⟨k + 1, by omega, by go_num, by rw [HSN.out]; exact HBW5.out, Lib.hid (fun j b hj hb => by
            by_cases e : j = k
            · subst e; rw [HY.out] at hb; cases hb; exact HT.out
            · exact hno.out j b (by omega) hb)⟩
          case measure => simp [intOf]; omega
        all_goals
          have hF : bunsOk l = false := HNO.out (by rw [HU.out, hin]; simp)
          have HF := Lib.hid hF
          clear hF hin
          go_wp2_with (first
            | (go_at_call 24; with_reducible refine (HN1.out _).mono ?_; rintro e w9 ⟨rfl, rfl⟩)
            | (go_at_call 24; with_reducible refine (HN2.out _).mono ?_; rintro e w9 ⟨rfl, rfl⟩))
          go_ret
          exact ⟨ret_bool HF.out.symm, HBW.out.below⟩
      · have HT := Lib.hid (buns_yes (l := l) h60 (fun i b hi hb => hno.out i b (by omega) hb))
        have HB := Lib.hid hBW.below
        go_wp2
        go_ret
        exact ⟨ret_bool HT.out.symm, HB.out⟩
end
end Go.Proofs.YtejcgjdfajppgaaGreatDoor
