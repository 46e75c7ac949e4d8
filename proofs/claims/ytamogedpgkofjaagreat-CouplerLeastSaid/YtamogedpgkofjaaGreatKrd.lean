/-
  Base texts, shaken by wip/shake.py: BwI LgP LgQ RdA Chk ChB RdB.
-/
import Derived.RangeFuncNested
import Derived.RangeFuncBound
import Derived.RangeFuncCalls
import Derived.RangeFuncLeaves
import Derived.RangeFuncBox
import Derived.Shelf.Abstract
import Derived.Shelf.RegionOpen
import Derived.WalkKit
import Derived.OwnWalkIn
import Derived.TacticsInMore
import Derived.LoopNIn
import Derived.LoopIn
import Derived.Deep.LoopGhost
import Derived.Deep.RegionHeld
import Derived.Test.YtamogedpgkofjaaGreatKfa
namespace Go.Proofs.YtamogedpgkofjaaGreat
section
open Go.RowKit Go.Shelf
set_option linter.unusedVariables false
attribute [local go_sem] Oper.semAt_some

/-- What has come when k rounds are over. -/
def upto {α : Type} (f : Nat → α) (k : Nat) : List α := (List.range k).map f
theorem upto_succ {α : Type} (f : Nat → α) (k : Nat) : upto f (k + 1) = upto f k ++ [f k] := by simp [upto, List.range_succ]
theorem upto_length {α : Type} (f : Nat → α) (k : Nat) : (upto f k).length = k := by simp [upto]
def bwf {α : Type} (g : Nat → α) (len j : Nat) : α := g (len - 1 - j)

/-- Two blocks lie as they lay: the iterator's box, the slice's cells. -/
def Kp2 (Bs b : Nat) (W W' : World) : Prop := W'.heap[Bs]? = W.heap[Bs]? ∧ W'.heap[b]? = W.heap[b]?
theorem Kp2.t {Bs b : Nat} {A B C : World} (h : Kp2 Bs b A B) (k : Kp2 Bs b B C) : Kp2 Bs b A C := ⟨k.1.trans h.1, k.2.trans h.2⟩
theorem Kp2.b_ {Bs b N : Nat} (h1 : Bs < N) (h2 : b < N) (W : World) (l : Nat) (o o' : Obj) (hl : N ≤ l) : Kp2 Bs b W (W.putObj l o') :=
  ⟨World.putObj_heap_other (by omega), World.putObj_heap_other (by omega)⟩
end
section
open Go.RowKit Go.Shelf
set_option linter.unusedVariables false

/-- What the loop over the nodes keeps: but for the block of the sums all lies as it lay. -/
structure LI (W6 : World) (GF n : Nat) (A : List Int) (W : World) : Prop where
  base : W6.grownBy W (some GF)
  own : Own W GF 3 intf (.slice (some ⟨GF, 0, none⟩) n n) A
theorem LI.set {W6 : World} {GF n : Nat} {A : List Int} {W : World} (h : LI W6 GF n A W) (i : Nat) (x : Int) : LI W6 GF n (A.set i x) (W.setCell ⟨GF, i, none⟩ (.int .i64 x)) :=
  ⟨only_trans h.base (only_set W GF i _), h.own.set i x⟩
theorem LI.draw {W6 : World} {GF n : Nat} {A : List Int} {W : World} (h : LI W6 GF n A W) (q : Nat) : LI W6 GF n A (W.drewN q) := ⟨only_draw h.base q, h.own.drawN q⟩
end
section
set_option linter.unusedVariables false

theorem nodup_len_le : ∀ (n : Nat) (l : List Nat), l.Nodup → (∀ x ∈ l, x < n) → l.length ≤ n
  | 0, l, _, h => by
    cases l with
    | nil => simp
    | cons a l => exact absurd (h a (by simp)) (by omega)
  | n + 1, l, hd, h => by
    have h1 := nodup_len_le n (l.erase n) (hd.erase _) (fun x hx => by
      have := h x (List.mem_of_mem_erase hx)
      have hne : x ≠ n := fun e => by subst e; exact (List.Nodup.not_mem_erase hd) hx
      omega)
    rw [List.length_erase] at h1
    split at h1 <;> omega
theorem nodup_full {n : Nat} {l : List Nat} (hd : l.Nodup) (h : ∀ x ∈ l, x < n) (hl : l.length = n) {k : Nat} (hk : k < n) : k ∈ l := by
  refine Decidable.byContradiction fun hno => ?_
  have := nodup_len_le n (k :: l) (List.nodup_cons.2 ⟨hno, hd⟩) (fun x hx => by
    rcases List.mem_cons.1 hx with rfl | hx
    · exact hk
    · exact h x hx)
  simp at this
  omega

theorem getD_set {A : List Int} {i : Nat} (hi : i < A.length) (k : Nat) (y : Int) : (A.set i y).getD k 0 = if k = i then y else A.getD k 0 := by
  rw [List.getD_eq_getElem?_getD, List.getElem?_set]
  by_cases h : i = k
  · subst h; simp [hi]
  · rw [if_neg h, if_neg (fun e => h e.symm), List.getD_eq_getElem?_getD]
theorem ord_all {n : Nat} {es : List (Nat × Nat)} {D : List Nat} (h : orderOf n es = some D) {k : Nat} (hk : k < n) : k ∈ D :=
  nodup_full (ordTo_ok n D h).2.nodup (ordTo_ok n D h).2.lt (ordTo_ok n D h).1 hk
/-- An edge leads to a later node. -/
theorem ord_edge {n : Nat} {es : List (Nat × Nat)} {D : List Nat} (h : orderOf n es = some D) {i k : Nat} (hk : k ∈ nextsS n es i) : i ∈ D ∧ k ∈ D ∧ D.idxOf i < D.idxOf k := by
  obtain ⟨h1, h2⟩ := nextsS_mem.1 hk
  have hd := ord_all h h1
  obtain ⟨p1, p2⟩ := (ordTo_ok n D h).2.pre (i, k) h2 hd
  exact ⟨p1, hd, p2⟩
end
section
open Go.RowKit
set_option linter.unusedVariables false
attribute [local go_sem ↓] Go.wp_at_zero Go.wp_at_succ

section
variable {α : Type}
def fl (n : Nat) (f : Nat → α) : List α := (List.range n).map f
theorem fl_len (n : Nat) (f : Nat → α) : (fl n f).length = n := by simp [fl]
theorem fl_get {n : Nat} (f : Nat → α) {i : Nat} (hi : i < n) : (fl n f)[i]? = some (f i) := by
  unfold fl
  rw [List.getElem?_map, List.getElem?_range hi]; rfl
theorem fl_out {n : Nat} (f : Nat → α) {i : Nat} (hi : ¬ i < n) : (fl n f)[i]? = none := List.getElem?_eq_none (by rw [fl_len]; omega)
theorem fl_ext {n : Nat} {f g : Nat → α} (h : ∀ i, i < n → f i = g i) : fl n f = fl n g := by
  refine List.ext_getElem? fun i => ?_
  by_cases hi : i < n
  · rw [fl_get f hi, fl_get g hi, h i hi]
  · rw [fl_out f hi, fl_out g hi]
theorem fl_set (n : Nat) (f : Nat → α) (k : Nat) (x : α) : (fl n f).set k x = fl n (fun i => if i = k then x else f i) := by
  refine List.ext_getElem? fun i => ?_
  by_cases hi : i < n
  · rw [fl_get _ hi, List.getElem?_set, fl_len]
    by_cases e : k = i
    · subst e; rw [if_pos rfl, if_pos hi, if_pos rfl]
    · rw [if_neg e, fl_get f hi, if_neg (fun h => e h.symm)]
  · rw [fl_out _ hi, List.getElem?_eq_none (by rw [List.length_set, fl_len]; omega)]
theorem fl_const (n : Nat) (x : α) : List.replicate n x = fl n (fun _ => x) := by
  refine List.ext_getElem? fun i => ?_
  by_cases hi : i < n
  · rw [fl_get _ hi, List.getElem?_replicate, if_pos hi]
  · rw [fl_out _ hi, List.getElem?_eq_none (by simp; omega)]
end

theorem elemBool : Elem Tryz.prog 42 4 1 := elem_of (z := .bool false) Tryz.underlying42 (by kernel_rfl) rfl

def isIn (D : List Nat) (i : Nat) : Bool := decide (i ∈ D)
/-- Free, when j edges have been looked at. -/
def frE (es : List (Nat × Nat)) (D : List Nat) (j i : Nat) : Bool := decide (i ∉ D) && (es.take j).all fun e => decide (e.2 = i → e.1 ∈ D)
theorem frE_zero (es : List (Nat × Nat)) (D : List Nat) (i : Nat) : frE es D 0 i = !isIn D i := by
  unfold frE isIn
  simp
theorem frE_all (es : List (Nat × Nat)) (D : List Nat) (i : Nat) : frE es D es.length i = avail es D i := by
  unfold frE avail
  rw [List.take_length]
theorem frE_step {es : List (Nat × Nat)} {j : Nat} {e : Nat × Nat} (he : es[j]? = some e) (D : List Nat) (i : Nat) : frE es D (j + 1) i = if i = e.2 ∧ e.1 ∉ D then false else frE es D j i := by
  have hlt := (List.getElem?_eq_some_iff.1 he).1
  unfold frE
  rw [List.take_succ_eq_append_getElem hlt, (List.getElem?_eq_some_iff.1 he).2, List.all_append]
  by_cases h1 : i = e.2
  · subst h1
    by_cases h2 : e.1 ∈ D
    · rw [if_neg (fun h => h.2 h2)]; simp [h2]
    · rw [if_pos ⟨rfl, h2⟩]; simp [h2]
  · rw [if_neg (fun h => h1 h.1)]
    have : ¬ e.2 = i := fun h => h1 h.symm
    simp [this]

structure RO (w : World) (n : Nat) (D : List Nat) (v : Value) (wr : World) : Prop where
  low : Below w.heap.size w wr
  done : Own wr w.heap.size 4 boolf (.slice (some ⟨w.heap.size, 0, none⟩) n n) (fl n (isIn D))
  out_ : Own wr w.heap.size 3 natf v D
structure RF (w : World) (n : Nat) (D : List Nat) (v : Value) (F : Nat) (L : List Bool) (wr : World) : Prop where
  ro : RO w n D v wr
  gt : w.heap.size < F
  free : Own wr F 4 boolf (.slice (some ⟨F, 0, none⟩) n n) L
theorem RF.set {w wr : World} {n F : Nat} {D : List Nat} {v : Value} {L : List Bool} (h : RF w n D v F L wr) (i : Nat) (x : Bool) : RF w n D v F (L.set i x) (wr.setCell ⟨F, i, none⟩ (.bool x)) := by
  have hg := only_set wr F i (.bool x)
  have hgt := h.gt
  refine ⟨⟨h.ro.low.setCell (p := ⟨F, i, none⟩) (by show w.heap.size ≤ F; omega) _, h.ro.done.only hg (fun g e e2 => ?_), h.ro.out_.only hg (fun g e e2 => ?_)⟩, hgt, h.free.set i x⟩
  · have h1 : w.heap.size = g := Option.some.inj e
    have h2 : g = F := Option.some.inj e2
    omega
  · exact (h.ro.out_.apart h.free (by decide)) g e (e2.trans rfl)
def ROrderPost (w : World) (n : Nat) (es : List (Nat × Nat)) (e : Ending) (w' : World) : Prop :=
  (match orderOf n es with
    | some D => ∃ v, e = .returned (.tuple #[v, .bool true]) ∧ Own w' w.heap.size 3 natf v D
    | none => e = .returned (.tuple #[.slice none 0 0, .bool false])) ∧ Below w.heap.size w w'

set_option maxRecDepth 100000 in
set_option maxHeartbeats 4000000 in
theorem rorder_any (n : Nat) (v : Value) (es : List (Nat × Nat)) (w : World) (hg : Dg w n v es) :
    Calls Tryz.prog 56 #[.int .i64 (n : Int), v] w (ROrderPost w n es) := by
  have hn60 := hg.n_le
  have hm := hg.m_le
  have HG := Lib.hid hg
  obtain ⟨eao, ecap, rfl, _⟩ := hg.pairs.open_
  have hmk := fun W => run_make_one (P := Tryz.prog) 42 4 1 (.bool false) Tryz.underlying42 (by kernel_rfl) (by omega) n (by omega) W
  have HR0 : Hid (RO w n [] (.slice none 0 0) (w.alloc (.cells (madeCells (Value.bool false).cells n) 4))) := by
    refine ⟨below_new _ _, ?_, Own.nil _ _ _ _⟩
    have := own_made w 4 boolf false (.bool false) rfl n (by omega) w.heap.size (Nat.le_refl _)
    rw [fl_const] at this
    exact this
  clear hg
  go_enter Tryz.func56, Tryz.ntmps56
  go_wp2_with fail
  go_loopg [7] n (fun f s7 wr => ∃ D : List Nat, D.length + f = n ∧ Hid (ordTo n es D.length = some D ∧ RO w n D s7 wr))
  case atStart => exact ⟨[], by simp, rfl, HR0.out⟩
  case round =>
    clear HR0
    obtain ⟨D, hf, H⟩ := hrel
    obtain ⟨ao, cap, rfl⟩ := H.out.2.out_.shape
    by_cases hlt : D.length < n
    · obtain ⟨f, rfl⟩ : ∃ f, gk = f + 1 := ⟨gk - 1, by omega⟩
      obtain ⟨wo, rfl⟩ : ∃ wo : World, wo = wr := ⟨_, rfl⟩
      have hgt : w.heap.size < wo.heap.size := (H.out.2.done.lt w.heap.size rfl).2
      have HF0 : Hid (RF w n D (.slice ao D.length cap) wo.heap.size (fl n (fun _ => false)) (wo.alloc (.cells (madeCells (Value.bool false).cells n) 4))) := by
        refine ⟨⟨H.out.2.low.alloc H.out.2.low.size _, H.out.2.done.alloc _, H.out.2.out_.alloc _⟩, hgt, ?_⟩
        have := own_made wo 4 boolf false (.bool false) rfl n (by omega) wo.heap.size (Nat.le_refl _)
        rw [fl_const] at this
        exact this
      go_wp2_with fail
      go_loopw [9] (fun s9 wr => ∃ i : Nat, i ≤ n ∧ s9 = .int .i64 (i : Int) ∧ Hid (RF w n D (.slice ao D.length cap) wo.heap.size (fl n (fun k => if k < i then !isIn D k else false)) wr)) (fun s9 _ => n - (intOf s9).toNat)
      case atStart => exact ⟨0, Nat.zero_le _, rfl, by rw [show (fun k => if k < 0 then !isIn D k else false) = (fun _ => false) from funext fun k => if_neg (by omega)]; exact HF0.out⟩
      case round =>
        clear HF0
        obtain ⟨i, hi, rfl, HI⟩ := hrel
        by_cases hin : i < n
        · have c1 := HI.out.ro.done.cell (fl_get (isIn D) hin)
          unfold boolf at c1
          have f1 := HI.out.free.free i
          obtain ⟨z2, c2⟩ : ∃ z, wr.cell? ⟨wo.heap.size, i, none⟩ = some z := ⟨_, HI.out.free.cell (fl_get _ hin)⟩
          have i0 : (0 : Int) ≤ (i : Int) := Int.natCast_nonneg _
          have i1 : (i : Int) < (n : Int) := by omega
          have HST := Lib.hid (HI.out.set i (!isIn D i))
          rw [fl_set] at HST
          have hE := fl_ext (n := n) (f := fun k => if k = i then !isIn D i else if k < i then !isIn D k else false) (g := fun k => if k < i + 1 then !isIn D k else false) (fun k hk => by
            by_cases e : k = i
            · subst e; rw [if_pos rfl, if_pos (by omega)]
            · rw [if_neg e]
              by_cases h : k < i
              · rw [if_pos h, if_pos (by omega)]
              · rw [if_neg h, if_neg (by omega)])
          rw [hE] at HST
          clear hE
          have hgl := (HI.out.free.lt wo.heap.size rfl).2
          go_wp2
          go_roundw
          case rel => exact ⟨i + 1, by omega, by go_num, HST.out⟩
          case measure => simp [intOf]; omega
        · obtain rfl : i = n := by omega
          have HJ0 : Hid (RF w i D (.slice ao D.length cap) wo.heap.size (fl i (frE es D 0)) wr) := by
            have := HI.out
            rw [fl_ext (g := frE es D 0) (fun k hk => by rw [if_pos hk, frE_zero])] at this
            exact this
          clear HI
          go_wp2_with fail
          go_loopw [10] (fun s10 wr => ∃ j : Nat, j ≤ es.length ∧ s10 = .int .i64 (j : Int) ∧ Hid (RF w i D (.slice ao D.length cap) wo.heap.size (fl i (frE es D j)) wr)) (fun s10 _ => es.length - (intOf s10).toNat)
          case atStart => exact ⟨0, Nat.zero_le _, rfl, HJ0.out⟩
          case round =>
            clear HJ0
            obtain ⟨j, hj, rfl, HJ⟩ := hrel
            by_cases hjm : j < es.length
            · obtain ⟨e, he⟩ : ∃ e, es[j]? = some e := ⟨_, List.getElem?_eq_getElem hjm⟩
              obtain ⟨x, y⟩ := e
              obtain ⟨hx, hy⟩ := HG.out.ends j _ he
              simp only at hx hy
              obtain ⟨b, off, rfl, hbl, hc1, hc2⟩ := HG.out.pairs.edge he
              have d1 := (HJ.out.ro.low.cell (p := ⟨b, off + j * 2, none⟩) hbl).trans hc1
              have d2 := (HJ.out.ro.low.cell (p := ⟨b, off + j * 2 + 1, none⟩) hbl).trans hc2
              have c1 := HJ.out.ro.done.cell (fl_get (isIn D) hx)
              unfold boolf at c1
              have f1 := HJ.out.free.free y
              obtain ⟨z2, c2⟩ : ∃ z, wr.cell? ⟨wo.heap.size, y, none⟩ = some z := ⟨_, HJ.out.free.cell (fl_get _ hy)⟩
              have x0 : (0 : Int) ≤ (x : Int) := Int.natCast_nonneg _
              have x1 : (x : Int) < (i : Int) := by omega
              have y0 : (0 : Int) ≤ (y : Int) := Int.natCast_nonneg _
              have y1 : (y : Int) < (i : Int) := by omega
              have j0 : (0 : Int) ≤ (j : Int) := Int.natCast_nonneg _
              have j1 : (j : Int) < (es.length : Int) := by omega
              have HST := Lib.hid (fun k => frE_step he D k)
              clear he hc1 hc2
              by_cases hxD : x ∈ D
              · have hb : isIn D x = true := dec_yes hxD
                rw [hb] at c1
                have HN : Hid (RF w i D (.slice ao D.length cap) wo.heap.size (fl i (frE es D (j + 1))) wr) := by
                  have := HJ.out
                  rw [fl_ext (g := frE es D (j + 1)) (fun k hk => by rw [HST.out, if_neg (fun h => h.2 hxD)])] at this
                  exact this
                clear hb hxD
                go_wp2
                go_roundw
                case rel => exact ⟨j + 1, by omega, by go_num, HN.out⟩
                case measure => simp [intOf]; omega
              · have hb : isIn D x = false := dec_no hxD
                rw [hb] at c1
                have HN := Lib.hid (HJ.out.set y false)
                rw [fl_set, fl_ext (g := frE es D (j + 1)) (fun k hk => by
                  rw [HST.out]
                  by_cases e : k = y
                  · rw [if_pos e, if_pos ⟨e, hxD⟩]
                  · rw [if_neg e, if_neg (fun h => e h.1)])] at HN
                have hgl := (HJ.out.free.lt wo.heap.size rfl).2
                clear hb hxD
                go_wp2
                go_roundw
                case rel => exact ⟨j + 1, by omega, by go_num, HN.out⟩
                case measure => simp [intOf]; omega
            · obtain rfl : j = es.length := by omega
              have HA : Hid (RF w i D (.slice ao D.length cap) wo.heap.size (fl i (avail es D)) wr) := by
                have := HJ.out
                rw [fl_ext (g := avail es D) (fun k hk => frE_all es D k)] at this
                exact this
              clear HJ
              have HS : Hid (ordTo i es (D.length + 1) = match nextFree i es D with | none => none | some k => some (D ++ [k])) := by
                show _ = _
                rw [ordTo, H.out.1]
                rfl
              obtain ⟨w4, rfl⟩ : ∃ w4 : World, w4 = wr := ⟨_, rfl⟩
              go_wp2_with fail
              go_loop [11] (fun s11 => ∃ t : Nat, t ≤ i ∧ s11 = .int .i64 (t : Int) ∧ Hid (∀ j, j < t → avail es D j = false)) (fun s11 => i - (intOf s11).toNat)
              case atStart => exact ⟨0, Nat.zero_le _, rfl, fun j h => by omega⟩
              case round =>
                obtain ⟨t, ht, rfl, HT⟩ := hrel
                by_cases htn : t < i
                · have c1 := HA.out.free.cell (fl_get (avail es D) htn)
                  unfold boolf at c1
                  have t0 : (0 : Int) ≤ (t : Int) := Int.natCast_nonneg _
                  have t1 : (t : Int) < (i : Int) := by omega
                  by_cases hav : avail es D t = true
                  · rw [hav] at c1
                    have f1 := HA.out.ro.done.free t
                    obtain ⟨z2, c2⟩ : ∃ z, w4.cell? ⟨w.heap.size, t, none⟩ = some z := ⟨_, HA.out.ro.done.cell (fl_get _ htn)⟩
                    have HNX := Lib.hid (nextFree_eq htn hav HT.out)
                    have hgl := (HA.out.ro.done.lt w.heap.size rfl).2
                    have hne : ((t : Int) == (i : Int)) = false := beq_no (by omega)
                    have HDN : Hid (Own (w4.setCell ⟨w.heap.size, t, none⟩ (.bool true)) w.heap.size 4 boolf (.slice (some ⟨w.heap.size, 0, none⟩) i i) (fl i (isIn (D ++ [t])))) := by
                      have := HA.out.ro.done.set t true
                      rw [fl_set, fl_ext (g := isIn (D ++ [t])) (fun k hk => by
                        unfold isIn
                        by_cases e : k = t
                        · rw [if_pos e, dec_yes (by simp [e])]
                        · rw [if_neg e]
                          exact decide_eq_decide.2 (by simp [e]))] at this
                      exact this
                    have HOT := Lib.hid (HA.out.ro.out_.only (only_set w4 w.heap.size t (.bool true)) (fun g e e2 => (HA.out.ro.out_.apart HA.out.ro.done (by decide)) g e (e2.trans rfl)))
                    have HLW := Lib.hid (HA.out.ro.low.setCell (p := ⟨w.heap.size, t, none⟩) (Nat.le_refl _) (.bool true))
                    have hlen1 : D.length + 1 ≤ 1099511627776 := by omega
                    obtain ⟨W5, hW5⟩ : ∃ W5, w4.setCell ⟨w.heap.size, t, none⟩ (.bool true) = W5 := ⟨_, rfl⟩
                    rw [hW5] at HDN HOT HLW
                    have hbase := HLW.out.size
                    clear hav
                    go_wp2_with (at_builtin; refine wpList_push W5 rfl _ _ 24 rfl 3 8 elemInt w.heap.size natf _ D t rfl HOT.out rfl rfl hlen1 (by omega) hbase ?_; intro v' w' hown' hg' hat')
                    go_roundg f
                    case measure => omega
                    case rel =>
                      refine ⟨D ++ [t], by simp; omega, ?_, below_grown HLW.out hg' HLW.out.size (fun g e => (HOT.out.lt g e).1), HDN.out.only hg' (fun g e e2 => ?_), hown'⟩
                      · rw [List.length_append, List.length_singleton, HS.out, HNX.out]
                      · exact (HDN.out.apart HOT.out (by decide)) g e e2
                  · have hav' : avail es D t = false := by simpa using hav
                    rw [hav'] at c1
                    have HN : Hid (∀ j, j < t + 1 → avail es D j = false) := fun j hj => by
                      by_cases e : j = t
                      · subst e; exact hav'
                      · exact HT.out j (by omega)
                    clear hav hav'
                    go_wp2
                    go_round
                    case rel => exact ⟨t + 1, by omega, by go_num, HN.out⟩
                    case measure => simp [intOf]; omega
                · obtain rfl : t = i := by omega
                  have HNX := Lib.hid (nextFree_no HT.out)
                  have HR : Hid (orderOf t es = none) := by
                    refine ordTo_none (k := D.length + 1) ?_ t (by omega)
                    rw [HS.out, HNX.out]
                  have hee : ((t : Int) == (t : Int)) = true := by simp
                  go_wp2
                  go_ret2
                  exact ⟨by rw [HR.out]; rfl, HA.out.ro.low⟩
    · have hDn : D.length = n := by omega
      have HR : Hid (orderOf n es = some D) := by
        have := H.out.1
        rw [hDn] at this
        exact this
      clear hf
      have HDn := Lib.hid hDn
      go_wp2
      go_ret2
      exact ⟨by rw [HR.out]; exact ⟨_, rfl, H.out.2.out_⟩, H.out.2.low⟩
end
section
open Go.RowKit
set_option linter.unusedVariables false
attribute [local go_sem ↓] Go.wp_at_zero Go.wp_at_succ

set_option maxRecDepth 100000 in
set_option maxHeartbeats 1000000 in
theorem repeat_zero (v : Value) (c : Int) (w : World) (h : Ints w v [c]) :
    Calls Tryz.prog 99 #[v, .int .i64 0] w fun e w' =>
      (∃ u, e = .returned u ∧ Own w' w.heap.size 3 intf u ([] : List Int)) ∧ Below w.heap.size w w' := by
  obtain ⟨ao, cap, rfl, h⟩ := h
  obtain ⟨b, off, rfl, hbl, hc⟩ := h (by simp)
  clear h hc
  have hmk := fun W => run_make_one (P := Tryz.prog) 24 3 8 (.int .i64 0) Tryz.underlying24 (by kernel_rfl) (by omega) 0 (by omega) W
  have hmc : (madeCells (Value.int .i64 0).cells 0) = #[] := by
    apply Array.ext'
    have := toList_madeCells_one (.int .i64 0) 0
    simpa [Value.cells] using this
  rw [hmc] at hmk
  replace hmk : ∀ W, Sem.run Tryz.prog (Instr.makeSlice 24 (.int .i64 0) (.int .i64 0)) W = .ok (.slice (some ⟨W.heap.size, 0, none⟩) 0 0) (W.alloc (.cells #[] 3)) := fun W => hmk W
  clear hmc
  have hmul := mul_one 0 (by omega)
  have HM : Hid (∀ W, Calls Tryz.prog 122 #[.int .u64 1, .int .u64 0] W fun e w' => e = .returned (.tuple #[.int .u64 0, .int .u64 0]) ∧ W = w') := fun W => hmul W
  clear hmul
  have hB0 : Below w.heap.size w (w.alloc (.cells #[] 3)) := below_new _ _
  have HG0 := Lib.hid (heap_alloc_new w (.cells #[] 3))
  go_enter Tryz.func99, Tryz.ntmps99
  go_wp2_with (first
    | (go_at_call 122; refine (HM.out _).mono ?_; rintro e w9 ⟨rfl, rfl⟩)
    | (refine wpList_copy_nothing (o := ⟨some 33, _, _, _, _, _⟩) rfl (.tmp 31) (.tmp 32) 24 24 rfl 3 Tryz.underlying24 (by kernel_rfl) (some ⟨w.heap.size, 0, none⟩) (some ⟨b, off, none⟩) 0 0 1 cap rfl rfl (by simp) ?_))
  go_loopw [8] (fun s wr => s = .int .i64 0 ∧ wr = w.alloc (.cells #[] 3)) (fun s _ => 0)
  case atStart => exact ⟨rfl, rfl⟩
  case round =>
    obtain ⟨rfl, rfl⟩ := hrel
    go_wp2
    go_ret
    refine ⟨⟨_, rfl, ?_⟩, hB0⟩
    have hg := HG0.out
    exact ⟨by simp, .inr ⟨w.heap.size, 0, _, by simp, Nat.le_refl _, hg, by simp, by unfold maxLen; omega, by simp, by simp⟩⟩

theorem repeat_all (v : Value) (c : Int) (n : Nat) (w : World) (h : Ints w v [c]) (hn : n ≤ 100000) :
    Calls Tryz.prog 99 #[v, .int .i64 (n : Int)] w fun e w' =>
      (∃ u, e = .returned u ∧ Own w' w.heap.size 3 intf u (List.replicate n c)) ∧ Below w.heap.size w w' := by
  by_cases h0 : n = 0
  · subst h0
    exact repeat_zero v c w h
  · exact repeat_any v c n w h (by omega) hn

def badN (n : Int) (x : Int) : Bool := decide (x < 0 ∨ n ≤ x)
def chkN (es : List (Nat × Nat)) (q : List Nat) : Bool × Int :=
  if q.Nodup then (es.all fun e => decide (q.idxOf e.1 < q.idxOf e.2), 0) else (false, 10)
def chkRes (n : Nat) (es : List (Nat × Nat)) (l : List Int) : Bool × Int :=
  if l.length ≠ n then (false, 3) else if l.any (badN n) then (false, 2) else chkN es (l.map Int.toNat)
def placeI (q : List Nat) (k i : Nat) : Int := if i ∈ q.take k then (q.idxOf i : Int) else -1
def placeL (n : Nat) (q : List Nat) (k : Nat) : List Int := (List.range n).map (placeI q k)
theorem placeL_len (n : Nat) (q : List Nat) (k : Nat) : (placeL n q k).length = n := by simp [placeL]
theorem placeL_get {n : Nat} (q : List Nat) (k : Nat) {i : Nat} (hi : i < n) : (placeL n q k)[i]? = some (placeI q k i) := by
  unfold placeL
  rw [List.getElem?_map, List.getElem?_range hi]; rfl
theorem placeL_zero (n : Nat) (q : List Nat) : List.replicate n (-1) = placeL n q 0 := by
  refine List.ext_getElem? fun i => ?_
  by_cases hi : i < n
  · rw [placeL_get q 0 hi, List.getElem?_replicate, if_pos hi]; simp [placeI]
  · rw [List.getElem?_eq_none (by simp; omega), List.getElem?_eq_none (by rw [placeL_len]; omega)]
theorem idxOf_at {q : List Nat} {k i : Nat} (hk : q[k]? = some i) (hno : i ∉ q.take k) : q.idxOf i = k := by
  have hlt := (List.getElem?_eq_some_iff.1 hk).1
  have e : q = q.take k ++ i :: q.drop (k + 1) := by
    have h1 := List.take_append_drop k q
    rw [List.drop_eq_getElem_cons hlt, (List.getElem?_eq_some_iff.1 hk).2] at h1
    exact h1.symm
  rw [e, List.idxOf_append, if_neg hno, List.idxOf_cons_self, List.length_take]
  omega
theorem placeL_step {n : Nat} {q : List Nat} {k i : Nat} (hk : q[k]? = some i) (hno : i ∉ q.take k) : (placeL n q k).set i (k : Int) = placeL n q (k + 1) := by
  have hlt := (List.getElem?_eq_some_iff.1 hk).1
  have ht : q.take (k + 1) = q.take k ++ [i] := by rw [List.take_succ_eq_append_getElem hlt, (List.getElem?_eq_some_iff.1 hk).2]
  refine List.ext_getElem? fun j => ?_
  by_cases hj : j < n
  · rw [placeL_get q (k + 1) hj, List.getElem?_set]
    by_cases e : i = j
    · subst e
      rw [if_pos rfl, if_pos (by rw [placeL_len]; exact hj)]
      unfold placeI
      rw [if_pos (by rw [ht]; simp), idxOf_at hk hno]
    · rw [if_neg e, placeL_get q k hj]
      unfold placeI
      rw [ht]
      by_cases h : j ∈ q.take k
      · rw [if_pos h, if_pos (by simp [h])]
      · rw [if_neg h, if_neg (by simp only [List.mem_append, List.mem_singleton]; rintro (h1 | h1); exact h h1; exact e h1.symm)]
  · rw [List.getElem?_eq_none (by rw [List.length_set, placeL_len]; omega), List.getElem?_eq_none (by rw [placeL_len]; omega)]

def CheckPost (w : World) (n : Nat) (es : List (Nat × Nat)) (l : List Int) (e : Ending) (w' : World) : Prop :=
  e = .returned (.tuple #[.bool (chkRes n es l).1, .int .i64 (chkRes n es l).2]) ∧ Below w.heap.size w w'
theorem checkPost_of {w w' : World} {n : Nat} {es : List (Nat × Nat)} {l : List Int} {b : Bool} {k : Int} (h : chkRes n es l = (b, k)) (hb : Below w.heap.size w w') : CheckPost w n es l (.returned (.tuple #[.bool b, .int .i64 k])) w' := by
  unfold CheckPost
  rw [h]
  exact ⟨rfl, hb⟩
end
section
open Go.RowKit
set_option linter.unusedVariables false
attribute [local go_sem ↓] Go.wp_at_zero Go.wp_at_succ

/-- What the loop keeps: the places. -/
structure CK (W2 : World) (X Y : Nat) (n : Nat) (u : Value) (A : List Int) (wr : World) : Prop where
  low : Below X W2 wr
  box : wr.cell? ⟨Y, 0, none⟩ = some u
  lt : Y < wr.heap.size
  ne : ∀ g, u.ownBlock = some g → g ≠ Y
  own : Own wr X 3 intf u A
end
section
open Go.RowKit
set_option linter.unusedVariables false
attribute [local go_sem ↓] Go.wp_at_zero Go.wp_at_succ

def nodesRes (n : Nat) (l : List Int) : Int := if l.length ≠ n then 3 else if l.any (badN n) then 2 else if l.Nodup then 0 else 10

structure RC (w : World) (n : Nat) (A : List Int) (wr : World) : Prop where
  low : Below w.heap.size w wr
  own : Own wr w.heap.size 3 intf (.slice (some ⟨w.heap.size, 0, none⟩) n n) A
end
end Go.Proofs.YtamogedpgkofjaaGreat
