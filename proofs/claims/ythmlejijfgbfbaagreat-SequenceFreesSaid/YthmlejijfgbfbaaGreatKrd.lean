/-
  Base texts, shaken by wip/shake.py: LgP LgQ RdA Chk ChB RdB.
-/
import Derived.Deep.LoopGhost
import Derived.Deep.RegionHeld
import Derived.Test.YthmlejijfgbfbaaGreatKfa
namespace Go.Proofs.YthmlejijfgbfbaaGreat
section
open Go.RowKit Go.Shelf
set_option linter.unusedVariables false

/-- What the loop over the nodes keeps: but for the block of the sums all lies as it lay. -/
structure LI (W6 : World) (GF n : Nat) (A : List Int) (W : World) : Prop where
  base : W6.grownBy W (some GF)
  own : Own W GF 3 intf (.slice (some ⟨GF, 0, none⟩) n n) A
theorem LI.set {W6 : World} {GF n : Nat} {A : List Int} {W : World} (h : LI W6 GF n A W) (i : Nat) (x : Int) : LI W6 GF n (A.set i x) (W.setCell ⟨GF, i, none⟩ (.int .i64 x)) :=
  ⟨only_trans h.base (only_set W GF i _), h.own.set i x⟩
theorem LI.draw {W6 : World} {GF n : Nat} {A : List Int} {W : World} (h : LI W6 GF n A W) (q : Nat) : LI W6 GF n A (W.drewN q) := ⟨only_draw h.base q, h.own.drawN q⟩
end
section
set_option linter.unusedVariables false

theorem nodup_len_le : ∀ (n : Nat) (l : List Nat), l.Nodup → (∀ x ∈ l, x < n) → l.length ≤ n
  | 0, l, _, h => by
    cases l with
    | nil => simp
    | cons a l => exact absurd (h a (by simp)) (by omega)
  | n + 1, l, hd, h => by
    have h1 := nodup_len_le n (l.erase n) (hd.erase _) (fun x hx => by
      have := h x (List.mem_of_mem_erase hx)
      have hne : x ≠ n := fun e => by subst e; exact (List.Nodup.not_mem_erase hd) hx
      omega)
    rw [List.length_erase] at h1
    split at h1 <;> omega
theorem nodup_full {n : Nat} {l : List Nat} (hd : l.Nodup) (h : ∀ x ∈ l, x < n) (hl : l.length = n) {k : Nat} (hk : k < n) : k ∈ l := by
  refine Decidable.byContradiction fun hno => ?_
  have := nodup_len_le n (k :: l) (List.nodup_cons.2 ⟨hno, hd⟩) (fun x hx => by
    rcases List.mem_cons.1 hx with rfl | hx
    · exact hk
    · exact h x hx)
  simp at this
  omega

theorem getD_set {A : List Int} {i : Nat} (hi : i < A.length) (k : Nat) (y : Int) : (A.set i y).getD k 0 = if k = i then y else A.getD k 0 := by
  rw [List.getD_eq_getElem?_getD, List.getElem?_set]
  by_cases h : i = k
  · subst h; simp [hi]
  · rw [if_neg h, if_neg (fun e => h e.symm), List.getD_eq_getElem?_getD]
theorem ord_all {n : Nat} {es : List (Nat × Nat)} {D : List Nat} (h : orderOf n es = some D) {k : Nat} (hk : k < n) : k ∈ D :=
  nodup_full (ordTo_ok n D h).2.nodup (ordTo_ok n D h).2.lt (ordTo_ok n D h).1 hk
/-- An edge leads to a later node. -/
theorem ord_edge {n : Nat} {es : List (Nat × Nat)} {D : List Nat} (h : orderOf n es = some D) {i k : Nat} (hk : k ∈ nextsS n es i) : i ∈ D ∧ k ∈ D ∧ D.idxOf i < D.idxOf k := by
  obtain ⟨h1, h2⟩ := nextsS_mem.1 hk
  have hd := ord_all h h1
  obtain ⟨p1, p2⟩ := (ordTo_ok n D h).2.pre (i, k) h2 hd
  exact ⟨p1, hd, p2⟩
end
section
open Go.RowKit
set_option linter.unusedVariables false
attribute [local go_sem ↓] Go.wp_at_zero Go.wp_at_succ

section
variable {α : Type}
def fl (n : Nat) (f : Nat → α) : List α := (List.range n).map f
theorem fl_len (n : Nat) (f : Nat → α) : (fl n f).length = n := by simp [fl]
theorem fl_get {n : Nat} (f : Nat → α) {i : Nat} (hi : i < n) : (fl n f)[i]? = some (f i) := by
  unfold fl
  rw [List.getElem?_map, List.getElem?_range hi]; rfl
theorem fl_out {n : Nat} (f : Nat → α) {i : Nat} (hi : ¬ i < n) : (fl n f)[i]? = none := List.getElem?_eq_none (by rw [fl_len]; omega)
theorem fl_ext {n : Nat} {f g : Nat → α} (h : ∀ i, i < n → f i = g i) : fl n f = fl n g := by
  refine List.ext_getElem? fun i => ?_
  by_cases hi : i < n
  · rw [fl_get f hi, fl_get g hi, h i hi]
  · rw [fl_out f hi, fl_out g hi]
theorem fl_set (n : Nat) (f : Nat → α) (k : Nat) (x : α) : (fl n f).set k x = fl n (fun i => if i = k then x else f i) := by
  refine List.ext_getElem? fun i => ?_
  by_cases hi : i < n
  · rw [fl_get _ hi, List.getElem?_set, fl_len]
    by_cases e : k = i
    · subst e; rw [if_pos rfl, if_pos hi, if_pos rfl]
    · rw [if_neg e, fl_get f hi, if_neg (fun h => e h.symm)]
  · rw [fl_out _ hi, List.getElem?_eq_none (by rw [List.length_set, fl_len]; omega)]
theorem fl_const (n : Nat) (x : α) : List.replicate n x = fl n (fun _ => x) := by
  refine List.ext_getElem? fun i => ?_
  by_cases hi : i < n
  · rw [fl_get _ hi, List.getElem?_replicate, if_pos hi]
  · rw [fl_out _ hi, List.getElem?_eq_none (by simp; omega)]
end

def isIn (D : List Nat) (i : Nat) : Bool := decide (i ∈ D)
/-- Free, when j edges have been looked at. -/
def frE (es : List (Nat × Nat)) (D : List Nat) (j i : Nat) : Bool := decide (i ∉ D) && (es.take j).all fun e => decide (e.2 = i → e.1 ∈ D)
theorem frE_zero (es : List (Nat × Nat)) (D : List Nat) (i : Nat) : frE es D 0 i = !isIn D i := by
  unfold frE isIn
  simp
theorem frE_all (es : List (Nat × Nat)) (D : List Nat) (i : Nat) : frE es D es.length i = avail es D i := by
  unfold frE avail
  rw [List.take_length]
theorem frE_step {es : List (Nat × Nat)} {j : Nat} {e : Nat × Nat} (he : es[j]? = some e) (D : List Nat) (i : Nat) : frE es D (j + 1) i = if i = e.2 ∧ e.1 ∉ D then false else frE es D j i := by
  have hlt := (List.getElem?_eq_some_iff.1 he).1
  unfold frE
  rw [List.take_succ_eq_append_getElem hlt, (List.getElem?_eq_some_iff.1 he).2, List.all_append]
  by_cases h1 : i = e.2
  · subst h1
    by_cases h2 : e.1 ∈ D
    · rw [if_neg (fun h => h.2 h2)]; simp [h2]
    · rw [if_pos ⟨rfl, h2⟩]; simp [h2]
  · rw [if_neg (fun h => h1 h.1)]
    have : ¬ e.2 = i := fun h => h1 h.symm
    simp [this]

structure RO (w : World) (n : Nat) (D : List Nat) (v : Value) (wr : World) : Prop where
  low : Below w.heap.size w wr
  done : Own wr w.heap.size 4 boolf (.slice (some ⟨w.heap.size, 0, none⟩) n n) (fl n (isIn D))
  out_ : Own wr w.heap.size 3 natf v D
structure RF (w : World) (n : Nat) (D : List Nat) (v : Value) (F : Nat) (L : List Bool) (wr : World) : Prop where
  ro : RO w n D v wr
  gt : w.heap.size < F
  free : Own wr F 4 boolf (.slice (some ⟨F, 0, none⟩) n n) L
theorem RF.set {w wr : World} {n F : Nat} {D : List Nat} {v : Value} {L : List Bool} (h : RF w n D v F L wr) (i : Nat) (x : Bool) : RF w n D v F (L.set i x) (wr.setCell ⟨F, i, none⟩ (.bool x)) := by
  have hg := only_set wr F i (.bool x)
  have hgt := h.gt
  refine ⟨⟨h.ro.low.setCell (p := ⟨F, i, none⟩) (by show w.heap.size ≤ F; omega) _, h.ro.done.only hg (fun g e e2 => ?_), h.ro.out_.only hg (fun g e e2 => ?_)⟩, hgt, h.free.set i x⟩
  · have h1 : w.heap.size = g := Option.some.inj e
    have h2 : g = F := Option.some.inj e2
    omega
  · exact (h.ro.out_.apart h.free (by decide)) g e (e2.trans rfl)
def ROrderPost (w : World) (n : Nat) (es : List (Nat × Nat)) (e : Ending) (w' : World) : Prop :=
  (match orderOf n es with
    | some D => ∃ v, e = .returned (.tuple #[v, .bool true]) ∧ Own w' w.heap.size 3 natf v D
    | none => e = .returned (.tuple #[.slice none 0 0, .bool false])) ∧ Below w.heap.size w w'

set_option maxRecDepth 100000 in
set_option maxHeartbeats 4000000 in
theorem rorder_any (n : Nat) (v : Value) (es : List (Nat × Nat)) (w : World) (hg : Dg w n v es) :
    Calls Tryz.prog 59 #[.int .i64 (n : Int), v] w (ROrderPost w n es) := by
  have hn60 := hg.n_le
  have hm := hg.m_le
  have HG := Lib.hid hg
  obtain ⟨eao, ecap, rfl, _⟩ := hg.pairs.open_
  have hmk := fun W => run_make_one (P := Tryz.prog) 55 4 1 (.bool false) Tryz.underlying55 (by kernel_rfl) (by omega) n (by omega) W
  have HR0 : Hid (RO w n [] (.slice none 0 0) (w.alloc (.cells (madeCells (Value.bool false).cells n) 4))) := by
    refine ⟨below_new _ _, ?_, Own.nil _ _ _ _⟩
    have := own_made w 4 boolf false (.bool false) rfl n (by omega) w.heap.size (Nat.le_refl _)
    rw [fl_const] at this
    exact this
  clear hg
  go_enter Tryz.func59, Tryz.ntmps59
  go_wp2_with fail
  go_loopg [7] n (fun f s7 wr => ∃ D : List Nat, D.length + f = n ∧ Hid (ordTo n es D.length = some D ∧ RO w n D s7 wr))
  case atStart => exact ⟨[], by simp, rfl, HR0.out⟩
  case round =>
    clear HR0
    obtain ⟨D, hf, H⟩ := hrel
    obtain ⟨ao, cap, rfl⟩ := H.out.2.out_.shape
    by_cases hlt : D.length < n
    · obtain ⟨f, rfl⟩ : ∃ f, gk = f + 1 := ⟨gk - 1, by omega⟩
      obtain ⟨wo, rfl⟩ : ∃ wo : World, wo = wr := ⟨_, rfl⟩
      have hgt : w.heap.size < wo.heap.size := (H.out.2.done.lt w.heap.size rfl).2
      have HF0 : Hid (RF w n D (.slice ao D.length cap) wo.heap.size (fl n (fun _ => false)) (wo.alloc (.cells (madeCells (Value.bool false).cells n) 4))) := by
        refine ⟨⟨H.out.2.low.alloc H.out.2.low.size _, H.out.2.done.alloc _, H.out.2.out_.alloc _⟩, hgt, ?_⟩
        have := own_made wo 4 boolf false (.bool false) rfl n (by omega) wo.heap.size (Nat.le_refl _)
        rw [fl_const] at this
        exact this
      go_wp2_with fail
      go_loopw [9] (fun s9 wr => ∃ i : Nat, i ≤ n ∧ s9 = .int .i64 (i : Int) ∧ Hid (RF w n D (.slice ao D.length cap) wo.heap.size (fl n (fun k => if k < i then !isIn D k else false)) wr)) (fun s9 _ => n - (intOf s9).toNat)
      case atStart => exact ⟨0, Nat.zero_le _, rfl, by rw [show (fun k => if k < 0 then !isIn D k else false) = (fun _ => false) from funext fun k => if_neg (by omega)]; exact HF0.out⟩
      case round =>
        clear HF0
        obtain ⟨i, hi, rfl, HI⟩ := hrel
        by_cases hin : i < n
        · have c1 := HI.out.ro.done.cell (fl_get (isIn D) hin)
          unfold boolf at c1
          have f1 := HI.out.free.free i
          obtain ⟨z2, c2⟩ : ∃ z, wr.cell? ⟨wo.heap.size, i, none⟩ = some z := ⟨_, HI.out.free.cell (fl_get _ hin)⟩
          have i0 : (0 : Int) ≤ (i : Int) := Int.natCast_nonneg _
          have i1 : (i : Int) < (n : Int) := by omega
          have HST := Lib.hid (HI.out.set i (!isIn D i))
          rw [fl_set] at HST
          have hE := fl_ext (n := n) (f := fun k => if k = i then !isIn D i else if k < i then !isIn D k else false) (g := fun k => if k < i + 1 then !isIn D k else false) (fun k hk => by
            by_cases e : k = i
            · subst e; rw [if_pos rfl, if_pos (by omega)]
            · rw [if_neg e]
              by_cases h : k < i
              · rw [if_pos h, if_pos (by omega)]
              · rw [if_neg h, if_neg (by omega)])
          rw [hE] at HST
          clear hE
          have hgl := (HI.out.free.lt wo.heap.size rfl).2
          go_wp2
          go_roundw
          case rel => exact ⟨i + 1, by omega, by go_num, HST.out⟩
          case measure => simp [intOf]; omega
        · obtain rfl : i = n := by omega
          have HJ0 : Hid (RF w i D (.slice ao D.length cap) wo.heap.size (fl i (frE es D 0)) wr) := by
            have := HI.out
            rw [fl_ext (g := frE es D 0) (fun k hk => by rw [if_pos hk, frE_zero])] at this
            exact this
          clear HI
          go_wp2_with fail
          go_loopw [10] (fun s10 wr => ∃ j : Nat, j ≤ es.length ∧ s10 = .int .i64 (j : Int) ∧ Hid (RF w i D (.slice ao D.length cap) wo.heap.size (fl i (frE es D j)) wr)) (fun s10 _ => es.length - (intOf s10).toNat)
          case atStart => exact ⟨0, Nat.zero_le _, rfl, HJ0.out⟩
          case round =>
            clear HJ0
            obtain ⟨j, hj, rfl, HJ⟩ := hrel
            by_cases hjm : j < es.length
            · obtain ⟨e, he⟩ : ∃ e, es[j]? = some e := ⟨_, List.getElem?_eq_getElem hjm⟩
              obtain ⟨x, y⟩ := e
              obtain ⟨hx, hy⟩ := HG.out.ends j _ he
              simp only at hx hy
              obtain ⟨b, off, rfl, hbl, hc1, hc2⟩ := HG.out.pairs.edge he
              have d1 := (HJ.out.ro.low.cell (p := ⟨b, off + j * 2, none⟩) hbl).trans hc1
              have d2 := (HJ.out.ro.low.cell (p := ⟨b, off + j * 2 + 1, none⟩) hbl).trans hc2
              have c1 := HJ.out.ro.done.cell (fl_get (isIn D) hx)
              unfold boolf at c1
              have f1 := HJ.out.free.free y
              obtain ⟨z2, c2⟩ : ∃ z, wr.cell? ⟨wo.heap.size, y, none⟩ = some z := ⟨_, HJ.out.free.cell (fl_get _ hy)⟩
              have x0 : (0 : Int) ≤ (x : Int) := Int.natCast_nonneg _
              have x1 : (x : Int) < (i : Int) := by omega
              have y0 : (0 : Int) ≤ (y : Int) := Int.natCast_nonneg _
              have y1 : (y : Int) < (i : Int) := by omega
              have j0 : (0 : Int) ≤ (j : Int) := Int.natCast_nonneg _
              have j1 : (j : Int) < (es.length : Int) := by omega
              have HST := Lib.hid (fun k => frE_step he D k)
              clear he hc1 hc2
              by_cases hxD : x ∈ D
              · have hb : isIn D x = true := dec_yes hxD
                rw [hb] at c1
                have HN : Hid (RF w i D (.slice ao D.length cap) wo.heap.size (fl i (frE es D (j + 1))) wr) := by
                  have := HJ.out
                  rw [fl_ext (g := frE es D (j + 1)) (fun k hk => by rw [HST.out, if_neg (fun h => h.2 hxD)])] at this
                  exact this
                clear hb hxD
                go_wp2
                go_roundw
                case rel => exact ⟨j + 1, by omega, by go_num, HN.out⟩
                case measure => simp [intOf]; omega
              · have hb : isIn D x = false := dec_no hxD
                rw [hb] at c1
                have HN := Lib.hid (HJ.out.set y false)
                rw [fl_set, fl_ext (g := frE es D (j + 1)) (fun k hk => by
                  rw [HST.out]
                  by_cases e : k = y
                  · rw [if_pos e, if_pos ⟨e, hxD⟩]
                  · rw [if_neg e, if_neg (fun h => e h.1)])] at HN
                have hgl := (HJ.out.free.lt wo.heap.size rfl).2
                clear hb hxD
                go_wp2
                go_roundw
                case rel => exact ⟨j + 1, by omega, by go_num, HN.out⟩
                case measure => simp [intOf]; omega
            · obtain rfl : j = es.length := by omega
              have HA : Hid (RF w i D (.slice ao D.length cap) wo.heap.size (fl i (avail es D)) wr) := by
                have := HJ.out
                rw [fl_ext (g := avail es D) (fun k hk => frE_all es D k)] at this
                exact this
              clear HJ
              have HS : Hid (ordTo i es (D.length + 1) = match nextFree i es D with | none => none | some k => some (D ++ [k])) := by
                show _ = _
                rw [ordTo, H.out.1]
                rfl
              obtain ⟨w4, rfl⟩ : ∃ w4 : World, w4 = wr := ⟨_, rfl⟩
              go_wp2_with fail
              go_loop [11] (fun s11 => ∃ t : Nat, t ≤ i ∧ s11 = .int .i64 (t : Int) ∧ Hid (∀ j, j < t → avail es D j = false)) (fun s11 => i - (intOf s11).toNat)
              case atStart => exact ⟨0, Nat.zero_le _, rfl, fun j h => by omega⟩
              case round =>
                obtain ⟨t, ht, rfl, HT⟩ := hrel
                by_cases htn : t < i
                · have c1 := HA.out.free.cell (fl_get (avail es D) htn)
                  unfold boolf at c1
                  have t0 : (0 : Int) ≤ (t : Int) := Int.natCast_nonneg _
                  have t1 : (t : Int) < (i : Int) := by omega
                  by_cases hav : avail es D t = true
                  · rw [hav] at c1
                    have f1 := HA.out.ro.done.free t
                    obtain ⟨z2, c2⟩ : ∃ z, w4.cell? ⟨w.heap.size, t, none⟩ = some z := ⟨_, HA.out.ro.done.cell (fl_get _ htn)⟩
                    have HNX := Lib.hid (nextFree_eq htn hav HT.out)
                    have hgl := (HA.out.ro.done.lt w.heap.size rfl).2
                    have hne : ((t : Int) == (i : Int)) = false := beq_no (by omega)
                    have HDN : Hid (Own (w4.setCell ⟨w.heap.size, t, none⟩ (.bool true)) w.heap.size 4 boolf (.slice (some ⟨w.heap.size, 0, none⟩) i i) (fl i (isIn (D ++ [t])))) := by
                      have := HA.out.ro.done.set t true
                      rw [fl_set, fl_ext (g := isIn (D ++ [t])) (fun k hk => by
                        unfold isIn
                        by_cases e : k = t
                        · rw [if_pos e, dec_yes (by simp [e])]
                        · rw [if_neg e]
                          exact decide_eq_decide.2 (by simp [e]))] at this
                      exact this
                    have HOT := Lib.hid (HA.out.ro.out_.only (only_set w4 w.heap.size t (.bool true)) (fun g e e2 => (HA.out.ro.out_.apart HA.out.ro.done (by decide)) g e (e2.trans rfl)))
                    have HLW := Lib.hid (HA.out.ro.low.setCell (p := ⟨w.heap.size, t, none⟩) (Nat.le_refl _) (.bool true))
                    have hlen1 : D.length + 1 ≤ 1099511627776 := by omega
                    obtain ⟨W5, hW5⟩ : ∃ W5, w4.setCell ⟨w.heap.size, t, none⟩ (.bool true) = W5 := ⟨_, rfl⟩
                    rw [hW5] at HDN HOT HLW
                    have hbase := HLW.out.size
                    clear hav
                    go_wp2_with (at_builtin; refine wpList_push W5 rfl _ _ 24 rfl 3 8 elemInt w.heap.size natf _ D t rfl HOT.out rfl rfl hlen1 (by omega) hbase ?_; intro v' w' hown' hg' hat')
                    go_roundg f
                    case measure => omega
                    case rel =>
                      refine ⟨D ++ [t], by simp; omega, ?_, below_grown HLW.out hg' HLW.out.size (fun g e => (HOT.out.lt g e).1), HDN.out.only hg' (fun g e e2 => ?_), hown'⟩
                      · rw [List.length_append, List.length_singleton, HS.out, HNX.out]
                      · exact (HDN.out.apart HOT.out (by decide)) g e e2
                  · have hav' : avail es D t = false := by simpa using hav
                    rw [hav'] at c1
                    have HN : Hid (∀ j, j < t + 1 → avail es D j = false) := fun j hj => by
                      by_cases e : j = t
                      · subst e; exact hav'
                      · exact HT.out j (by omega)
                    clear hav hav'
                    go_wp2
                    go_round
                    case rel => exact ⟨t + 1, by omega, by go_num, HN.out⟩
                    case measure => simp [intOf]; omega
                · obtain rfl : t = i := by omega
                  have HNX := Lib.hid (nextFree_no HT.out)
                  have HR : Hid (orderOf t es = none) := by
                    refine ordTo_none (k := D.length + 1) ?_ t (by omega)
                    rw [HS.out, HNX.out]
                  have hee : ((t : Int) == (t : Int)) = true := by simp
                  go_wp2
                  go_ret2
                  exact ⟨by rw [HR.out]; rfl, HA.out.ro.low⟩
    · have hDn : D.length = n := by omega
      have HR : Hid (orderOf n es = some D) := by
        have := H.out.1
        rw [hDn] at this
        exact this
      clear hf
      have HDn := Lib.hid hDn
      go_wp2
      go_ret2
      exact ⟨by rw [HR.out]; exact ⟨_, rfl, H.out.2.out_⟩, H.out.2.low⟩
end
section
open Go.RowKit
set_option linter.unusedVariables false
attribute [local go_sem ↓] Go.wp_at_zero Go.wp_at_succ

set_option maxRecDepth 100000 in
set_option maxHeartbeats 1000000 in
theorem repeat_zero (v : Value) (c : Int) (w : World) (h : Ints w v [c]) :
    Calls Tryz.prog 108 #[v, .int .i64 0] w fun e w' =>
      (∃ u, e = .returned u ∧ Own w' w.heap.size 3 intf u ([] : List Int)) ∧ Below w.heap.size w w' := by
  obtain ⟨ao, cap, rfl, h⟩ := h
  obtain ⟨b, off, rfl, hbl, hc⟩ := h (by simp)
  clear h hc
  have hmk := fun W => run_make_one (P := Tryz.prog) 24 3 8 (.int .i64 0) Tryz.underlying24 (by kernel_rfl) (by omega) 0 (by omega) W
  have hmc : (madeCells (Value.int .i64 0).cells 0) = #[] := by
    apply Array.ext'
    have := toList_madeCells_one (.int .i64 0) 0
    simpa [Value.cells] using this
  rw [hmc] at hmk
  replace hmk : ∀ W, Sem.run Tryz.prog (Instr.makeSlice 24 (.int .i64 0) (.int .i64 0)) W = .ok (.slice (some ⟨W.heap.size, 0, none⟩) 0 0) (W.alloc (.cells #[] 3)) := fun W => hmk W
  clear hmc
  have hmul := mul_one 0 (by omega)
  have HM : Hid (∀ W, Calls Tryz.prog 135 #[.int .u64 1, .int .u64 0] W fun e w' => e = .returned (.tuple #[.int .u64 0, .int .u64 0]) ∧ W = w') := fun W => hmul W
  clear hmul
  have hB0 : Below w.heap.size w (w.alloc (.cells #[] 3)) := below_new _ _
  have HG0 := Lib.hid (heap_alloc_new w (.cells #[] 3))
  go_enter Tryz.func108, Tryz.ntmps108
  go_wp2_with (first
    | (go_at_call 135; refine (HM.out _).mono ?_; rintro e w9 ⟨rfl, rfl⟩)
    | (refine wpList_copy_nothing (o := ⟨some 33, _, _, _, _, _⟩) rfl (.tmp 31) (.tmp 32) 24 24 rfl 3 Tryz.underlying24 (by kernel_rfl) (some ⟨w.heap.size, 0, none⟩) (some ⟨b, off, none⟩) 0 0 1 cap rfl rfl (by simp) ?_))
  go_loopw [8] (fun s wr => s = .int .i64 0 ∧ wr = w.alloc (.cells #[] 3)) (fun s _ => 0)
  case atStart => exact ⟨rfl, rfl⟩
  case round =>
    obtain ⟨rfl, rfl⟩ := hrel
    go_wp2
    go_ret
    refine ⟨⟨_, rfl, ?_⟩, hB0⟩
    have hg := HG0.out
    exact ⟨by simp, .inr ⟨w.heap.size, 0, _, by simp, Nat.le_refl _, hg, by simp, by unfold maxLen; omega, by simp, by simp⟩⟩

theorem repeat_all (v : Value) (c : Int) (n : Nat) (w : World) (h : Ints w v [c]) (hn : n ≤ 100000) :
    Calls Tryz.prog 108 #[v, .int .i64 (n : Int)] w fun e w' =>
      (∃ u, e = .returned u ∧ Own w' w.heap.size 3 intf u (List.replicate n c)) ∧ Below w.heap.size w w' := by
  by_cases h0 : n = 0
  · subst h0
    exact repeat_zero v c w h
  · exact repeat_any v c n w h (by omega) hn

def badN (n : Int) (x : Int) : Bool := decide (x < 0 ∨ n ≤ x)
def chkN (es : List (Nat × Nat)) (q : List Nat) : Bool × Int :=
  if q.Nodup then (es.all fun e => decide (q.idxOf e.1 < q.idxOf e.2), 0) else (false, 10)
def chkRes (n : Nat) (es : List (Nat × Nat)) (l : List Int) : Bool × Int :=
  if l.length ≠ n then (false, 3) else if l.any (badN n) then (false, 2) else chkN es (l.map Int.toNat)
def placeI (q : List Nat) (k i : Nat) : Int := if i ∈ q.take k then (q.idxOf i : Int) else -1
def placeL (n : Nat) (q : List Nat) (k : Nat) : List Int := (List.range n).map (placeI q k)
theorem placeL_len (n : Nat) (q : List Nat) (k : Nat) : (placeL n q k).length = n := by simp [placeL]
theorem placeL_get {n : Nat} (q : List Nat) (k : Nat) {i : Nat} (hi : i < n) : (placeL n q k)[i]? = some (placeI q k i) := by
  unfold placeL
  rw [List.getElem?_map, List.getElem?_range hi]; rfl
theorem placeL_zero (n : Nat) (q : List Nat) : List.replicate n (-1) = placeL n q 0 := by
  refine List.ext_getElem? fun i => ?_
  by_cases hi : i < n
  · rw [placeL_get q 0 hi, List.getElem?_replicate, if_pos hi]; simp [placeI]
  · rw [List.getElem?_eq_none (by simp; omega), List.getElem?_eq_none (by rw [placeL_len]; omega)]
theorem idxOf_at {q : List Nat} {k i : Nat} (hk : q[k]? = some i) (hno : i ∉ q.take k) : q.idxOf i = k := by
  have hlt := (List.getElem?_eq_some_iff.1 hk).1
  have e : q = q.take k ++ i :: q.drop (k + 1) := by
    have h1 := List.take_append_drop k q
    rw [List.drop_eq_getElem_cons hlt, (List.getElem?_eq_some_iff.1 hk).2] at h1
    exact h1.symm
  rw [e, List.idxOf_append, if_neg hno, List.idxOf_cons_self, List.length_take]
  omega
theorem placeL_step {n : Nat} {q : List Nat} {k i : Nat} (hk : q[k]? = some i) (hno : i ∉ q.take k) : (placeL n q k).set i (k : Int) = placeL n q (k + 1) := by
  have hlt := (List.getElem?_eq_some_iff.1 hk).1
  have ht : q.take (k + 1) = q.take k ++ [i] := by rw [List.take_succ_eq_append_getElem hlt, (List.getElem?_eq_some_iff.1 hk).2]
  refine List.ext_getElem? fun j => ?_
  by_cases hj : j < n
  · rw [placeL_get q (k + 1) hj, List.getElem?_set]
    by_cases e : i = j
    · subst e
      rw [if_pos rfl, if_pos (by rw [placeL_len]; exact hj)]
      unfold placeI
      rw [if_pos (by rw [ht]; simp), idxOf_at hk hno]
    · rw [if_neg e, placeL_get q k hj]
      unfold placeI
      rw [ht]
      by_cases h : j ∈ q.take k
      · rw [if_pos h, if_pos (by simp [h])]
      · rw [if_neg h, if_neg (by simp only [List.mem_append, List.mem_singleton]; rintro (h1 | h1); exact h h1; exact e h1.symm)]
  · rw [List.getElem?_eq_none (by rw [List.length_set, placeL_len]; omega), List.getElem?_eq_none (by rw [placeL_len]; omega)]

set_option maxHeartbeats 400000 in
theorem badN_any (n x : Int) (B : Nat) (w : World) (hB : w.cell? ⟨B, 0, none⟩ = some (.int .i64 n)) :
    Calls Tryz.prog 107 #[.int .i64 x, .pointer (some ⟨B, 0, none⟩)] w fun e w' => e = .returned (.bool (badN n x)) ∧ Below w.heap.size w w' := by
  by_cases h1 : x < 0
  · have E := Lib.hid (show badN n x = true from dec_yes (.inl h1))
    go_enter Tryz.func107, Tryz.ntmps107
    go_wp2
    go_ret
    exact ⟨ret_bool (by first | exact E.out.symm | (rw [E.out]; simp <;> omega)), Below.refl _ _⟩
  · by_cases h2 : n ≤ x
    · have E := Lib.hid (show badN n x = true from dec_yes (.inr h2))
      go_enter Tryz.func107, Tryz.ntmps107
      go_wp2
      go_ret
      exact ⟨ret_bool (by first | exact E.out.symm | (rw [E.out]; simp <;> omega)), Below.refl _ _⟩
    · have E := Lib.hid (show badN n x = false from dec_no (by omega))
      go_enter Tryz.func107, Tryz.ntmps107
      go_wp2
      go_ret
      exact ⟨ret_bool (by first | exact E.out.symm | (rw [E.out]; simp <;> omega)), Below.refl _ _⟩
theorem badN_pred (n : Int) (B : Nat) (l : List Int) (w : World) (hB : w.cell? ⟨B, 0, none⟩ = some (.int .i64 n)) (hlt : B < w.heap.size) : IntPred 107 #[.pointer (some ⟨B, 0, none⟩)] (badN n) l w :=
  ⟨fun xs W => by go_simp, fun x W _ hW => badN_any n x B W ((hW.cell (p := ⟨B, 0, none⟩) hlt).trans hB)⟩

set_option maxHeartbeats 400000 in
theorem chkFn_any (X GA n capA a b : Nat) (za zb : Int) (w : World) (h8 : w.cell? ⟨X, 0, none⟩ = some (.slice (some ⟨GA, 0, none⟩) n capA)) (ha : w.cell? ⟨GA, a, none⟩ = some (.int .i64 za)) (hb : w.cell? ⟨GA, b, none⟩ = some (.int .i64 zb))
    (hX : X < w.heap.size) (hG : GA < w.heap.size) (han : a < n) (hbn : b < n) (hn : n ≤ 100000) :
    Calls Tryz.prog 110 #[.agg #[.int .i64 (a : Int), .int .i64 (b : Int)], .pointer (some ⟨X, 0, none⟩)] w fun e w' => e = .returned (.bool (decide (zb ≤ za))) ∧ Below w.heap.size w w' := by
  have a0 : (0 : Int) ≤ (a : Int) := Int.natCast_nonneg _
  have a1 : (a : Int) < (n : Int) := by omega
  have b0 : (0 : Int) ≤ (b : Int) := Int.natCast_nonneg _
  have b1 : (b : Int) < (n : Int) := by omega
  have c1 := (World.cell?_alloc_lt w (.cells #[.int .i64 (a : Int), .int .i64 (b : Int)] 47) ⟨X, 0, none⟩ hX).trans h8
  have c2 := (World.cell?_alloc_lt w (.cells #[.int .i64 (a : Int), .int .i64 (b : Int)] 47) ⟨GA, a, none⟩ hG).trans ha
  have c3 := (World.cell?_alloc_lt w (.cells #[.int .i64 (a : Int), .int .i64 (b : Int)] 47) ⟨GA, b, none⟩ hG).trans hb
  clear h8 ha hb
  by_cases hz : zb ≤ za
  · have e := dec_yes hz
    go_enter Tryz.func110, Tryz.ntmps110
    go_wp2
    go_quiet (fail)
    go_wp2
    go_ret
    exact ⟨ret_bool (by first | exact e.symm | (rw [e]; simp <;> omega)), below_drewN' (below_new _ _) _⟩
  · have e := dec_no hz
    go_enter Tryz.func110, Tryz.ntmps110
    go_wp2
    go_quiet (fail)
    go_wp2
    go_ret
    exact ⟨ret_bool (by first | exact e.symm | (rw [e]; simp <;> omega)), below_drewN' (below_new _ _) _⟩

set_option maxHeartbeats 400000 in
theorem check_bad (n : Int) (v : Value) (l : List (Int × Int)) (wo : Option Addr) (wl wc : Nat) (w : World) (hp : Pairs w v l) (hl : l.length ≤ 140737488355328) (h : vldD n l = false) :
    Calls Tryz.prog 63 #[.int .i64 n, v, .slice wo wl wc] w fun e w' => e = .returned (.tuple #[.bool false, .int .i64 1]) ∧ Below w.heap.size w w' := by
  have hb0 := below_new w (.cells #[.int .i64 n] 3)
  have HV := Lib.hid (dvalid_any n v l _ (hp.below hb0) hl)
  rw [h] at HV
  clear hp h
  go_enter Tryz.func63, Tryz.ntmps63
  go_wp2_with fail
  refine HV.out.mono ?_
  rintro e w1 ⟨rfl, hb⟩
  go_wp2
  go_ret2
  exact ⟨rfl, bstep hb0 hb⟩

def CheckPost (w : World) (n : Nat) (es : List (Nat × Nat)) (l : List Int) (e : Ending) (w' : World) : Prop :=
  e = .returned (.tuple #[.bool (chkRes n es l).1, .int .i64 (chkRes n es l).2]) ∧ Below w.heap.size w w'
theorem checkPost_of {w w' : World} {n : Nat} {es : List (Nat × Nat)} {l : List Int} {b : Bool} {k : Int} (h : chkRes n es l = (b, k)) (hb : Below w.heap.size w w') : CheckPost w n es l (.returned (.tuple #[.bool b, .int .i64 k])) w' := by
  unfold CheckPost
  rw [h]
  exact ⟨rfl, hb⟩

set_option maxHeartbeats 400000 in
theorem check_size (n : Nat) (v : Value) (es : List (Nat × Nat)) (wo : Option Addr) (wc : Nat) (l : List Int) (w : World) (hg : Dg w n v es) (hl : l.length ≤ 140737488355328) (hne : l.length ≠ n) :
    Calls Tryz.prog 63 #[.int .i64 (n : Int), v, .slice wo l.length wc] w (CheckPost w n es l) := by
  have hb0 := below_new w (.cells #[.int .i64 (n : Int)] 3)
  have HV := Lib.hid (dvalid_any n v (cst es) _ (hg.pairs.below hb0) (by rw [cst_len]; have := hg.m_le; omega))
  rw [hg.ok] at HV
  have HR := Lib.hid (show chkRes n es l = (false, 3) by unfold chkRes; rw [if_pos hne])
  have hq : ((l.length : Int) != (n : Int)) = true := bne_yes (by omega)
  clear hg hne
  go_enter Tryz.func63, Tryz.ntmps63
  go_wp2_with fail
  refine HV.out.mono ?_
  rintro e w1 ⟨rfl, hb⟩
  have c5 : w1.cell? ⟨w.heap.size, 0, none⟩ = some (.int .i64 (n : Int)) := (hb.cell (p := ⟨w.heap.size, 0, none⟩) (by simp)).trans (by rw [World.cell?_alloc_at _ _ _ _ rfl]; rfl)
  go_wp2
  go_ret2
  exact checkPost_of HR.out (bstep hb0 hb)

set_option maxHeartbeats 400000 in
theorem check_range (n : Nat) (v : Value) (es : List (Nat × Nat)) (u : Value) (l : List Int) (w : World) (hg : Dg w n v es) (hw : Ints w u l) (hl : l.length = n) (hr : l.any (badN n) = true) :
    Calls Tryz.prog 63 #[.int .i64 (n : Int), v, u] w (CheckPost w n es l) := by
  have hn60 := hg.n_le
  have hb0 := below_new w (.cells #[.int .i64 (n : Int)] 3)
  have HV := Lib.hid (dvalid_any n v (cst es) _ (hg.pairs.below hb0) (by rw [cst_len]; have := hg.m_le; omega))
  rw [hg.ok] at HV
  have HR := Lib.hid (show chkRes n es l = (false, 2) by unfold chkRes; rw [if_neg (by omega), if_pos hr])
  have HW := Lib.hid hw
  obtain ⟨wo, wcap, rfl, _⟩ := hw
  have HL := Lib.hid hl
  have HB := Lib.hid hr
  have hq : ((l.length : Int) != (n : Int)) = false := bne_no (by omega)
  clear hg hl hr
  go_enter Tryz.func63, Tryz.ntmps63
  go_wp2_with fail
  refine HV.out.mono ?_
  rintro e w1 ⟨rfl, hb⟩
  have hB1 := bstep hb0 hb
  have c5 : w1.cell? ⟨w.heap.size, 0, none⟩ = some (.int .i64 (n : Int)) := (hb.cell (p := ⟨w.heap.size, 0, none⟩) (by simp)).trans (by rw [World.cell?_alloc_at _ _ _ _ rfl]; rfl)
  have hs := hb.size
  simp at hs
  have HC := Lib.hid (anyInts_any _ _ (badN n) _ l w1 (HW.out.below hB1) (by have := HL.out; omega) (badN_pred n w.heap.size l w1 c5 (by omega)))
  rw [HB.out] at HC
  go_wp2_with fail
  refine HC.out.mono ?_
  rintro e w2 ⟨rfl, hb2⟩
  go_wp2
  go_ret2
  exact checkPost_of HR.out (bstep hB1 hb2)
end
section
open Go.RowKit
set_option linter.unusedVariables false
attribute [local go_sem ↓] Go.wp_at_zero Go.wp_at_succ

/-- What the loop keeps: the places. -/
structure CK (W2 : World) (X Y : Nat) (n : Nat) (u : Value) (A : List Int) (wr : World) : Prop where
  low : Below X W2 wr
  box : wr.cell? ⟨Y, 0, none⟩ = some u
  lt : Y < wr.heap.size
  ne : ∀ g, u.ownBlock = some g → g ≠ Y
  own : Own wr X 3 intf u A

set_option maxRecDepth 100000 in
set_option maxHeartbeats 4000000 in
theorem check_main (n : Nat) (v u : Value) (es : List (Nat × Nat)) (q : List Nat) (w : World) (hg : Dg w n v es) (hw : Nats w u q) (hl : q.length = n) (hr : ∀ i ∈ q, i < n) :
    Calls Tryz.prog 63 #[.int .i64 (n : Int), v, u] w fun e w' => e = .returned (.tuple #[.bool (chkN es q).1, .int .i64 (chkN es q).2]) ∧ Below w.heap.size w w' := by
  have hn60 := hg.n_le
  have HG := Lib.hid hg
  have hb0 := below_new w (.cells #[.int .i64 (n : Int)] 3)
  have HV := Lib.hid (dvalid_any n v (cst es) _ (hg.pairs.below hb0) (by rw [cst_len]; have := hg.m_le; omega))
  rw [hg.ok] at HV
  have HW := Lib.hid hw
  obtain ⟨wo, wcap, rfl, _⟩ := hw
  obtain ⟨eao, ecap, rfl, _⟩ := hg.pairs.open_
  have HL := Lib.hid hl
  have HRG := Lib.hid hr
  have hq : ((q.length : Int) != (n : Int)) = false := bne_no (by omega)
  rw [hl] at hq HW ⊢
  clear hg hr
  go_enter Tryz.func63, Tryz.ntmps63
  go_wp2_with fail
  refine HV.out.mono ?_
  rintro e w1 ⟨rfl, hb⟩
  have hB1 := bstep hb0 hb
  have c5 : w1.cell? ⟨w.heap.size, 0, none⟩ = some (.int .i64 (n : Int)) := (hb.cell (p := ⟨w.heap.size, 0, none⟩) (by simp)).trans (by rw [World.cell?_alloc_at _ _ _ _ rfl]; rfl)
  have hs1 := hb.size
  simp at hs1
  have hno : (q.map fun k : Nat => (k : Int)).any (badN n) = false := List.any_eq_false.2 fun x hx => by
    obtain ⟨k, hk, rfl⟩ := List.mem_map.1 hx
    have := HRG.out k hk
    unfold badN
    simp; omega
  have HC : Hid (Calls Tryz.prog 73 #[.slice wo n wcap, .func (.func 107) #[] #[.pointer (some ⟨w.heap.size, 0, none⟩)]] w1 fun e w' => e = .returned (.bool false) ∧ Below w1.heap.size w1 w') := by
    have := anyInts_any _ _ (badN n) _ _ w1 (Nats.ints (HW.out.below hB1)) (by simp; omega) (badN_pred n w.heap.size (q.map fun k : Nat => (k : Int)) w1 c5 (by omega))
    rw [hno] at this
    exact this
  clear HV
  go_wp2_with fail
  refine HC.out.mono ?_
  rintro e w2 ⟨rfl, hb2⟩
  have hB2 := bstep hB1 hb2
  have hs2 := hb2.size
  have d5 := (hb2.cell (p := ⟨w.heap.size, 0, none⟩) (by show w.heap.size < w1.heap.size; omega)).trans c5
  have d6 := (World.cell?_alloc_lt w2 (.cells #[.int .i64 (-1)] 3) ⟨w.heap.size, 0, none⟩ (by simp; omega)).trans d5
  have HRP := Lib.hid (repeat_all (.slice (some ⟨w2.heap.size, 0, none⟩) 1 1) (-1) n (w2.alloc (.cells #[.int .i64 (-1)] 3)) (sl_lit w2 (fun x : Int => .int .i64 x) [-1] #[.int .i64 (-1)] 3 1 rfl rfl) (by omega))
  clear HC c5
  go_wp2_with fail
  refine HRP.out.mono ?_
  rintro e w3 ⟨⟨u, rfl, hu⟩, hb3⟩
  rw [placeL_zero n q] at hu
  obtain ⟨ao, cap, rfl⟩ := hu.shape
  rw [placeL_len] at hu ⊢
  have hB3 := bstep hB2 ((below_new w2 (.cells #[.int .i64 (-1)] 3)).trans (hb3.mono (by simp)))
  have hs3 := hb3.size
  simp at hs3
  have hus : (w2.alloc (.cells #[.int .i64 (-1)] 3)).heap.size = w2.heap.size + 1 := by simp
  rw [hus] at hu
  have HK0 : Hid (CK w3 (w2.heap.size + 1) w3.heap.size n (.slice ao n cap) (placeL n q 0) (w3.alloc (.cells #[.slice ao n cap] 24))) := by
    refine ⟨(below_new w3 _).mono (by omega), ?_, by simp, fun g hg e => ?_, hu.alloc _⟩
    · rw [World.cell?_alloc_at _ _ _ _ rfl]; rfl
    · have := (hu.lt g hg).2; omega
  clear HRP d5 d6 hb3
  go_wp2_with fail
  obtain ⟨wz, rfl⟩ : ∃ wz : World, wz = w3 := ⟨_, rfl⟩
  go_loopw [9, 10, 30] (fun _ _ s30 wr => ∃ k : Nat, k ≤ n ∧ s30 = .int .i64 (k : Int) ∧ Hid (CK wz (w2.heap.size + 1) wz.heap.size n (.slice ao n cap) (placeL n q k) wr ∧ (q.take k).Nodup)) (fun _ _ s30 _ => n - (intOf s30).toNat)
  case atStart => exact ⟨0, Nat.zero_le _, rfl, HK0.out, by simp⟩
  case round =>
    clear HK0
    obtain ⟨k, hk, rfl, HI⟩ := hrel
    by_cases hlt : k < n
    · obtain ⟨i, hi⟩ : ∃ i, q[k]? = some i := ⟨_, List.getElem?_eq_getElem (by have := HL.out; omega)⟩
      have hin := HRG.out i (List.mem_of_getElem? hi)
      obtain ⟨b3, off3, rfl, hb3, hc3⟩ := nats_get HW.out hi
      have hlow := HI.out.1.low
      obtain ⟨g, gcap, hgv, g1, g2, _⟩ := HI.out.1.own.form (by rw [placeL_len]; omega)
      rw [placeL_len] at hgv
      cases hgv
      have f1 := (hlow.cell (p := ⟨b3, off3 + k, none⟩) (by show b3 < w2.heap.size + 1; have := hB2.size; omega)).trans ((hB3.cell (p := ⟨b3, off3 + k, none⟩) hb3).trans hc3)
      have f2 := HI.out.1.box
      have hz := HI.out.1.own.cell (placeL_get q k hin)
      have hfr := HI.out.1.own.free i
      unfold intf at hz
      have k0 : (0 : Int) ≤ (k : Int) := Int.natCast_nonneg _
      have k1 : (k : Int) < (n : Int) := by omega
      have i0 : (0 : Int) ≤ (i : Int) := Int.natCast_nonneg _
      have i1 : (i : Int) < (n : Int) := by omega
      have HQ := Lib.hid hi
      have hHL := HL.out
      have htk : q.take (k + 1) = q.take k ++ [i] := by rw [List.take_succ_eq_append_getElem (by omega), (List.getElem?_eq_some_iff.1 hi).2]
      have HTK := Lib.hid htk
      clear hi hc3 htk
      by_cases hm : i ∈ q.take k
      · have HR := Lib.hid (show chkN es q = (false, 10) by
          unfold chkN
          rw [if_neg (fun hnd => ?_)]
          have h1 : (q.take (k + 1)).Nodup := hnd.sublist (List.take_sublist _ _)
          rw [HTK.out, List.nodup_append] at h1
          exact h1.2.2 i hm i (by simp) rfl)
        have hp : placeI q k i = (q.idxOf i : Int) := by unfold placeI; rw [if_pos hm]
        rw [hp] at hz
        have p0 : (0 : Int) ≤ (q.idxOf i : Int) := Int.natCast_nonneg _
        have HBW := Lib.hid (show Below w.heap.size w wr from hB3.trans (hlow.mono (by omega)))
        clear hp hm
        go_wp2
        go_ret2
        rw [HR.out]
        exact ⟨rfl, HBW.out⟩
      · have hp : placeI q k i = -1 := by unfold placeI; rw [if_neg hm]
        rw [hp] at hz
        have HST := Lib.hid (placeL_step (n := n) HQ.out hm)
        have HND : Hid ((q.take (k + 1)).Nodup) := by
          show List.Nodup _
          rw [HTK.out, List.nodup_append]
          exact ⟨HI.out.2, by simp, fun x hx y hy e => by rw [List.mem_singleton.1 hy] at e; subst e; exact hm hx⟩
        clear hp hm
        go_wp2
        go_roundw
        case rel =>
          refine ⟨k + 1, by omega, by go_num, ?_, HND.out⟩
          have hc := HI.out.1
          have hne := hc.ne g rfl
          rw [← HST.out]
          refine ⟨hc.low.setCell (p := ⟨g, i, none⟩) g2 _, ?_, by simpa using hc.lt, hc.ne, hc.own.set i (k : Int)⟩
          exact (World.cell?_setCell_far _ ⟨g, i, none⟩ ⟨wz.heap.size, 0, none⟩ _ (by simpa using hne)).trans hc.box
        case measure => simp [intOf]; omega
    · obtain rfl : k = n := by omega
      have hnd : q.Nodup := by
        have := HI.out.2
        rwa [List.take_of_length_le (by have := HL.out; omega)] at this
      have hc := HI.out.1
      have hBw := hB3.trans (hc.low.mono (by omega))
      have HCF : Hid (Calls Tryz.prog 109 #[.slice eao es.length ecap, .func (.func 110) #[] #[.pointer (some ⟨wz.heap.size, 0, none⟩)]] wr fun e w' => e = .returned (.bool (!(chkN es q).1)) ∧ Below wr.heap.size wr w') := by
        have hp : PairPred 110 #[.pointer (some ⟨wz.heap.size, 0, none⟩)] (fun x => decide ((q.idxOf x.2.toNat : Int) ≤ (q.idxOf x.1.toNat : Int))) (cst es) wr := by
          refine ⟨fun xs W => by go_simp, fun x W hx hW => ?_⟩
          unfold cst at hx
          obtain ⟨e, he, rfl⟩ := List.mem_map.1 hx
          have hee := HG.out.ends.mem he
          obtain ⟨g, gcap, hgv, g1, g2, _⟩ := hc.own.form (by rw [placeL_len]; omega)
          rw [placeL_len] at hgv
          cases hgv
          have hin : ∀ i, i < k → placeI q k i = (q.idxOf i : Int) := fun i hi => by
            unfold placeI
            rw [List.take_of_length_le (by have := HL.out; omega), if_pos (nodup_full hnd HRG.out HL.out hi)]
          have ha := hc.own.cell (placeL_get q k hee.1)
          have hb' := hc.own.cell (placeL_get q k hee.2)
          rw [hin _ hee.1] at ha
          rw [hin _ hee.2] at hb'
          exact chkFn_any wz.heap.size g k cap e.1 e.2 _ _ W ((hW.cell (p := ⟨wz.heap.size, 0, none⟩) hc.lt).trans hc.box) ((hW.cell (p := ⟨g, e.1, none⟩) g1).trans ha) ((hW.cell (p := ⟨g, e.2, none⟩) g1).trans hb') (by have := hW.size; have := hc.lt; omega) (by have := hW.size; omega) hee.1 hee.2 (by omega)
        have h1 := anyPairs_any _ _ _ _ (cst es) wr (HG.out.pairs.below hBw) (by rw [cst_len]; have := HG.out.m_le; omega) hp
        have h2 : (cst es).any (fun x => decide ((q.idxOf x.2.toNat : Int) ≤ (q.idxOf x.1.toNat : Int))) = !(chkN es q).1 := by
          unfold chkN
          rw [if_pos hnd]
          unfold cst
          rw [List.any_map, Bool.eq_iff_iff]
          simp
        rw [h2] at h1
        exact h1
      have HBW := Lib.hid hBw
      have HQ2 := Lib.hid (show (chkN es q).2 = 0 by unfold chkN; rw [if_pos hnd])
      clear hnd hc hBw
      go_wp2_with fail
      refine HCF.out.mono ?_
      rintro e w9 ⟨rfl, hb9⟩
      go_wp2
      go_ret2
      rw [HQ2.out]
      exact ⟨by simp, bstep HBW.out hb9⟩
theorem check_any (n : Nat) (v u : Value) (es : List (Nat × Nat)) (l : List Int) (w : World) (hg : Dg w n v es) (hw : Ints w u l) (hlw : l.length ≤ 140737488355328) :
    Calls Tryz.prog 63 #[.int .i64 (n : Int), v, u] w (CheckPost w n es l) := by
  by_cases h1 : l.length = n
  · by_cases h2 : l.any (badN n) = true
    · exact check_range n v es u l w hg hw h1 h2
    · have hb : ∀ x ∈ l, 0 ≤ x ∧ x < n := fun x hx => by
        have h2' : l.any (badN n) = false := by simpa using h2
        have := List.any_eq_false.1 h2' x hx
        unfold badN at this
        simp at this
        omega
      have e : (l.map Int.toNat).map (fun k : Nat => (k : Int)) = l := by
        rw [List.map_map]
        have e0 : l = l.map id := by simp
        conv => rhs; rw [e0]
        exact List.map_congr_left fun x hx => by have := (hb x hx).1; simp [Function.comp]; omega
      have hN : Nats w u (l.map Int.toNat) := by
        obtain ⟨ao, cap, rfl, h⟩ := hw
        refine ⟨ao, cap, by simp, fun h0 => ?_⟩
        obtain ⟨b, off, rfl, hlt, hc⟩ := h (by simpa using h0)
        refine ⟨b, off, rfl, hlt, fun k x hx => ?_⟩
        rw [List.getElem?_map] at hx
        obtain ⟨y, hy, rfl⟩ := Option.map_eq_some_iff.1 hx
        rw [hc k y hy]
        have := (hb y (List.mem_of_getElem? hy)).1
        simp only
        rw [Int.toNat_of_nonneg this]
      refine (check_main n v u es _ w hg hN (by simpa using h1) (fun i hi => ?_)).mono ?_
      · obtain ⟨x, hx, rfl⟩ := List.mem_map.1 hi
        have := hb x hx
        omega
      · rintro e' w' ⟨rfl, h4⟩
        have hr : chkRes n es l = ((chkN es (l.map Int.toNat)).1, (chkN es (l.map Int.toNat)).2) := by
          unfold chkRes
          rw [if_neg (by omega), if_neg h2]
        exact checkPost_of hr h4
  · obtain ⟨wo, wc, rfl, _⟩ := hw
    exact check_size n v es wo wc l w hg hlw h1
end
section
open Go.RowKit
set_option linter.unusedVariables false
attribute [local go_sem ↓] Go.wp_at_zero Go.wp_at_succ

def nodesRes (n : Nat) (l : List Int) : Int := if l.length ≠ n then 3 else if l.any (badN n) then 2 else if l.Nodup then 0 else 10

set_option maxRecDepth 100000 in
set_option maxHeartbeats 1000000 in
theorem rnodes_any (n : Nat) (u : Value) (l : List Int) (w : World) (hw : Ints w u l) (hn : n ≤ 100000) (hlw : l.length ≤ 140737488355328) :
    Calls Tryz.prog 111 #[.int .i64 (n : Int), u] w fun e w' => e = .returned (.int .i64 (nodesRes n l)) ∧ Below w.heap.size w w' := by
  obtain ⟨uo, uc, rfl, hi⟩ := hw
  have HI := Lib.hid hi
  clear hi
  by_cases hl : l.length = n
  · have hq : ((l.length : Int) != (n : Int)) = false := bne_no (by omega)
    have HL := Lib.hid hl
    rw [hl] at hq HI ⊢
    clear hl
    go_enter Tryz.func111, Tryz.ntmps111
    go_wp2
    go_loop [5] (fun s5 => ∃ i : Nat, i ≤ n ∧ s5 = .int .i64 (i : Int) ∧ Hid (∀ (j : Nat) y, j < i → l[j]? = some y → badN n y = false)) (fun s5 => n - (intOf s5).toNat)
    case atStart => exact ⟨0, Nat.zero_le _, rfl, fun j y h => by omega⟩
    case round =>
      obtain ⟨i, hin, rfl, HT⟩ := hrel
      by_cases hlt : i < n
      · obtain ⟨b, off, rfl, hbl, hc⟩ := HI.out (by omega)
        obtain ⟨y, hy⟩ : ∃ y, l[i]? = some y := ⟨_, List.getElem?_eq_getElem (by have := HL.out; omega)⟩
        have c1 := hc i y hy
        have HY := Lib.hid hy
        have i0 : (0 : Int) ≤ (i : Int) := Int.natCast_nonneg _
        have i1 : (i : Int) < (n : Int) := by omega
        clear hc hy
        by_cases h1 : y < 0
        · have HR := Lib.hid (show nodesRes n l = 2 by unfold nodesRes; rw [if_neg (by have := HL.out; omega), if_pos (List.any_eq_true.2 ⟨y, List.mem_of_getElem? HY.out, dec_yes (.inl h1)⟩)])
          go_wp2
          go_ret
          exact ⟨ret_int HR.out.symm, Below.refl _ _⟩
        · by_cases h2 : (n : Int) ≤ y
          · have HR := Lib.hid (show nodesRes n l = 2 by unfold nodesRes; rw [if_neg (by have := HL.out; omega), if_pos (List.any_eq_true.2 ⟨y, List.mem_of_getElem? HY.out, dec_yes (.inr h2)⟩)])
            go_wp2
            go_ret
            exact ⟨ret_int HR.out.symm, Below.refl _ _⟩
          · have HN : Hid (∀ (j : Nat) y, j < i + 1 → l[j]? = some y → badN n y = false) := fun j z hj hz => by
              by_cases e : j = i
              · subst e; rw [HY.out] at hz; cases hz; exact dec_no (by omega)
              · exact HT.out j z (by omega) hz
            go_wp2
            go_round
            case rel => exact ⟨i + 1, by omega, by go_num, HN.out⟩
            case measure => simp [intOf]; omega
      · obtain rfl : i = n := by omega
        have HA := Lib.hid (show l.any (badN i) = false from List.any_eq_false.2 fun x hx => by
          obtain ⟨j, hj, rfl⟩ := List.getElem_of_mem hx
          rw [HT.out j _ (by have := HL.out; omega) (List.getElem?_eq_getElem hj)]; simp)
        go_wp2
        go_loopw [6] (fun s6 wr => ∃ k : Nat, k ≤ i ∧ s6 = .int .i64 (k : Int) ∧ Below w.heap.size w wr ∧ Hid ((l.take k).Nodup)) (fun s6 _ => i - (intOf s6).toNat)
        case atStart => exact ⟨0, Nat.zero_le _, rfl, Below.refl _ _, by show List.Nodup _; simp⟩
        case round =>
          obtain ⟨k, hk, rfl, hB, HN⟩ := hrel
          by_cases hlt : k < i
          · obtain ⟨b, off, rfl, hbl, hc⟩ := HI.out (by omega)
            have HC := Lib.hid hc
            obtain ⟨y, hy⟩ : ∃ y, l[k]? = some y := ⟨_, List.getElem?_eq_getElem (by have := HL.out; omega)⟩
            have HY := Lib.hid hy
            clear hc hy
            obtain ⟨wo, rfl⟩ : ∃ wo : World, wo = wr := ⟨_, rfl⟩
            go_wp2
            go_loopw [7] (fun s7 wr => ∃ t : Nat, t ≤ k ∧ s7 = .int .i64 (t : Int) ∧ Below w.heap.size w wr ∧ Hid (∀ (j : Nat) z, j < t → l[j]? = some z → z ≠ y)) (fun s7 _ => k - (intOf s7).toNat)
            case atStart => exact ⟨0, Nat.zero_le _, rfl, hB, fun j y h => by omega⟩
            case round =>
              clear hB
              obtain ⟨t, ht, rfl, hB, HT2⟩ := hrel
              by_cases htk : t < k
              · obtain ⟨z, hz⟩ : ∃ z, l[t]? = some z := ⟨_, List.getElem?_eq_getElem (by have := HL.out; omega)⟩
                have c1 := (hB.cell (p := ⟨b, off + k, none⟩) hbl).trans (HC.out k y HY.out)
                have c2 := (hB.cell (p := ⟨b, off + t, none⟩) hbl).trans (HC.out t z hz)
                have HZ := Lib.hid hz
                have k0 : (0 : Int) ≤ (k : Int) := Int.natCast_nonneg _
                have k1 : (k : Int) < (i : Int) := by omega
                have t0 : (0 : Int) ≤ (t : Int) := Int.natCast_nonneg _
                have t1 : (t : Int) < (i : Int) := by omega
                clear hz
                by_cases hzy : z = y
                · have hb := beq_yes hzy
                  have HR := Lib.hid (show nodesRes i l = 10 by
                    unfold nodesRes
                    rw [if_neg (by have := HL.out; omega), if_neg (by rw [HA.out]; simp), if_neg (fun hnd => ?_)]
                    have h1 := HZ.out
                    have h2 := HY.out
                    rw [hzy] at h1
                    have := (List.getElem?_inj (List.getElem?_eq_some_iff.1 h1).1 hnd).1 (h1.trans h2.symm)
                    omega)
                  clear hzy
                  go_wp2
                  go_quiet (fail)
                  go_wp2
                  go_ret
                  exact ⟨ret_int HR.out.symm, below_drewN' hB _⟩
                · have hb := beq_no hzy
                  have HN2 : Hid (∀ (j : Nat) x, j < t + 1 → l[j]? = some x → x ≠ y) := fun j x hj hx => by
                    by_cases e : j = t
                    · subst e; rw [HZ.out] at hx; cases hx; exact hzy
                    · exact HT2.out j x (by omega) hx
                  clear hzy
                  go_wp2
                  go_quiet (fail)
                  go_wp2
                  go_roundw
                  case rel => exact ⟨t + 1, by omega, by go_num, below_drewN' hB _, HN2.out⟩
                  case measure => simp [intOf]; omega
              · obtain rfl : t = k := by omega
                have HN3 : Hid ((l.take (t + 1)).Nodup) := by
                  show List.Nodup _
                  rw [List.take_succ_eq_append_getElem (by have := HL.out; omega), List.nodup_append]
                  refine ⟨HN.out, by simp, fun x hx z hz e => ?_⟩
                  rw [List.mem_singleton.1 hz, (List.getElem?_eq_some_iff.1 HY.out).2] at e
                  obtain ⟨j, hj, rfl⟩ := List.getElem_of_mem hx
                  rw [List.length_take] at hj
                  refine HT2.out j _ (by omega) (List.getElem?_eq_getElem (by omega)) ?_
                  rw [List.getElem_take] at e
                  exact e
                go_wp2
                go_roundw
                case rel => exact ⟨t + 1, by omega, by go_num, hB, HN3.out⟩
                case measure => simp [intOf]; omega
          · obtain rfl : k = i := by omega
            have HR := Lib.hid (show nodesRes k l = 0 by
              unfold nodesRes
              have := HN.out
              rw [List.take_of_length_le (by have := HL.out; omega)] at this
              rw [if_neg (by have := HL.out; omega), if_neg (by rw [HA.out]; simp), if_pos this])
            go_wp2
            go_ret
            exact ⟨ret_int HR.out.symm, hB⟩
  · have hq : ((l.length : Int) != (n : Int)) = true := bne_yes (by omega)
    have HR := Lib.hid (show nodesRes n l = 3 by unfold nodesRes; rw [if_pos hl])
    clear hl
    go_enter Tryz.func111, Tryz.ntmps111
    go_wp2
    go_ret
    exact ⟨ret_int HR.out.symm, Below.refl _ _⟩

structure RC (w : World) (n : Nat) (A : List Int) (wr : World) : Prop where
  low : Below w.heap.size w wr
  own : Own wr w.heap.size 3 intf (.slice (some ⟨w.heap.size, 0, none⟩) n n) A
end
end Go.Proofs.YthmlejijfgbfbaaGreat
