/-
  The site: its state, and where a bundle is found.
-/
import Derived.Test.YtejcgjdfajppgaaGreatDoorTgr
namespace Go.Proofs.YtejcgjdfajppgaaGreatDoor
section
open Go.RowKit
set_option linter.unusedVariables false
set_option linter.unusedSimpArgs false
attribute [local go_sem ↓] Go.wp_at_zero Go.wp_at_succ

structure EntD where
  day : Int
  kind : Int
  name : ByteArray
def entCells (x : EntD) : List Value := [.int .i64 x.day, .int .i64 x.kind, .string x.name]
def entv (x : EntD) : Value := .agg #[.int .i64 x.day, .int .i64 x.kind, .string x.name]
theorem ent_len (x : EntD) : (entCells x).length = 3 := rfl
theorem elemEnt : ElemN Tryz.prog 80 57 3 32 := elemN_of (z := .agg #[.int .i64 0, .int .i64 0, .string ⟨#[]⟩]) Tryz.underlying80 (by kernel_rfl) rfl (by omega)
theorem elemStr : Elem Tryz.prog 79 9 16 := elem_of (z := .string ⟨#[]⟩) Tryz.underlying79 (by kernel_rfl) rfl
def strv (s : ByteArray) : Value := .string s
structure SiteD where
  tags : List ByteArray
  wh : List Int
  member : ByteArray
  es : List EntD
  poured : Bool
/-- What the map holds of the first tags. -/
def mapT (tags : List ByteArray) : Nat → ByteArray → Option Int
  | 0 => fun _ => none
  | k + 1 => match tags[k]? with | some t => oput (mapT tags k) t k | none => mapT tags k
theorem mapT_snoc {tags : List ByteArray} {k : Nat} {t : ByteArray} (h : tags[k]? = some t) : mapT tags (k + 1) = oput (mapT tags k) t k := by
  show (match tags[k]? with | some t => oput (mapT tags k) t k | none => mapT tags k) = _
  rw [h]
theorem mapT_get {tags : List ByteArray} (hn : tags.Nodup) {i : Nat} {t : ByteArray} (h : tags[i]? = some t) : ∀ k, k ≤ tags.length → mapT tags k t = if i < k then some (i : Int) else none := by
  intro k
  induction k with
  | zero => intro _; rfl
  | succ k ih =>
    intro hk
    have hu : tags[k]? = some tags[k] := List.getElem?_eq_getElem (by omega)
    rw [mapT_snoc hu]
    unfold oput
    by_cases e : t = tags[k]
    · have : i = k := by
        obtain ⟨h1, h2⟩ := List.getElem?_eq_some_iff.1 h
        exact (List.getElem_inj (h₀ := h1) (h₁ := by omega) hn).1 (by rw [h2, ← e])
      subst this
      rw [if_pos e, if_pos (by omega)]
    · rw [if_neg e, ih (by omega)]
      have : i ≠ k := by
        rintro rfl
        rw [hu] at h
        cases h
        exact e rfl
      by_cases h3 : i < k
      · rw [if_pos h3, if_pos (by omega)]
      · rw [if_neg h3, if_neg (by omega)]
def MapIs (w : World) (base : Nat) (m : Option Nat) (tags : List ByteArray) (k : Nat) : Prop := m = none ∨ ∃ B, m = some B ∧ base ≤ B ∧ OMap w B k (mapT tags k)
structure SiteW (w : World) (base S : Nat) (d : SiteD) (tv wv ev : Value) (mo : Option Nat) (k : Nat) : Prop where
  blk : BlkIs w S 83 #[tv, wv, .string d.member, .slice none 0 0, ev, .bool d.poured, .map mo]
  hS : base ≤ S
  tags : Own w base 9 strv tv d.tags
  wh : Own w base 3 intv wv d.wh
  es : OwnN w base 57 3 entCells ev d.es
  map : MapIs w base mo d.tags k
/-- Facts of a site that stay. -/
structure SiteOk (d : SiteD) : Prop where
  nd : d.tags.Nodup
  few : d.tags.length ≤ 19
  len : d.wh.length = d.tags.length
  sz : ∀ t ∈ d.tags, t.size ≤ maxLen
  esz : d.es.length ≤ 100
  rng : ∀ x ∈ d.wh, x = 0 ∨ x = 1 ∨ x = 2
def SiteAt (w : World) (base S : Nat) (d : SiteD) : Prop := ∃ tv wv ev mo, SiteW w base S d tv wv ev mo d.tags.length
section
variable {w w1 : World} {base S k : Nat} {d : SiteD} {tv wv ev : Value} {mo : Option Nat}
theorem SiteW.below (h : SiteW w base S d tv wv ev mo k) (hb : Below w.heap.size w w1) : SiteW w1 base S d tv wv ev mo k :=
  ⟨h.blk.below hb, h.hS, h.tags.below hb, h.wh.below hb, h.es.below hb, by
    rcases h.map with e | ⟨B, e, h1, h2⟩
    · exact .inl e
    · exact .inr ⟨B, e, h1, h2.below hb⟩⟩
theorem OMap.isMap {B n : Nat} {m : ByteArray → Option Int} (h : OMap w B n m) {g : Nat} {cs : Array Value} {t : TypeId} {fr : Nat × Nat} (h2 : w.heap[g]? = some (.cells cs t fr)) : g ≠ B := by
  rintro rfl
  obtain ⟨D, ⟨es, clock, hb, _⟩, _⟩ := h
  rw [h2] at hb
  cases hb
theorem Own.notMap {α : Type} {b : Nat} {e : TypeId} {f : α → Value} {v : Value} {l : List α} (h : Own w b e f v l) {B n : Nat} {m : ByteArray → Option Int} (hm : OMap w B n m) : ∀ g, v.ownBlock = some g → some g ≠ some B := by
  intro g hg he
  rcases h.2 with ⟨rfl, _⟩ | ⟨g1, cap, cur, rfl, _, hh, _⟩
  · cases hg
  · cases hg
    cases he
    exact hm.isMap hh rfl
theorem OwnN.notMap {α : Type} {b : Nat} {e : TypeId} {q : Nat} {f : α → List Value} {v : Value} {l : List α} (h : OwnN w b e q f v l) {B n : Nat} {m : ByteArray → Option Int} (hm : OMap w B n m) : ∀ g, v.ownBlock = some g → some g ≠ some B := by
  intro g hg he
  rcases h.2 with ⟨rfl, _⟩ | ⟨g1, cap, cur, rfl, _, hh, _⟩
  · cases hg
  · cases hg
    cases he
    exact hm.isMap hh rfl
theorem OwnN.apart_blk {α : Type} {b : Nat} {e : TypeId} {q : Nat} {f : α → List Value} {v : Value} {l : List α} {cs : Array Value} {g' : Nat} {e' : TypeId} {fr : Nat × Nat} (h : OwnN w b e q f v l) (h' : w.heap[g']? = some (.cells cs e' fr)) (hne : e ≠ e') : ∀ g, v.ownBlock = some g → g ≠ g' := by
  intro g hg he
  subst he
  rcases h.2 with ⟨rfl, _⟩ | ⟨g1, cap, cur, rfl, _, hh, _⟩
  · cases hg
  · cases hg
    rw [hh] at h'
    injection h' with h'
    injection h' with _ ht
    exact hne ht
/-- The map grows. -/
theorem SiteW.grown {B k' : Nat} (h : SiteW w base S d tv wv ev (some B) k) (hm : OMap w1 B k' (mapT d.tags k')) (hg : w.grownBy w1 (some B)) : SiteW w1 base S d tv wv ev (some B) k' := by
  rcases h.map with e | ⟨B', e, h1, h2⟩
  · cases e
  · cases e
    exact ⟨(hg.block S h.blk.lt (fun e => h2.isMap h.blk (by cases e; rfl))).trans h.blk, h.hS, h.tags.only hg (h.tags.notMap h2), h.wh.only hg (h.wh.notMap h2), h.es.only hg (h.es.notMap h2), .inr ⟨B, rfl, h1, hm⟩⟩
/-- A map is made. -/
theorem SiteW.make (h : SiteW w base S d tv wv ev none k) (hb : base ≤ w.heap.size) : SiteW ((w.setCell ⟨S, 6, none⟩ (.map (some w.heap.size))).alloc (.map #[] 0)) base S d tv wv ev (some w.heap.size) 0 := by
  have hset := only_set w S 6 (.map (some w.heap.size))
  have hm := OMap.new (w.setCell ⟨S, 6, none⟩ (.map (some w.heap.size)))
  have hz : (w.setCell ⟨S, 6, none⟩ (.map (some w.heap.size))).heap.size = w.heap.size := by simp
  rw [hz] at hm
  refine ⟨(h.blk.set 6 _).alloc _, h.hS, (h.tags.only hset (fun g hg e => h.tags.apart_blk h.blk (by decide) g hg (by cases e; rfl))).alloc _, (h.wh.only hset (fun g hg e => h.wh.apart_blk h.blk (by decide) g hg (by cases e; rfl))).alloc _, (h.es.only hset (fun g hg e => h.es.apart_blk h.blk (by decide) g hg (by cases e; rfl))).alloc _, .inr ⟨_, rfl, hb, hm⟩⟩
end
/-- All blocks of entries stay. -/
def KeepE (w w1 : World) : Prop := ∀ (g : Nat) cs, w.heap[g]? = some (.cells cs 57 (0, 0)) → w1.heap[g]? = w.heap[g]?
theorem KeepE.refl (w : World) : KeepE w w := fun g cs h => rfl
theorem KeepE.trans {w w1 w2 : World} (h : KeepE w w1) (h2 : KeepE w1 w2) : KeepE w w2 := fun g cs hg => (h2 g cs ((h g cs hg).trans hg)).trans (h g cs hg)
theorem KeepE.below {w w1 : World} (h : Below w.heap.size w w1) : KeepE w w1 := fun g cs hg => h.block g (Array.getElem?_eq_some_iff.1 hg).1
theorem KeepE.grown {w w1 : World} {r : Option Nat} (h : w.grownBy w1 r) (hr : ∀ (g : Nat) cs, w.heap[g]? = some (.cells cs 57 (0, 0)) → some g ≠ r) : KeepE w w1 := fun g cs hg => h.block g (Array.getElem?_eq_some_iff.1 hg).1 (hr g cs hg)
theorem KeepE.set {w : World} {S : Nat} {cs : Array Value} {t : TypeId} {fr : Nat × Nat} (h : w.heap[S]? = some (.cells cs t fr)) (ht : t ≠ 57) (i : Nat) (u : Value) : KeepE w (w.setCell ⟨S, i, none⟩ u) :=
  KeepE.grown (only_set w S i u) (fun g cs' hg e => by
    cases e
    rw [h] at hg
    injection hg with hg
    injection hg with _ ht'
    exact ht ht')
theorem KeepE.map {w w1 : World} {B n : Nat} {m : ByteArray → Option Int} (h : w.grownBy w1 (some B)) (hm : OMap w B n m) : KeepE w w1 := KeepE.grown h (fun g cs hg e => hm.isMap hg (by cases e; rfl))
/-- A site whose entries lie at ev. -/
def SiteV (w : World) (base S : Nat) (d : SiteD) (ev : Value) : Prop := ∃ tv wv mo, SiteW w base S d tv wv ev mo d.tags.length
theorem SiteV.at_ {w : World} {base S : Nat} {d : SiteD} {ev : Value} (h : SiteV w base S d ev) : SiteAt w base S d := by
  obtain ⟨tv, wv, mo, h⟩ := h
  exact ⟨tv, wv, ev, mo, h⟩
theorem map_nil1 (B : Nat) (w : World) : (binOp BinOp.eql 81 (.map (some B)) (.map none)).run Tryz.prog w = .ok (.bool false) w := by kernel_rfl
theorem map_nil0 (w : World) : (binOp BinOp.eql 81 (.map none) (.map none)).run Tryz.prog w = .ok (.bool true) w := by kernel_rfl
set_option maxHeartbeats 1000000 in
set_option maxRecDepth 100000 in
theorem sfind_any (base S i : Nat) (d : SiteD) (ev : Value) (t : ByteArray) (w : World) (h : SiteV w base S d ev) (hok : SiteOk d) (hi : d.tags[i]? = some t) (hbw : base ≤ w.heap.size) :
    Calls Tryz.prog 84 #[.pointer (some ⟨S, 0, none⟩), .string t] w fun e w' => e = .returned (.tuple #[.int .i64 (i : Int), .bool true]) ∧ SiteV w' base S d ev ∧ Below base w w' ∧ KeepE w w' := by
  obtain ⟨tv, wv, mo, hW⟩ := h
  have hil := (List.getElem?_eq_some_iff.1 hi).1
  have hsz : t.size ≤ 9223372036854775807 := by have := hok.sz t (List.mem_of_getElem? hi); unfold maxLen at this; omega
  have hget := mapT_get hok.nd hi d.tags.length (Nat.le_refl _)
  rw [if_pos hil] at hget
  obtain ⟨ta, tc, rfl⟩ := hW.tags.shape
  have HOK := Lib.hid hok
  have HGET := Lib.hid hget
  have HSZ := Lib.hid hsz
  clear hget hsz hok
  rcases hW.map with rfl | ⟨B, rfl, hB, hm⟩
  · have c0 := hW.blk.cell 0
    have c6 := hW.blk.cell 6
    have f6 := hW.blk.free 6
    have l6 := hW.blk.lt
    have HMK := Lib.hid (hW.make hbw)
    have HS := Lib.hid hW.hS
    have HSB := Lib.hid hW.blk
    have hmm := @run_makeMap Tryz.prog
    have hn0 := map_nil0
    clear hW
    go_enter Tryz.func84, Tryz.ntmps84
    go_wp2_with fail
    obtain ⟨B, hB⟩ : ∃ B, w.heap.size = B := ⟨_, rfl⟩
    obtain ⟨w0, hw0⟩ : ∃ w0, (w.setCell ⟨S, 6, none⟩ (.map (some w.heap.size))).alloc (.map #[] 0) = w0 := ⟨_, rfl⟩
    have HB0 : Hid (Below base w w0) := Lib.hid (by rw [← hw0]; exact ((Below.refl base w).setCell (p := ⟨S, 6, none⟩) HS.out _).alloc (by simpa using hbw) _)
    have HK0 : Hid (KeepE w w0) := Lib.hid (by rw [← hw0]; exact (KeepE.set HSB.out (by decide) _ _).trans (KeepE.below (below_new _ _)))
    rw [hw0, hB] at HMK
    rw [hw0, hB]
    clear c0 c6 f6 l6 hw0
    go_loopw [24] (fun i wr => ∃ k : Nat, k ≤ d.tags.length ∧ i = .int .i64 (k : Int) ∧ SiteW wr base S d (.slice ta d.tags.length tc) wv ev (some B) k ∧ Below base w wr ∧ KeepE w wr) (fun i _ => d.tags.length - (intOf i).toNat)
    case atStart => exact ⟨0, Nat.zero_le _, rfl, HMK.out, HB0.out, HK0.out⟩
    case round =>
      clear HMK HB0 HK0 HSB
      obtain ⟨k, hk, rfl, hW, hBl, hKp⟩ := hrel
      have HKP := Lib.hid hKp
      clear hKp
      have hfew := HOK.out.few
      by_cases hk2 : k < d.tags.length
      · obtain ⟨u, hu⟩ : ∃ u, d.tags[k]? = some u := ⟨_, List.getElem?_eq_getElem hk2⟩
        obtain ⟨g, _, hgo, hgl, _, _⟩ := Own.form hW.tags (by omega)
        cases hgo
        have c0 := hW.tags.cell hu
        unfold strv at c0
        have c6 := hW.blk.cell 6
        have l6 := hW.blk.lt
        rcases hW.map with e | ⟨B', e, hB', hm⟩
        · cases e
        cases e
        have HU := Lib.hid (HOK.out.sz u (List.mem_of_getElem? hu))
        have HSN := Lib.hid (mapT_snoc hu)
        have HW := Lib.hid hW
        have HM := Lib.hid hm
        have HBL := Lib.hid hBl
        clear hW hm hBl hu
        go_wp2_with (at_mapUpdate; refine wpList_oput _ rfl _ _ _ rfl B k _ HM.out (by omega) u (by have := HU.out; unfold maxLen at this; omega) (k : Int) (WalkArith.wf_i64 (by omega)) rfl rfl rfl ?_; intro w5 hmp5 hg5; rw [← HSN.out] at hmp5; have HW5 := Lib.hid (HW.out.grown hmp5 hg5); have HK5 := Lib.hid (HKP.out.trans (KeepE.map hg5 HM.out)); have HB5 := Lib.hid (HBL.out.grown hg5 (Nat.le_trans hbw HBL.out.size) (fun j hj => by cases hj; exact hB')); clear hmp5 hg5)
        go_roundw
        case rel => exact ⟨k + 1, by omega, by go_num, HW5.out, HB5.out, HK5.out⟩
        case measure => simp [intOf]; omega
      · obtain rfl : k = d.tags.length := by omega
        rcases hW.map with e | ⟨B', e, hB', hm⟩
        · cases e
        cases e
        have c6 := hW.blk.cell 6
        have l6 := hW.blk.lt
        have hlk := hm.look HSZ.out
        rw [HGET.out] at hlk
        have HW := Lib.hid hW
        have HBL := Lib.hid hBl
        clear hW hm hBl
        go_wp2
        go_ret2
        exact ⟨rfl, ⟨_, _, _, HW.out⟩, HBL.out, HKP.out⟩
  · have c6 := hW.blk.cell 6
    have l6 := hW.blk.lt
    have hlk := hm.look HSZ.out
    rw [HGET.out] at hlk
    have HW := Lib.hid hW
    have hn1 := map_nil1 B
    clear hW hm
    go_enter Tryz.func84, Tryz.ntmps84
    go_wp2
    go_ret2
    exact ⟨rfl, ⟨_, _, _, HW.out⟩, Below.refl _ _, KeepE.refl _⟩
end
end Go.Proofs.YtejcgjdfajppgaaGreatDoor
