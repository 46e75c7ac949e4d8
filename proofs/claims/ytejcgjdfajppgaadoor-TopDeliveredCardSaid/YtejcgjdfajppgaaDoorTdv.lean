/-
  The site while the yard's entries are done.
-/
import Derived.Test.YtejcgjdfajppgaaDoorTya
namespace Go.Proofs.YtejcgjdfajppgaaDoor
section
open Go.RowKit
set_option linter.unusedVariables false
set_option linter.unusedSimpArgs false

def yardN (l : List BunD) (R : List (List Nat)) (k : Nat) : SiteD := if k ≤ 2 * l.length then yard l R k else yardEnd l R
/-- What holds ahead of the entry k. -/
structure YW (w : World) (sb S G N oc : Nat) (l : List BunD) (R : List (List Nat)) (k : Nat) (wr : World) : Prop where
  bl : Below w.heap.size w wr
  es : OwnN wr w.heap.size 35 3 entCells (.slice (some ⟨G, 0, none⟩) N oc) (entsF l R)
  site : ∃ ev, SiteV wr sb S (yardN l R k) ev ∧ some G ≠ ev.ownBlock
  sz : sb ≤ wr.heap.size
variable {w wr w1 : World} {sb S G N oc k : Nat} {l : List BunD} {R : List (List Nat)}
theorem yardN_low (hk : k ≤ 2 * l.length) : yardN l R k = yard l R k := if_pos hk
theorem yardN_end : yardN l R (2 * l.length + 1) = yardEnd l R := if_neg (by omega)
theorem SiteV.below {base : Nat} {d : SiteD} {ev : Value} (h : SiteV w base S d ev) (hb : Below w.heap.size w w1) : SiteV w1 base S d ev := by
  obtain ⟨tv, wv, mo, h⟩ := h
  exact ⟨tv, wv, mo, h.below hb⟩
theorem YW.below (h : YW w sb S G N oc l R k wr) (hb : Below wr.heap.size wr w1) : YW w sb S G N oc l R k w1 := by
  obtain ⟨ev, hV, hne⟩ := h.site
  exact ⟨bstep h.bl hb, h.es.below hb, ⟨ev, hV.below hb, hne⟩, Nat.le_trans h.sz hb.size⟩
theorem YW.row (h : YW w sb S G N oc l R k wr) : ∃ cur, wr.heap[G]? = some (.cells cur 35 (0, 0)) := by
  rcases h.es.2 with ⟨h', _⟩ | ⟨g', cap', cur, h', _, hh, _⟩
  · cases h'
  · cases h'; exact ⟨_, hh⟩
theorem YW.at_ (h : YW w sb S G N oc l R k wr) : SiteAt wr sb S (yardN l R k) := by
  obtain ⟨ev, hV, _⟩ := h.site
  exact hV.at_
theorem ydo_no (h : YW w sb S G N oc l R k wr) (hY : YardOk l R) {x0 x : EntD} {er : Int} (hx0 : (entsF l R)[k]? = some x0) (he : EntOk x) (hd : x.day = x0.day) (hk : k ≤ 2 * l.length) (ha : ActIs (yard l R k) x er (yard l R k)) (her : er ≠ 0) (hs : w.heap.size ≤ sb) :
    Calls Tryd.prog 10 #[.pointer (some ⟨S, 0, none⟩), entv x] wr fun e w' => e = .returned (.int .i64 er) ∧ YW w sb S G N oc l R k w' ∧ KeepE wr w' := by
  obtain ⟨ev, hV, hne⟩ := h.site
  rw [yardN_low hk] at hV
  refine (sdo_any sb S _ _ ev x er wr hV (yard_pre hY hx0 he hd) h.sz ha).mono fun e w' hp => ?_
  obtain ⟨rfl, hb, hp⟩ := hp
  rcases hp with ⟨_, hS, hK⟩ | ⟨h0, _⟩
  · obtain ⟨cur, hc⟩ := h.row
    exact ⟨rfl, ⟨h.bl.trans (hb.mono hs), h.es.kept (fun g hg => by cases hg; exact hK G cur hc), ⟨ev, by rw [yardN_low hk]; exact hS, hne⟩, Nat.le_trans h.sz hb.size⟩, hK⟩
  · exact absurd h0 her
theorem yardN_go (hY : YardOk l R) {x : EntD} (hx : (entsF l R)[k]? = some x) : ∃ d1, ActIs (yard l R k) x 0 d1 ∧ { d1 with es := d1.es ++ [x] } = yardN l R (k + 1) := by
  have hk := (List.getElem?_eq_some_iff.1 hx).1
  rw [ents_len hY] at hk
  by_cases h1 : k < 2 * l.length
  · obtain ⟨d1, ha, he⟩ := yard_go hY hx h1
    exact ⟨d1, ha, by rw [yardN_low (by omega)]; exact he⟩
  · obtain rfl : k = 2 * l.length := by omega
    rw [ents_pour hY] at hx
    cases hx
    obtain ⟨d1, ha, he⟩ := yard_last hY
    exact ⟨d1, ha, by rw [yardN_end]; exact he⟩
theorem ydo_go (h : YW w sb S G N oc l R k wr) (hY : YardOk l R) {x : EntD} (hx : (entsF l R)[k]? = some x) (hs : w.heap.size ≤ sb) :
    Calls Tryd.prog 10 #[.pointer (some ⟨S, 0, none⟩), entv x] wr fun e w' => e = .returned (.int .i64 0) ∧ YW w sb S G N oc l R (k + 1) w' := by
  have hk := (List.getElem?_eq_some_iff.1 hx).1
  rw [ents_len hY] at hk
  obtain ⟨ev, hV, hne⟩ := h.site
  rw [yardN_low (by omega)] at hV
  obtain ⟨d1, ha, hd1⟩ := yardN_go hY hx
  refine (sdo_any sb S _ d1 ev x 0 wr hV (yard_pre hY hx (ents_ok hY hx) rfl) h.sz ha).mono fun e w' hp => ?_
  obtain ⟨rfl, hb, hp⟩ := hp
  rcases hp with ⟨h0, _⟩ | ⟨_, ev', hS, hK, hat⟩
  · exact absurd rfl h0
  · obtain ⟨cur, hc⟩ := h.row
    have hlt := (Array.getElem?_eq_some_iff.1 hc).1
    refine ⟨rfl, ⟨h.bl.trans (hb.mono hs), h.es.kept (fun g hg => by cases hg; exact hK G cur hc hne), ⟨ev', by rw [← hd1]; exact hS, ?_⟩, Nat.le_trans h.sz hb.size⟩⟩
    rcases hat with e | ⟨g, hg, e⟩
    · rw [e]; exact hne
    · rw [e]
      intro e2
      cases e2
      omega
theorem YW.start {ev : Value} (hb : Below w.heap.size w wr) (he : OwnN wr w.heap.size 35 3 entCells (.slice (some ⟨G, 0, none⟩) N oc) (entsF l R)) (hS : SiteV wr sb S (siteOf l mB) ev) (hne : some G ≠ ev.ownBlock) (hs : sb ≤ wr.heap.size) : YW w sb S G N oc l R 0 wr :=
  ⟨hb, he, ⟨ev, by rw [yardN_low (by omega), yard_zero]; exact hS, hne⟩, hs⟩
end
end Go.Proofs.YtejcgjdfajppgaaDoor
