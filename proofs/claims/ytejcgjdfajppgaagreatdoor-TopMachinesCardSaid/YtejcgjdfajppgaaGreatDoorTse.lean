/-
  The site: Do.
-/
import Derived.Test.YtejcgjdfajppgaaGreatDoorTsd
import Derived.Deep.RegionLaw
import Derived.BigRegion
namespace Go.Proofs.YtejcgjdfajppgaaGreatDoor
section
open Go.RowKit
set_option linter.unusedVariables false
set_option linter.unusedSimpArgs false
attribute [local go_sem ↓] Go.wp_at_zero Go.wp_at_succ

theorem moveD_es (d : SiteD) (i : Nat) (f g : Int) : (moveD d i f g).es = d.es ∧ (moveD d i f g).poured = d.poured := by unfold moveD; split <;> exact ⟨rfl, rfl⟩
theorem pourD_es (d : SiteD) : (pourD d).es = d.es := by unfold pourD; split <;> rfl
theorem ActIs.es {d d1 : SiteD} {x : EntD} {er : Int} (h : ActIs d x er d1) : d1.es = d.es := by
  rcases h.is with ⟨i, _, (⟨_, _, rfl⟩ | ⟨_, _, rfl⟩)⟩ | ⟨_, _, _, rfl⟩
  · exact (moveD_es _ _ _ _).1
  · exact (moveD_es _ _ _ _).1
  · exact pourD_es _
/-- What stands ahead of an entry that the site may do. -/
structure DoPre (d : SiteD) (x : EntD) : Prop where
  ok : SiteOk d
  ent : EntOk x
  np : d.poured = false
  day : ∀ y, d.es[d.es.length - 1]? = some y → y.day ≤ x.day
theorem ent_one (x : EntD) : ∀ u ∈ entCells x, u.oneCell' = true := by
  intro u hu
  unfold entCells at hu
  simp at hu
  rcases hu with rfl | rfl | rfl <;> rfl
/-- Behind 's.entries = append(s.entries, x)'. -/
theorem SiteW.pushE {w w5 : World} {base S k : Nat} {d : SiteD} {tv wv ev ev' : Value} {mo : Option Nat} {x : EntD} (h : SiteW w base S d tv wv ev mo k) (hown : OwnN w5 base 57 3 entCells ev' (d.es ++ [x])) (hg : w.grownBy w5 ev.ownBlock) :
    SiteW (w5.setCell ⟨S, 4, none⟩ ev') base S { d with es := d.es ++ [x] } tv wv ev' mo k := by
  have hrow : ∀ g, ev.ownBlock = some g → ∃ cur, w.heap[g]? = some (.cells cur 57 (0, 0)) := by
    intro g hgv
    rcases h.es.2 with ⟨h', _⟩ | ⟨g', cap', cur, h', _, hh, _⟩
    · rw [h'] at hgv; cases hgv
    · rw [h'] at hgv; cases hgv; exact ⟨_, hh⟩
  have hb5 : BlkIs w5 S 83 _ := (hg.block S h.blk.lt (fun e => h.es.apart_blk h.blk (by decide) S e.symm rfl)).trans h.blk
  have hset := only_set w5 S 4 ev'
  have t5 : Own w5 base 9 strv tv d.tags := h.tags.only hg (fun g hgv e => by
    obtain ⟨cur, hr⟩ := hrow g e.symm
    exact h.tags.apart_blk hr (by decide) g hgv rfl)
  have w5' : Own w5 base 3 intv wv d.wh := h.wh.only hg (fun g hgv e => by
    obtain ⟨cur, hr⟩ := hrow g e.symm
    exact h.wh.apart_blk hr (by decide) g hgv rfl)
  refine ⟨hb5.set 4 ev', h.hS, t5.only hset (fun g hgv e => t5.apart_blk hb5 (by decide) g hgv (by cases e; rfl)), w5'.only hset (fun g hgv e => w5'.apart_blk hb5 (by decide) g hgv (by cases e; rfl)), hown.only hset (fun g hgv e => hown.apart_blk hb5 (by decide) g hgv (by cases e; rfl)), ?_⟩
  rcases h.map with e | ⟨B, e, hB, hm⟩
  · exact .inl e
  · have m5 : OMap w5 B k (mapT d.tags k) := hm.only hg (fun e => by
      obtain ⟨cur, hr⟩ := hrow B e.symm
      exact hm.isMap hr rfl)
    exact .inr ⟨B, e, hB, m5.only hset (fun e => m5.isMap hb5 (by cases e; rfl))⟩
/-- The blocks of entries stay, but one. -/
def KeepX (w w1 : World) (r : Option Nat) : Prop := ∀ (g : Nat) cs, w.heap[g]? = some (.cells cs 57 (0, 0)) → some g ≠ r → w1.heap[g]? = w.heap[g]?
def DoPost (base S : Nat) (d1 : SiteD) (ev : Value) (x : EntD) (er : Int) (w : World) (e : Ending) (w' : World) : Prop :=
  e = .returned (.int .i64 er) ∧ Below base w w' ∧ ((er ≠ 0 ∧ SiteV w' base S d1 ev ∧ KeepE w w') ∨ (er = 0 ∧ ∃ ev', SiteV w' base S { d1 with es := d1.es ++ [x] } ev' ∧ KeepX w w' ev.ownBlock ∧ (ev'.ownBlock = ev.ownBlock ∨ ∃ g, w.heap.size ≤ g ∧ ev'.ownBlock = some g)))
theorem keepX_do {w w6 w7 : World} {base S k : Nat} {d : SiteD} {tv wv ev u v2 : Value} {mo : Option Nat} {l : List EntD} (hk : KeepE w w6) (hg : w6.grownBy w7 ev.ownBlock) (hV : SiteW w6 base S d tv wv ev mo k) (_ : OwnN w7 base 57 3 entCells v2 l) : KeepX w (w7.setCell ⟨S, 4, none⟩ u) ev.ownBlock := by
  intro g cs hgc hne
  have h6 := hk g cs hgc
  have h6c := h6.trans hgc
  have h7 := hg.block g (Array.getElem?_eq_some_iff.1 h6c).1 hne
  have hgS : g ≠ S := by
    rintro rfl
    have := hV.blk
    unfold BlkIs at this
    rw [h6c] at this
    injection this with this
    injection this with _ ht
    exact absurd ht (by decide)
  exact (heap_setCell_other _ _ _ _ hgS).trans (h7.trans h6)
theorem fresh_do {w w6 : World} {ev v2 : Value} (h : w.heap.size ≤ w6.heap.size) (hat : v2.ownBlock = ev.ownBlock ∨ ∃ g, w6.drew.heap.size ≤ g ∧ v2.ownBlock = some g) : v2.ownBlock = ev.ownBlock ∨ ∃ g, w.heap.size ≤ g ∧ v2.ownBlock = some g := by
  rcases hat with h1 | ⟨g, h1, h2⟩
  · exact .inl h1
  · exact .inr ⟨g, Nat.le_trans h h1, h2⟩
set_option maxHeartbeats 2000000 in
set_option maxRecDepth 100000 in
theorem sdo_any (base S : Nat) (d d1 : SiteD) (ev : Value) (x : EntD) (er : Int) (w : World) (h : SiteV w base S d ev) (hp : DoPre d x) (hbw : base ≤ w.heap.size) (ha : ActIs d x er d1) :
    Calls Tryz.prog 17 #[.pointer (some ⟨S, 0, none⟩), entv x] w (DoPost base S d1 ev x er w) := by
  obtain ⟨dy, k, nm⟩ := x
  obtain ⟨w0, hw0⟩ : ∃ w0, w.alloc (.cells #[.int .i64 dy, .int .i64 k, .string nm] 57) = w0 := ⟨_, rfl⟩
  obtain ⟨w1, hw1⟩ : ∃ w1, w0.alloc (.cells #[.int .i64 dy, .int .i64 k, .string nm] 57) = w1 := ⟨_, rfl⟩
  have hB0 : Below w.heap.size w w0 := by rw [← hw0]; exact below_new _ _
  have hB1 : Below w.heap.size w w1 := bstep hB0 (by rw [← hw1]; exact below_new _ _)
  have hsz : w0.heap.size = w.heap.size + 1 := by rw [← hw0]; simp
  have BX0 : BlkIs w0 w.heap.size 57 #[.int .i64 dy, .int .i64 k, .string nm] := by rw [← hw0]; exact BlkIs.new _ _ _
  have BX : BlkIs w1 w.heap.size 57 #[.int .i64 dy, .int .i64 k, .string nm] := by rw [← hw1]; exact BX0.alloc _
  have BY : BlkIs w1 (w.heap.size + 1) 57 #[.int .i64 dy, .int .i64 k, .string nm] := by rw [← hw1, ← hsz]; exact BlkIs.new _ _ _
  have HV := Lib.hid (jvalid_one (w.heap.size + 1) 1 ⟨dy, k, nm⟩ w1 hp.ent BY)
  have HBX := Lib.hid BX
  have HB1 := Lib.hid hB1
  have HP := Lib.hid hp
  have HA := Lib.hid ha
  have HH := Lib.hid h
  have c0 := BX0.cell 0
  have c1 := BX0.cell 1
  have c2 := BX0.cell 2
  have l0 := BX0.lt
  clear hB0 hB1 BX0 BX BY h hp ha
  unfold entv
  go_enter Tryz.func17, Tryz.ntmps17
  go_wp2_with fail
  refine HV.out.mono ?_
  rintro e w2 ⟨rfl, hb2⟩
  have HBX2 := Lib.hid (HBX.out.below hb2)
  have HB2 := Lib.hid (bstep HB1.out hb2)
  clear hb2 HV HB1 HBX c0 c1 c2 l0 hw0 hw1 hsz
  obtain ⟨tv, wv, mo, hW⟩ := HH.out
  obtain ⟨ea, ec, rfl⟩ := hW.es.shape
  have hW2 := hW.below HB2.out
  have HW2 := Lib.hid hW2
  have c4 := hW2.blk.cell 4
  have c5 := hW2.blk.cell 5
  have l4 := hW2.blk.lt
  rw [HP.out.np] at c5
  have hen : d.es.length ≤ 100 := HP.out.ok.esz
  have y4 := fun dd os => cell_regrown (hW2.blk.cell 4) dd os
  have y0 := fun dd os => cell_regrown (HBX2.out.cell 0) dd os
  have hlt3 := HBX2.out.lt
  clear hW2
  rcases Nat.eq_zero_or_pos d.es.length with hn | hn
  · rw [hn] at c4 y4
    clear hW
    go_wp2_with fail
    refine wp_region_quiet_below (by kernel_rfl) (by kernel_rfl) ?_
    repeat (go_big_quiet_step ((first
      | fail)))
    refine wpQuiet_nil ?_
    intro _ hw'
    obtain ⟨⟨nq, osq⟩, hw''⟩ := hw'
    subst hw''
    have hbr := below_regrown w2 nq osq
    clear hn
    have HB5 := Lib.hid (bstep HB2.out hbr)
    have HBX5 := Lib.hid (HBX2.out.below hbr)
    have HW5 := Lib.hid (HW2.out.below hbr)
    clear hbr
    generalize Go.Sort.grow (redrawn w2 nq) osq = W5 at *
    clear y4 y0 c4 c5 l4 hlt3 HW2 HBX2
    have c5 := HW5.out.blk.cell 5
    rw [HP.out.np] at c5
    have l5 := HW5.out.blk.lt
    have x0 := HBX5.out.cell 0
    have x1 := HBX5.out.cell 1
    have x2 := HBX5.out.cell 2
    have lx := HBX5.out.lt
    have HAC := Lib.hid (sact_any base S d d1 _ ⟨dy, k, nm⟩ er W5 ⟨_, _, _, HW5.out⟩ HP.out.ok (Nat.le_trans hbw HB5.out.size) HA.out)
    unfold entv at HAC
    simp only at HAC
    go_wp2_with fail
    refine HAC.out.mono ?_
    rintro e w6 ⟨rfl, h6, hb6, hk6⟩
    have HB6 := Lib.hid ((HB5.out.mono hbw).trans hb6)
    have HK6 := Lib.hid (KeepE.trans (KeepE.below HB5.out) hk6)
    have HX6 : Hid (BlkIs w6 w.heap.size 57 #[.int .i64 dy, .int .i64 k, .string nm]) := Lib.hid ((hk6 _ _ HBX5.out).trans HBX5.out)
    have H6 := Lib.hid h6
    clear h6 hb6 hk6 HAC c5 l5 x0 x1 x2 lx
    obtain ⟨er0, her⟩ : ∃ q, er = q := ⟨_, rfl⟩
    have HER := Lib.hid her
    rw [her]
    clear her
    by_cases h0 : er0 = 0
    · subst h0
      obtain ⟨tv1, wv1, mo1, hV⟩ := H6.out
      have hes : d1.es = d.es := HA.out.es
      have HV := Lib.hid hV
      have c4 := hV.blk.cell 4
      have f4 := hV.blk.free 4
      have l4 := hV.blk.lt
      have x0 := HX6.out.cell 0
      have x1 := HX6.out.cell 1
      have x2 := HX6.out.cell 2
      have lx := HX6.out.lt
      clear hV
      have hne : some S ≠ (Value.slice ea d.es.length ec).ownBlock := fun e => HV.out.es.apart_blk HV.out.blk (by decide) S e.symm rfl
      have hownW : OwnN w6.drew base 57 3 entCells (.slice ea d.es.length ec) d1.es := HV.out.es
      have h63 : d1.es.length + 1 ≤ 1099511627776 := by rw [hes]; omega
      have hbase : base ≤ w6.heap.size := Nat.le_trans hbw HB6.out.size
      have h1c := ent_one ⟨dy, k, nm⟩
      have HES := Lib.hid hes
      clear hes
      go_wp2_with fail
      go_region_law
        ((refine step_pushN _ (by rfl) _ _ _ (by rfl) 57 3 32 elemEnt base entCells (.slice ea d.es.length ec) d1.es ⟨dy, k, nm⟩ _ (by rfl) (by rfl) h1c hownW (by rfl) (by rfl) h63 (by omega) (by simp; omega) ?_; intro v2 w7 hown2 hg2 hat2; obtain ⟨ao2, c2, rfl⟩ := hown2.shape; have hfz2 : w7.frozen? ⟨S, 4, none⟩ = false := (hg2.frozen_far ⟨S, 4, none⟩ (by simp; omega) hne).trans f4; have hcl2 := (hg2.cell_far ⟨S, 4, none⟩ (by simp; omega) hne).trans c4))
      all_goals
        have HS := Lib.hid (HV.out.pushE hown2 (undrew hg2))
        have HKX : Hid (KeepX w (w7.setCell ⟨S, 4, none⟩ (.slice ao2 (d1.es ++ [(⟨dy, k, nm⟩ : EntD)]).length c2)) (Value.slice ea d.es.length ec).ownBlock) := Lib.hid (keepX_do HK6.out (undrew hg2) HV.out hown2)
        have HBF := Lib.hid ((below_grown HB6.out (undrew hg2) hbase (fun g e => (HV.out.es.lt g e).1)).setCell (p := ⟨S, 4, none⟩) HV.out.hS (.slice ao2 (d1.es ++ [(⟨dy, k, nm⟩ : EntD)]).length c2))
        have HAT := Lib.hid (fresh_do HB6.out.size hat2)
        rw [List.length_append, List.length_singleton] at HS HKX HBF HAT
        clear hown2 hg2 hat2 hfz2 hcl2
        go_wp2
        go_ret
        exact ⟨by rw [HER.out]; rfl, HBF.out, .inr ⟨HER.out, _, ⟨_, _, _, HS.out⟩, HKX.out, HAT.out⟩⟩
    · go_wp2
      go_ret
      exact ⟨by rw [HER.out]; rfl, HB6.out, .inl ⟨by rw [HER.out]; exact h0, H6.out, HK6.out⟩⟩
  · obtain ⟨z, hz⟩ : ∃ z, d.es[d.es.length - 1]? = some z := ⟨_, List.getElem?_eq_getElem (by omega)⟩
    have hzd := HP.out.day z hz
    simp only at hzd
    have hFl := OwnN.fl ent_len HW2.out.es
    obtain ⟨b, off, hbo, hbl, hcz⟩ := Fl.get hFl hz
    subst hbo
    have cz := hcz 0 _ rfl
    rw [Nat.add_zero] at cz
    have yz := fun dd os => cell_regrown cz dd os
    have hd0 : decide ((d.es.length : Int) > 0) = true := by simp; omega
    have hd2 : decide (0 < d.es.length) = true := by simpa using hn
    have hd3 : decide ((0 : Int) < (d.es.length : Int)) = true := by simp; omega
    have hd1 : decide (dy < z.day) = false := by simp; omega
    have hwn : IntKind.i64.wrap ((d.es.length : Int) - 1) = ((d.es.length - 1 : Nat) : Int) := by rw [IntWalk.i64_in _ (by omega)]; omega
    clear hW hz hFl hcz cz
    go_wp2_with fail
    refine wp_region_quiet_below (by kernel_rfl) (by kernel_rfl) ?_
    repeat (go_big_quiet_step ((first
      | fail)))
    refine wpQuiet_nil ?_
    intro _ hw'
    obtain ⟨⟨nq, osq⟩, hw''⟩ := hw'
    subst hw''
    clear yz hd0 hd2 hd3 hd1 hwn
    have hbr := below_regrown w2 nq osq
    clear hn
    have HB5 := Lib.hid (bstep HB2.out hbr)
    have HBX5 := Lib.hid (HBX2.out.below hbr)
    have HW5 := Lib.hid (HW2.out.below hbr)
    clear hbr
    generalize Go.Sort.grow (redrawn w2 nq) osq = W5 at *
    clear y4 y0 c4 c5 l4 hlt3 HW2 HBX2
    have c5 := HW5.out.blk.cell 5
    rw [HP.out.np] at c5
    have l5 := HW5.out.blk.lt
    have x0 := HBX5.out.cell 0
    have x1 := HBX5.out.cell 1
    have x2 := HBX5.out.cell 2
    have lx := HBX5.out.lt
    have HAC := Lib.hid (sact_any base S d d1 _ ⟨dy, k, nm⟩ er W5 ⟨_, _, _, HW5.out⟩ HP.out.ok (Nat.le_trans hbw HB5.out.size) HA.out)
    unfold entv at HAC
    simp only at HAC
    go_wp2_with fail
    refine HAC.out.mono ?_
    rintro e w6 ⟨rfl, h6, hb6, hk6⟩
    have HB6 := Lib.hid ((HB5.out.mono hbw).trans hb6)
    have HK6 := Lib.hid (KeepE.trans (KeepE.below HB5.out) hk6)
    have HX6 : Hid (BlkIs w6 w.heap.size 57 #[.int .i64 dy, .int .i64 k, .string nm]) := Lib.hid ((hk6 _ _ HBX5.out).trans HBX5.out)
    have H6 := Lib.hid h6
    clear h6 hb6 hk6 HAC c5 l5 x0 x1 x2 lx
    obtain ⟨er0, her⟩ : ∃ q, er = q := ⟨_, rfl⟩
    have HER := Lib.hid her
    rw [her]
    clear her
    by_cases h0 : er0 = 0
    · subst h0
      obtain ⟨tv1, wv1, mo1, hV⟩ := H6.out
      have hes : d1.es = d.es := HA.out.es
      have HV := Lib.hid hV
      have c4 := hV.blk.cell 4
      have f4 := hV.blk.free 4
      have l4 := hV.blk.lt
      have x0 := HX6.out.cell 0
      have x1 := HX6.out.cell 1
      have x2 := HX6.out.cell 2
      have lx := HX6.out.lt
      clear hV
      have hne : some S ≠ (Value.slice (some ⟨b, off, none⟩) d.es.length ec).ownBlock := fun e => HV.out.es.apart_blk HV.out.blk (by decide) S e.symm rfl
      have hownW : OwnN w6.drew base 57 3 entCells (.slice (some ⟨b, off, none⟩) d.es.length ec) d1.es := HV.out.es
      have h63 : d1.es.length + 1 ≤ 1099511627776 := by rw [hes]; omega
      have hbase : base ≤ w6.heap.size := Nat.le_trans hbw HB6.out.size
      have h1c := ent_one ⟨dy, k, nm⟩
      have HES := Lib.hid hes
      clear hes
      go_wp2_with fail
      go_region_law
        ((refine step_pushN _ (by rfl) _ _ _ (by rfl) 57 3 32 elemEnt base entCells (.slice (some ⟨b, off, none⟩) d.es.length ec) d1.es ⟨dy, k, nm⟩ _ (by rfl) (by rfl) h1c hownW (by rfl) (by rfl) h63 (by omega) (by simp; omega) ?_; intro v2 w7 hown2 hg2 hat2; obtain ⟨ao2, c2, rfl⟩ := hown2.shape; have hfz2 : w7.frozen? ⟨S, 4, none⟩ = false := (hg2.frozen_far ⟨S, 4, none⟩ (by simp; omega) hne).trans f4; have hcl2 := (hg2.cell_far ⟨S, 4, none⟩ (by simp; omega) hne).trans c4))
      all_goals
        have HS := Lib.hid (HV.out.pushE hown2 (undrew hg2))
        have HKX : Hid (KeepX w (w7.setCell ⟨S, 4, none⟩ (.slice ao2 (d1.es ++ [(⟨dy, k, nm⟩ : EntD)]).length c2)) (Value.slice (some ⟨b, off, none⟩) d.es.length ec).ownBlock) := Lib.hid (keepX_do HK6.out (undrew hg2) HV.out hown2)
        have HBF := Lib.hid ((below_grown HB6.out (undrew hg2) hbase (fun g e => (HV.out.es.lt g e).1)).setCell (p := ⟨S, 4, none⟩) HV.out.hS (.slice ao2 (d1.es ++ [(⟨dy, k, nm⟩ : EntD)]).length c2))
        have HAT := Lib.hid (fresh_do HB6.out.size hat2)
        rw [List.length_append, List.length_singleton] at HS HKX HBF HAT
        clear hown2 hg2 hat2 hfz2 hcl2
        go_wp2
        go_ret
        exact ⟨by rw [HER.out]; rfl, HBF.out, .inr ⟨HER.out, _, ⟨_, _, _, HS.out⟩, HKX.out, HAT.out⟩⟩
    · go_wp2
      go_ret
      exact ⟨by rw [HER.out]; rfl, HB6.out, .inl ⟨by rw [HER.out]; exact h0, H6.out, HK6.out⟩⟩
end
end Go.Proofs.YtejcgjdfajppgaaGreatDoor
