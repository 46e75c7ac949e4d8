/-
  site.New.
-/
import Derived.Test.YtejcgjdfajppgaaGreatDoorTse
namespace Go.Proofs.YtejcgjdfajppgaaGreatDoor
section
open Go.RowKit
set_option linter.unusedVariables false
set_option linter.unusedSimpArgs false
attribute [local go_sem ↓] Go.wp_at_zero Go.wp_at_succ

/-- The tags of valid bundles are different. -/
theorem tags_nodup {l : List BunD} (h : bunsOk l = true) : (l.map BunD.tag).Nodup := by
  rw [List.nodup_iff_pairwise_ne, List.pairwise_map, List.pairwise_iff_getElem]
  intro i j hi hj hij e
  have h1 := (buns_all h).2 j l[j] (List.getElem?_eq_getElem hj)
  unfold bun1 at h1
  simp only [Bool.and_eq_true, Bool.not_eq_true'] at h1
  have h2 := h1.2.2.1
  unfold seenT at h2
  rw [List.any_eq_false] at h2
  refine h2 l[i] ?_ (by simpa using e)
  rw [List.mem_take_iff_getElem]
  exact ⟨i, by omega, rfl⟩
/-- A site without entries. -/
def siteOf (l : List BunD) (m : ByteArray) : SiteD := ⟨l.map BunD.tag, List.replicate l.length 0, m, [], false⟩
theorem siteOf_ok {l : List BunD} (m : ByteArray) (h : bunsOk l = true) (hl : l.length ≤ 19) (hf : FitU l) : SiteOk (siteOf l m) := by
  refine ⟨tags_nodup h, by simp [siteOf]; exact hl, by simp [siteOf], fun t ht => ?_, by simp [siteOf], fun x hx => ?_⟩
  · obtain ⟨b, hb, rfl⟩ := List.mem_map.1 ht
    exact (hf b hb).1
  · exact .inl (List.eq_of_mem_replicate hx)
set_option maxHeartbeats 1000000 in
set_option maxRecDepth 100000 in
theorem snew_bad (v : Value) (l : List BunD) (nm : ByteArray) (w : World) (hp : Buns w v l) (hl : l.length ≤ 19) (hf : FitU l) (hb : bunsOk l = false) :
    Calls Tryz.prog 15 #[v, .string nm] w fun e w' => e = .returned (.tuple #[.pointer none, .int .i64 1]) ∧ Below w.heap.size w w' := by
  have HV := Lib.hid (bvalid_any v l w hp (by omega) hf)
  rw [hb] at HV
  clear hp hb
  go_enter Tryz.func15, Tryz.ntmps15
  go_wp2_with fail
  refine HV.out.mono ?_
  rintro e w1 ⟨rfl, hb1⟩
  go_wp2
  go_ret2
  exact ⟨rfl, hb1⟩
/-- Behind 's.tags = append(s.tags, t)'. -/
theorem SiteW.pushT {w w5 : World} {base S k : Nat} {d : SiteD} {tv wv ev tv' : Value} {t : ByteArray} (h : SiteW w base S d tv wv ev none k) (hown : Own w5 base 9 strv tv' (d.tags ++ [t])) (hg : w.grownBy w5 tv.ownBlock) :
    SiteW (w5.setCell ⟨S, 0, none⟩ tv') base S { d with tags := d.tags ++ [t] } tv' wv ev none k := by
  have hrow : ∀ g, tv.ownBlock = some g → ∃ cur, w.heap[g]? = some (.cells cur 9 (0, 0)) := by
    intro g hgv
    rcases h.tags.2 with ⟨h', _⟩ | ⟨g', cap', cur, h', _, hh, _⟩
    · rw [h'] at hgv; cases hgv
    · rw [h'] at hgv; cases hgv; exact ⟨_, hh⟩
  have hb5 : BlkIs w5 S 83 _ := (hg.block S h.blk.lt (fun e => h.tags.apart_blk h.blk (by decide) S e.symm rfl)).trans h.blk
  have hset := only_set w5 S 0 tv'
  have w5' : Own w5 base 3 intv wv d.wh := h.wh.only hg (fun g hgv e => by
    obtain ⟨cur, hr⟩ := hrow g e.symm
    exact h.wh.apart_blk hr (by decide) g hgv rfl)
  have e5 : OwnN w5 base 57 3 entCells ev d.es := h.es.only hg (fun g hgv e => by
    obtain ⟨cur, hr⟩ := hrow g e.symm
    exact h.es.apart_blk hr (by decide) g hgv rfl)
  exact ⟨hb5.set 0 tv', h.hS, hown.only hset (fun g hgv e => hown.apart_blk hb5 (by decide) g hgv (by cases e; rfl)), w5'.only hset (fun g hgv e => w5'.apart_blk hb5 (by decide) g hgv (by cases e; rfl)), e5.only hset (fun g hgv e => e5.apart_blk hb5 (by decide) g hgv (by cases e; rfl)), .inl rfl⟩
def siteK (l : List BunD) (m : ByteArray) (k : Nat) : SiteD := ⟨(l.take k).map BunD.tag, List.replicate l.length 0, m, [], false⟩
theorem siteK_snoc {l : List BunD} {m : ByteArray} {k : Nat} {x : BunD} (h : l[k]? = some x) : siteK l m (k + 1) = { siteK l m k with tags := (siteK l m k).tags ++ [x.tag] } := by
  unfold siteK
  rw [List.take_add_one, h]
  simp
set_option maxHeartbeats 1000000 in
set_option maxRecDepth 100000 in
theorem snew_good (v : Value) (l : List BunD) (nm : ByteArray) (w : World) (hp : Buns w v l) (hl : l.length ≤ 19) (hf : FitU l) (hb : bunsOk l = true) (hn : nameB nm = true) (hz : nm.size ≤ maxLen) :
    Calls Tryz.prog 15 #[v, .string nm] w fun e w' => ∃ S base, e = .returned (.tuple #[.pointer (some ⟨S, 0, none⟩), .int .i64 0]) ∧ w.heap.size ≤ base ∧ base ≤ w'.heap.size ∧ SiteV w' base S (siteOf l nm) (.slice none 0 0) ∧ Below w.heap.size w w' := by
  have HV := Lib.hid (bvalid_any v l w hp (by omega) hf)
  rw [hb] at HV
  have HN := Lib.hid (fun W => name_any nm W hz)
  rw [hn] at HN
  obtain ⟨ao, cap, rfl⟩ := hp.at_
  have HP := Lib.hid hp
  clear hp hb
  have hmk := fun W => run_make_one (P := Tryz.prog) 23 3 8 (.int .i64 0) Tryz.underlying23 (by kernel_rfl) (by omega) l.length (by omega) W
  go_enter Tryz.func15, Tryz.ntmps15
  go_wp2_with (first
    | (go_at_call 41; with_reducible refine HV.out.mono ?_; rintro e w1 ⟨rfl, hb1⟩)
    | (go_at_call 24; with_reducible refine (HN.out _).mono ?_; rintro e w9 ⟨rfl, rfl⟩))
  obtain ⟨B, hB⟩ : ∃ B, w1.heap.size = B := ⟨_, rfl⟩
  obtain ⟨w2, hw2⟩ : ∃ w2, (w1.alloc (.cells (madeCells #[.int .i64 0] l.length) 3)).alloc (.cells #[.slice none 0 0, .slice (some ⟨w1.heap.size, 0, none⟩) l.length l.length, .string nm, .slice none 0 0, .slice none 0 0, .bool false, .map none] 83) = w2 := ⟨_, rfl⟩
  have HS0 : Hid (SiteW w2 B (B + 1) (siteK l nm 0) (.slice none 0 0) (.slice (some ⟨B, 0, none⟩) l.length l.length) (.slice none 0 0) none 0) := by
    rw [← hw2, ← hB]
    exact Lib.hid ⟨BlkIs.new1 w1 _ _ _, Nat.le_succ _, Own.nil _ _ _ _, by
      have := (own_made w1 3 intv 0 (.int .i64 0) rfl l.length (by omega) w1.heap.size (Nat.le_refl _)).alloc (.cells #[.slice none 0 0, .slice (some ⟨w1.heap.size, 0, none⟩) l.length l.length, .string nm, .slice none 0 0, .slice none 0 0, .bool false, .map none] 83)
      exact this, OwnN.nil _ _ _ _ _, .inl rfl⟩
  have HB2 : Hid (Below w.heap.size w w2) := by rw [← hw2]; exact Lib.hid ((hb1.alloc hb1.size _).alloc (Nat.le_trans hb1.size (by simp)) _)
  have HBs : Hid (w.heap.size ≤ B ∧ B ≤ w2.heap.size) := by rw [← hw2, ← hB]; exact Lib.hid ⟨hb1.size, by simp; omega⟩
  (try rw [hw2])
  (try rw [hB])
  clear hb1 HV hmk hw2
  clear hB
  go_loopw [25] (fun i wr => ∃ (k : Nat) (tv : Value), k ≤ l.length ∧ i = .int .i64 (k : Int) ∧ Hid (SiteW wr B (B + 1) (siteK l nm k) tv (.slice (some ⟨B, 0, none⟩) l.length l.length) (.slice none 0 0) none 0) ∧ Hid (Below w.heap.size w wr ∧ B ≤ wr.heap.size)) (fun i _ => l.length - (intOf i).toNat)
  case atStart => exact ⟨0, _, Nat.zero_le _, rfl, HS0, Lib.hid ⟨HB2.out, HBs.out.2⟩⟩
  case round =>
    clear HS0 HB2
    obtain ⟨k, tv, hk, rfl, HS, HBL⟩ := hrel
    by_cases hk2 : k < l.length
    · obtain ⟨x, hx⟩ : ∃ x, l[k]? = some x := ⟨_, List.getElem?_eq_getElem hk2⟩
      obtain ⟨b, off, rfl, hbl, d0, d1, d2, d3⟩ := buns_get (HP.out.below HBL.out.1) hx
      have HX := Lib.hid hx
      have z0 : (0 : Int) ≤ (k : Int) := Int.natCast_nonneg _
      have z1 : (k : Int) < (l.length : Int) := by omega
      clear hx
      go_wp2_with fail
      obtain ⟨w5, hw5⟩ : ∃ w5, wr.alloc (.cells #[.string x.tag, .string x.mark, .int .i64 x.count, .int .i64 x.mass] 73) = w5 := ⟨_, rfl⟩
      obtain ⟨g, hg0⟩ : ∃ g, wr.heap.size = g := ⟨_, rfl⟩
      have hb5 : Below wr.heap.size wr w5 := by rw [← hw5]; exact below_new _ _
      have BX : BlkIs w5 g 73 #[.string x.tag, .string x.mark, .int .i64 x.count, .int .i64 x.mass] := by rw [← hw5, ← hg0]; exact BlkIs.new _ _ _
      have h5 := HS.out.below hb5
      have HS5 := Lib.hid h5
      have HBL5 : Hid (Below w.heap.size w w5 ∧ B ≤ w5.heap.size) := Lib.hid ⟨bstep HBL.out.1 hb5, Nat.le_trans HBL.out.2 hb5.size⟩
      have x0 := BX.cell 0
      have lx := BX.lt
      have c0 := h5.blk.cell 0
      have f0 := h5.blk.free 0
      have l0 := h5.blk.lt
      have hne : some (B + 1) ≠ tv.ownBlock := fun e => HS5.out.tags.apart_blk HS5.out.blk (by decide) (B + 1) e.symm rfl
      have hownW : Own w5.drew B 9 strv tv (siteK l nm k).tags := HS5.out.tags
      have h63 : (siteK l nm k).tags.length + 1 ≤ 1099511627776 := by
        unfold siteK
        rw [List.length_map, List.length_take]
        omega
      have hbase : B ≤ w5.heap.size := HBL5.out.2
      clear h5 BX HS HBL d0 d1 d2 d3 hbl hb5
      (try rw [hw5])
      (try rw [hg0])
      clear hw5 hg0
      go_region_law
        ((refine step_push _ (by rfl) _ _ _ (by rfl) 9 16 elemStr B strv tv (siteK l nm k).tags x.tag (by rfl) hownW (by rfl) (by rfl) h63 (by omega) (by simp; omega) ?_; intro v2 w7 hown2 hg2 hat2; obtain ⟨ao2, c2, rfl⟩ := hown2.shape; have hfz2 : w7.frozen? ⟨B + 1, 0, none⟩ = false := (hg2.frozen_far ⟨B + 1, 0, none⟩ (by simp; omega) hne).trans f0; have hcl2 := (hg2.cell_far ⟨B + 1, 0, none⟩ (by simp; omega) hne).trans c0))
      all_goals
        have HS7 := Lib.hid (HS5.out.pushT hown2 (undrew hg2))
        have HBF : Hid (Below w.heap.size w (w7.setCell ⟨B + 1, 0, none⟩ (.slice ao2 ((siteK l nm k).tags ++ [x.tag]).length c2))) := Lib.hid ((below_grown HBL5.out.1 (undrew hg2) HBL5.out.1.size (fun g e => Nat.le_trans HBs.out.1 (HS5.out.tags.lt g e).1)).setCell (p := ⟨B + 1, 0, none⟩) (Nat.le_trans HBs.out.1 (Nat.le_succ _)) _)
        have HSZ : Hid (B ≤ (w7.setCell ⟨B + 1, 0, none⟩ (.slice ao2 ((siteK l nm k).tags ++ [x.tag]).length c2)).heap.size) := Lib.hid (by
          have := (undrew hg2).size
          simp
          omega)
        have HK := Lib.hid (siteK_snoc (m := nm) HX.out)
        rw [List.length_append, List.length_singleton] at HS7 HBF HSZ
        clear hown2 hg2 hat2 hfz2 hcl2 hne hownW h63 hbase x0 lx c0 f0 l0
        go_wp2
        go_roundw
        case rel => exact ⟨k + 1, _, by omega, by go_num, by rw [HK.out]; exact HS7, Lib.hid ⟨HBF.out, HSZ.out⟩⟩
        case measure => simp [intOf]; omega
    · obtain rfl : k = l.length := by omega
      have HE := Lib.hid (show siteK l nm l.length = siteOf l nm by unfold siteK siteOf; rw [List.take_length])
      go_wp2
      go_ret2
      exact ⟨B + 1, B, rfl, HBs.out.1, HBL.out.2, by rw [← HE.out]; exact ⟨tv, _, none, ⟨HS.out.blk, HS.out.hS, HS.out.tags, HS.out.wh, HS.out.es, .inl rfl⟩⟩, HBL.out.1⟩
end
end Go.Proofs.YtejcgjdfajppgaaGreatDoor
