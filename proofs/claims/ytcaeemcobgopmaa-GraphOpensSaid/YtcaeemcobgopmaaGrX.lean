/-
  Graph: the search of Bridges (the closure that calls itself).
-/
import Derived.Test.YtcaeemcobgopmaaGrV
import Derived.BigRegion
import Derived.Deep.RegionLaw
import Derived.Deep.DeepCutAuto
namespace Go.Proofs.Ytcaeemcobgopmaa
open Go.RowKit
set_option linter.unusedVariables false

theorem DAt.ne {w3 wr : World} {n m : Nat} {d : Ids} {s : DS} (h : DAt w3 n m d wr s) :
    (d.O ≠ d.C ∧ d.O ≠ d.GO ∧ d.O ≠ d.GL ∧ d.O ≠ d.GB) ∧ (d.L ≠ d.C ∧ d.L ≠ d.GO ∧ d.L ≠ d.GL ∧ d.L ≠ d.GB) ∧ (d.GB ≠ d.GO ∧ d.GB ≠ d.GL ∧ d.GB ≠ d.C) := by
  have key : ∀ {b b' : Nat} {t t' : TypeId} {v v' : Value}, Box wr b t v → Box wr b' t' v' → t ≠ t' → b ≠ b' := by
    intro b b' t t' v v' hb hb' ht e
    subst e
    unfold Box at hb hb'
    rw [hb] at hb'
    injection hb' with hb'
    injection hb' with _ hb'
    exact ht hb'
  refine ⟨⟨key h.o h.c (by decide), fun e => ?_, fun e => ?_, fun e => ?_⟩, ⟨key h.l h.c (by decide), fun e => ?_, fun e => ?_, fun e => ?_⟩, ⟨fun e => ?_, fun e => ?_, fun e => ?_⟩⟩
  · exact h.oo.apart_blk h.o (by decide) _ rfl e.symm
  · exact h.ol.apart_blk h.o (by decide) _ rfl e.symm
  · exact h.ob.apart_blk h.o (by decide) _ rfl e.symm
  · exact h.oo.apart_blk h.l (by decide) _ rfl e.symm
  · exact h.ol.apart_blk h.l (by decide) _ rfl e.symm
  · exact h.ob.apart_blk h.l (by decide) _ rfl e.symm
  · exact h.ob.apart h.oo (by decide) _ rfl (by rw [e]; rfl)
  · exact h.ob.apart h.ol (by decide) _ rfl (by rw [e]; rfl)
  · exact h.ob.apart_blk h.c (by decide) _ rfl e

def VisitPost (w3 : World) (n m : Nat) (d : Ids) (s : DS) (e : Ending) (w' : World) : Prop := e = .returned (.tuple #[]) ∧ DAt w3 n m d w' s

set_option maxRecDepth 100000 in
set_option maxHeartbeats 4000000 in
theorem visit_any (w3 : World) (n : Nat) (d : Ids) (ns : List (Nat × Nat)) (rows : List (List Nat)) (U : Nat → Bool) (hn : n ≤ 1000) (hm : ns.length ≤ 4000) (hp : NPairs w3 d.ve ns) (hr : Rows w3 d.vat rows) (he : Ends n ns) (hok : RowOk ns U n rows) :
    ∀ (f v : Nat) (b : Int) (s : DS) (wr : World), v < n → s.ord[v]? = some 0 → SOk n ns.length s → zeros s.ord ≤ f → DAt w3 n ns.length d wr s →
      Calls Try.prog 39 (#[.int .i64 (v : Int), .int .i64 b] ++ d.caps) wr (VisitPost w3 n ns.length d (visitF rows ns f v b s)) := by
  intro f
  induction f with
  | zero => intro v b s wr hv h0 _ hz; have := zeros_pos h0; omega
  | succ f ih =>
    intro v b s wr hv h0 hs hz hD
    have IH := Lib.hid ih
    have HOK := Lib.hid hok
    have HE := Lib.hid he
    have HS := Lib.hid hs
    have HZ := Lib.hid hz
    have H0 := Lib.hid h0
    have HD := Lib.hid hD
    obtain ⟨pe, cape, hve, hpe⟩ := hp.open_
    obtain ⟨pr, capr, hvr, hpr⟩ := id hr
    have HPE := Lib.hid hpe
    have HPR := Lib.hid hpr
    have hcnt : s.cnt ≤ 1000 := by have := hs.cnt; omega
    have c1 := hD.c.cell
    have c2 := hD.c.free
    clear ih hok he hs hz hpe hpr
    obtain ⟨C, O, LB, A, E, V, B, GO, GL, GB, ve, vat⟩ := d
    subst hve
    subst hvr
    unfold natf at c1
    unfold Ids.caps
    go_enter Try.func39, Try.ntmps39
    go_upto_region 0 with fail
    go_cut [] (fun wx => Hid (DAt w3 n ns.length ⟨C, O, LB, A, E, V, B, GO, GL, GB, .slice pe ns.length cape, .slice pr rows.length capr⟩ wx { s with cnt := s.cnt + 1 }))
    case first =>
      go_wp2_with fail
      go_meet
      case rel => exact HD.out.setC (s.cnt + 1)
    case rest =>
      clear c1 c2
      obtain ⟨W1, rfl⟩ : ∃ W1, W1 = wc := ⟨_, rfl⟩
      have H1 := hcut
      clear hcut
      go_upto_region 1 with fail
      have c1 := H1.out.c.cell
      have c2 := H1.out.o.cell
      have c3 := H1.out.l.cell
      obtain ⟨y, hy⟩ : ∃ y, s.low[v]? = some y := ⟨_, List.getElem?_eq_getElem (by rw [HS.out.low]; exact hv)⟩
      have c4 := H1.out.oo.cell (k := v) h0
      have c5 := H1.out.ol.cell (k := v) hy
      have f4 := H1.out.oo.free v
      have f5 := H1.out.ol.free v
      obtain ⟨⟨n1, n2, n3, n4⟩, ⟨n5, n6, n7, n8⟩, n9, n10, n11⟩ := H1.out.ne
      obtain ⟨n12, n13, n14⟩ := H1.out.dis
      simp only at c1 c2 c3 c4 c5 f4 f5 n1 n2 n3 n4 n5 n6 n7 n8 n9 n10 n11 n12 n13 n14
      have n12' := Ne.symm n12
      have n13' := Ne.symm n13
      have n14' := Ne.symm n14
      have z0 : (0 : Int) ≤ (v : Int) := Int.natCast_nonneg _
      have z1 : (v : Int) < (n : Int) := by omega
      unfold natf at c1 c4 c5
      clear hy h0
      go_cut [] (fun wx => Hid (DAt w3 n ns.length ⟨C, O, LB, A, E, V, B, GO, GL, GB, .slice pe ns.length cape, .slice pr rows.length capr⟩ wx (s.enter v)))
      case first =>
        go_region
        all_goals
          go_wp2_with fail
          go_meet
          case rel => exact ((H1.out.setO v (s.cnt + 1)).setL v (s.cnt + 1)).of_below (bdraw 1)
      case rest =>
        clear c1 c2 c3 c4 c5 f4 f5
        obtain ⟨W2, rfl⟩ : ∃ W2, W2 = wc := ⟨_, rfl⟩
        have H2 := hcut
        clear hcut
        obtain ⟨row, hrow⟩ : ∃ row, rows[v]? = some row := ⟨_, List.getElem?_eq_getElem (by rw [HOK.out.1]; exact hv)⟩
        obtain ⟨rb, roff, rfl, hrlt, hrc⟩ := HPR.out (by rw [HOK.out.1]; omega)
        obtain ⟨u, hu, hnr⟩ := hrc v row hrow
        obtain ⟨ao3, cap3, rfl, h3⟩ := hnr
        have hrl := (HOK.out.2 v row hrow).1
        have HROW := Lib.hid hrow
        have H3 := Lib.hid h3
        have c1 := H2.out.a.cell
        have c2 := (H2.out.below.cell (p := ⟨rb, roff + v, none⟩) hrlt).trans hu
        have z2 : (v : Int) < (rows.length : Int) := by have := HOK.out.1; omega
        simp only at c1
        clear hrc hu h3 hrow
        go_wp2_with fail
        clear c1 c2
        go_loopw [29] (fun s29 wr => ∃ j : Nat, s29 = .int .i64 (j : Int) ∧ j ≤ row.length ∧ ∃ sj, Hid (sj = (row.take j).foldl (stepV (visitF rows ns f) ns v b) (s.enter v)) ∧ Hid (DAt w3 n ns.length ⟨C, O, LB, A, E, V, B, GO, GL, GB, .slice pe ns.length cape, .slice (some ⟨rb, roff, none⟩) rows.length capr⟩ wr sj) ∧ Hid (SOk n ns.length sj ∧ Stays (s.enter v) sj)) (fun s29 _ => row.length - (intOf s29).toNat)
        case atStart => exact ⟨0, rfl, Nat.zero_le _, _, rfl, H2.out, (HS.out.enter H0.out).1, Stays.refl _⟩
        case round =>
          obtain ⟨j, rfl, hj, sj, HSJ, HDJ, HSO⟩ := hrel
          clear H2
          by_cases hlt : j < row.length
          · obtain ⟨i, hi⟩ : ∃ i, row[j]? = some i := ⟨_, List.getElem?_eq_getElem hlt⟩
            obtain ⟨b3, off3, rfl, hb3, hc3⟩ := H3.out (by omega)
            have hci := (HDJ.out.below.cell (p := ⟨b3, off3 + j, none⟩) hb3).trans (hc3 j i hi)
            have hui := ((HOK.out.2 v row HROW.out).2 i).1 (List.mem_of_getElem? hi)
            have hil := inc_lt hui.2
            obtain ⟨⟨p, q⟩, hpq⟩ : ∃ e, ns[i]? = some e := ⟨_, List.getElem?_eq_getElem hil⟩
            have hends := HE.out i _ hpq
            obtain ⟨eb, eoff, rfl, heb, hec⟩ := HPE.out (by omega)
            obtain ⟨he1, he2⟩ := hec i _ hpq
            have hd1 := (HDJ.out.below.cell (p := ⟨eb, eoff + i * 2, none⟩) heb).trans he1
            have hd2 := (HDJ.out.below.cell (p := ⟨eb, eoff + i * 2 + 1, none⟩) heb).trans he2
            have hd0 := (HDJ.out.e.below HDJ.out.below).cell
            have hsum := oth_sum hpq hui.2
            have hkl := oth_lt HE.out hui.2
            obtain ⟨k, hk⟩ : ∃ k, oth ns i v = k := ⟨_, rfl⟩
            simp only at hd1 hd2 hsum hends hd0
            rw [hk] at hsum hkl
            have HK := Lib.hid hk
            have HI := Lib.hid hi
            obtain ⟨pq1, pq2, pqn⟩ := hends
            have hkv : k ≠ v := by
              obtain ⟨e, he, hc⟩ := inc_cases hui.2
              rw [hpq] at he
              cases he
              simp only at hc
              rw [hk] at hc
              omega
            have HKV := Lib.hid hkv
            clear hkv pqn
            have HSUM := Lib.hid hsum
            have HUI := Lib.hid hui
            have HTK := Lib.hid (show row.take (j + 1) = row.take j ++ [i] by
              rw [List.take_succ_eq_append_getElem hlt, (List.getElem?_eq_some_iff.1 hi).2])
            have HNX : Hid ((row.take (j + 1)).foldl (stepV (visitF rows ns f) ns v b) (s.enter v) = stepV (visitF rows ns f) ns v b sj i) := by
              rw [HTK.out, List.foldl_append, ← HSJ.out]; rfl
            have i0 : (0 : Int) ≤ (i : Int) := Int.natCast_nonneg _
            have i1 : (i : Int) < (ns.length : Int) := by omega
            have k0 : (0 : Int) ≤ (k : Int) := Int.natCast_nonneg _
            have k1 : (k : Int) < (n : Int) := by omega
            unfold natf at hci
            clear hk hi hc3 hui hpq hec he1 he2 hsum HTK
            go_wp2_with fail
            refine (other_nat p q v k HSUM.out (by omega) (by omega) _).mono ?_
            rintro e w9 ⟨rfl, hb9⟩
            have H9 := Lib.hid (HDJ.out.of_below hb9)
            clear hd0 hd1 hd2 hb9 hci
            by_cases hib : (i : Int) = b
            · have HST : Hid (stepV (visitF rows ns f) ns v b sj i = sj) := by unfold stepV; rw [if_pos hib]; exact rfl
              have e1 := beq_yes hib
              have HIB := Lib.hid hib
              clear hib
              go_wp2
              go_roundw
              case rel => exact ⟨j + 1, by go_num, by omega, sj, by rw [HNX.out, HST.out]; exact rfl, H9.out, HSO.out⟩
              case measure => simp [intOf]; omega
            · have e1 := beq_no hib
              have HIB := Lib.hid hib
              obtain ⟨x, hx⟩ : ∃ x, sj.ord[k]? = some x := ⟨_, List.getElem?_eq_getElem (by rw [HSO.out.1.ord]; exact hkl)⟩
              have c1 := H9.out.o.cell
              have c2 := H9.out.oo.cell hx
              have gx : sj.ord.getD k 0 = x := by simp [List.getD, hx]
              have HGX := Lib.hid gx
              have HX := Lib.hid hx
              simp only at c1 c2
              unfold natf at c2
              clear hib hx gx
              by_cases hx0 : 0 < x
              · have HST : Hid (stepV (visitF rows ns f) ns v b sj i = sj.old v k) := by
                  unfold stepV
                  rw [if_neg HIB.out, HK.out, HGX.out, if_pos hx0]
                  exact rfl
                have hx1 : (0 : Int) < (x : Int) := by omega
                obtain ⟨y, hy⟩ : ∃ y, sj.low[v]? = some y := ⟨_, List.getElem?_eq_getElem (by rw [HSO.out.1.low]; exact hv)⟩
                have c3 := H9.out.l.cell
                have c4 := H9.out.ol.cell hy
                have c5 := H9.out.ol.free v
                have gy : sj.low.getD v 0 = y := by simp [List.getD, hy]
                have HGY := Lib.hid gy
                simp only at c3 c4 c5
                unfold natf at c4
                clear hy gy
                have HOLD : Hid (sj.old v k = { sj with low := sj.low.set v (min y x) }) := by
                  unfold DS.old
                  rw [HGY.out, HGX.out]
                  exact rfl
                go_upto_region 11 with fail
                obtain ⟨mn, hmn⟩ : ∃ mn, min y x = mn := ⟨_, rfl⟩
                rw [hmn] at HOLD
                have HMN := Lib.hid hmn
                clear hmn
                rcases Nat.lt_or_ge y x with hyx | hyx
                · have e2 : (y : Int) < (x : Int) := by omega
                  have e3 : mn = y := by rw [← HMN.out]; omega
                  subst e3
                  go_region
                  all_goals
                    have H5 := Lib.hid ((H9.out.setL v mn).of_below (bdraw 1))
                    go_wp2
                    go_roundw
                    case rel => exact ⟨j + 1, by go_num, by omega, _, by rw [HNX.out, HST.out, HOLD.out]; exact rfl, H5.out, by have := HSO.out; exact ⟨by rw [← HOLD.out]; exact this.1.old, this.2⟩⟩
                    case measure => simp [intOf]; omega
                · rcases Nat.lt_or_ge x y with hxy | hxy
                  · have e2 : (x : Int) < (y : Int) := by omega
                    have e3 : mn = x := by rw [← HMN.out]; omega
                    subst e3
                    go_region
                    all_goals
                      have H5 := Lib.hid ((H9.out.setL v mn).of_below (bdraw 1))
                      go_wp2
                      go_roundw
                      case rel => exact ⟨j + 1, by go_num, by omega, _, by rw [HNX.out, HST.out, HOLD.out]; exact rfl, H5.out, by have := HSO.out; exact ⟨by rw [← HOLD.out]; exact this.1.old, this.2⟩⟩
                      case measure => simp [intOf]; omega
                  · have e4 : x = y := by omega
                    subst e4
                    have e3 : mn = x := by rw [← HMN.out]; omega
                    clear hyx hxy
                    subst e3
                    go_region
                    all_goals
                      have H5 := Lib.hid ((H9.out.setL v mn).of_below (bdraw 1))
                      go_wp2
                      go_roundw
                      case rel => exact ⟨j + 1, by go_num, by omega, _, by rw [HNX.out, HST.out, HOLD.out]; exact rfl, H5.out, by have := HSO.out; exact ⟨by rw [← HOLD.out]; exact this.1.old, this.2⟩⟩
                      case measure => simp [intOf]; omega
              · have hx1 : x = 0 := by omega
                subst hx1
                have HST : Hid (stepV (visitF rows ns f) ns v b sj i = (visitF rows ns f k (i : Int) sj).back v k i) := by
                  unfold stepV
                  rw [if_neg HIB.out, HK.out, HGX.out, if_neg (by omega)]
                  exact rfl
                have c3 := H9.out.v.cell
                simp only at c3
                unfold Ids.caps at c3
                have hz9 : zeros sj.ord ≤ f := by
                  have h1 := (HS.out.enter H0.out).2
                  have h2 := HSO.out.2.1
                  have h3 := HZ.out
                  omega
                have hvis := visitF_ok HE.out HOK.out f k (i : Int) sj hkl HX.out HSO.out.1
                obtain ⟨s', hs'⟩ : ∃ s', visitF rows ns f k (i : Int) sj = s' := ⟨_, rfl⟩
                have hc := IH.out k (i : Int) sj w9 hkl HX.out HSO.out.1 hz9 H9.out
                rw [hs'] at HST hvis hc
                have HC := Lib.hid hc
                have HVIS := Lib.hid hvis
                clear hs' hvis hc hz9
                go_wp2_with fail
                refine HC.out.mono ?_
                rintro e w10 ⟨rfl, hD10⟩
                have H10 := Lib.hid hD10
                clear hD10 c1 c2 c3
                obtain ⟨y, hy⟩ : ∃ y, s'.low[v]? = some y := ⟨_, List.getElem?_eq_getElem (by rw [HVIS.out.1.low]; exact hv)⟩
                obtain ⟨z, hz⟩ : ∃ z, s'.low[k]? = some z := ⟨_, List.getElem?_eq_getElem (by rw [HVIS.out.1.low]; exact hkl)⟩
                obtain ⟨o, ho⟩ : ∃ o, s'.ord[v]? = some o := ⟨_, List.getElem?_eq_getElem (by rw [HVIS.out.1.ord]; exact hv)⟩
                obtain ⟨bb, hbb⟩ : ∃ o, s'.br[i]? = some o := ⟨_, List.getElem?_eq_getElem (by rw [HVIS.out.1.br]; exact hil)⟩
                obtain ⟨mn, hmn⟩ : ∃ mn, min y z = mn := ⟨_, rfl⟩
                have HMN := Lib.hid hmn
                have HBACK : Hid (s'.back v k i = { s' with low := s'.low.set v mn, br := s'.br.set i (decide (o < z)) }) := by
                  have g1 : s'.low.getD v 0 = y := by simp [List.getD, hy]
                  have g2 : s'.low.getD k 0 = z := by simp [List.getD, hz]
                  have g3 : s'.ord.getD v 0 = o := by simp [List.getD, ho]
                  have g4 : (s'.low.set v mn).getD k 0 = z := by simp [List.getD, List.getElem?_set_ne (Ne.symm HKV.out), hz]
                  unfold DS.back
                  simp only [g1, g2, g3, hmn, g4]
                  exact trivial
                have HLO := Lib.hid (show (s'.low.set v mn)[k]? = some z by rw [List.getElem?_set_ne (Ne.symm HKV.out)]; exact hz)
                have HO := Lib.hid ho
                have HBB := Lib.hid hbb
                have c3 := H10.out.l.cell
                have c4 := H10.out.ol.cell hy
                have c4' := H10.out.ol.cell hz
                have c5 := H10.out.ol.free v
                simp only at c3 c4 c4' c5
                unfold natf at c4 c4'
                clear hy hz ho hbb hmn
                go_upto_region 7 with fail
                go_cut [] (fun wx => Hid (DAt w3 n ns.length ⟨C, O, LB, A, E, V, B, GO, GL, GB, .slice (some ⟨eb, eoff, none⟩) ns.length cape, .slice (some ⟨rb, roff, none⟩) rows.length capr⟩ wx { s' with low := s'.low.set v mn }))
                case first =>
                  rcases Nat.lt_or_ge y z with hyx | hyx
                  · have e2 : (y : Int) < (z : Int) := by omega
                    have e3 : mn = y := by rw [← HMN.out]; omega
                    subst e3
                    go_region
                    all_goals
                      go_wp2_with fail
                      go_meet
                      case rel => exact (H10.out.setL v mn).of_below (bdraw 1)
                  · rcases Nat.lt_or_ge z y with hxy | hxy
                    · have e2 : (z : Int) < (y : Int) := by omega
                      have e3 : mn = z := by rw [← HMN.out]; omega
                      subst e3
                      go_region
                      all_goals
                        go_wp2_with fail
                        go_meet
                        case rel => exact (H10.out.setL v mn).of_below (bdraw 1)
                    · have e4 : z = y := by omega
                      subst e4
                      have e3 : mn = z := by rw [← HMN.out]; omega
                      clear hyx hxy
                      subst e3
                      go_region
                      all_goals
                        go_wp2_with fail
                        go_meet
                        case rel => exact (H10.out.setL v mn).of_below (bdraw 1)
                case rest =>
                  clear c3 c4 c4' c5
                  obtain ⟨W5, rfl⟩ : ∃ W5, W5 = wc := ⟨_, rfl⟩
                  have H5 := hcut
                  clear hcut
                  have c1 := H5.out.o.cell
                  have c2 := H5.out.oo.cell HO.out
                  have c3 := H5.out.l.cell
                  have c4 := H5.out.ol.cell HLO.out
                  have c5 := H5.out.b.cell
                  have c6 := H5.out.ob.cell HBB.out
                  have c7 := H5.out.ob.free i
                  simp only at c1 c2 c3 c4 c5 c6 c7
                  unfold natf at c2 c4
                  unfold boolf at c6
                  go_upto_region 8 with fail
                  rcases Nat.lt_or_ge o z with hoz | hoz
                  · have e2 : (o : Int) < (z : Int) := by omega
                    rw [show decide (o < z) = true by simpa using hoz] at HBACK
                    go_region
                    all_goals
                      have H6 := Lib.hid ((H5.out.setB i true).of_below (bdraw 1))
                      go_wp2
                      go_roundw
                      case rel => exact ⟨j + 1, by go_num, by omega, _, by rw [HNX.out, HST.out, HBACK.out]; exact rfl, H6.out, by have := HSO.out; exact ⟨by rw [← HBACK.out]; exact HVIS.out.1.back, by have h9 := this.2.trans HVIS.out.2; exact ⟨h9.1, h9.2⟩⟩⟩
                      case measure => simp [intOf]; omega
                  · have e2 : (z : Int) ≤ (o : Int) := by omega
                    go_region
                    all_goals
                      have H6 := Lib.hid ((H5.out.setB i (decide (o < z))).of_below (bdraw 1))
                      go_wp2
                      go_roundw
                      case rel => exact ⟨j + 1, by go_num, by omega, _, by rw [HNX.out, HST.out, HBACK.out]; exact rfl, H6.out, by have := HSO.out; exact ⟨by rw [← HBACK.out]; exact HVIS.out.1.back, by have h9 := this.2.trans HVIS.out.2; exact ⟨h9.1, h9.2⟩⟩⟩
                      case measure => simp [intOf]; omega
          · have hjr : j = row.length := by omega
            subst hjr
            rw [List.take_length] at HSJ
            have HV : Hid (visitF rows ns (f + 1) v b s = sj) := by
              rw [visitF, show rows.getD v [] = row by simp [List.getD, HROW.out]]
              exact Eq.symm HSJ.out
            go_wp2
            go_end0
            exact ⟨rfl, by rw [HV.out]; exact HDJ.out⟩
end Go.Proofs.Ytcaeemcobgopmaa
