/-
  clash.Nearest.
-/
import Derived.Test.YtpiigmhbbcjamaaGreatCsi
namespace Go.Proofs.YtpiigmhbbcjamaaGreat
section
open Go.RowKit
set_option linter.unusedVariables false
set_option linter.unusedSimpArgs false
attribute [local go_sem ↓] Go.wp_at_zero Go.wp_at_succ
abbrev clA (x : ClD) : Array Value := #[.int .i64 x.a, .int .i64 x.b, .int .i64 x.p.x, .int .i64 x.p.y, .int .i64 x.p.z, .int .i64 x.q.x, .int .i64 x.q.y, .int .i64 x.q.z]
structure NeB (w1 : World) (s : ClD) (wr : World) : Prop where
  below : Below w1.heap.size w1 wr
  best : BlkIs wr w1.heap.size 45 (clA s)
theorem NeB.after {w1 wr w' : World} {s : ClD} (h : NeB w1 s wr) (hb : Below wr.heap.size wr w') : NeB w1 s w' := ⟨bstep h.below hb, h.best.below hb⟩
structure NeP (w1 : World) (s : ClD) (g : Nat) (P Q : Pt) (wr : World) : Prop where
  nb : NeB w1 s wr
  bp : BlkIs wr g 43 #[.int .i64 P.x, .int .i64 P.y, .int .i64 P.z]
  bq : BlkIs wr (g + 1) 43 #[.int .i64 Q.x, .int .i64 Q.y, .int .i64 Q.z]
theorem NeP.after {w1 wr w' : World} {s : ClD} {g : Nat} {P Q : Pt} (h : NeP w1 s g P Q wr) (hb : Below wr.heap.size wr w') : NeP w1 s g P Q w' := ⟨h.nb.after hb, h.bp.below hb, h.bq.below hb⟩
theorem NeP.put {w1 wr w' : World} {s s' : ClD} {g : Nat} {P Q : Pt} (h : NeP w1 s g P Q wr) (hf : w1.heap.size < g) (hb : BlkIs w' w1.heap.size 45 (clA s')) (hg : wr.grownBy w' (some w1.heap.size)) : NeP w1 s' g P Q w' :=
  ⟨⟨h.nb.below.grown hg h.nb.below.size (fun j hj => by cases hj; exact Nat.le_refl _), hb⟩, h.bp.else_ hg (fun e => by have := Option.some.inj e; omega), h.bq.else_ hg (fun e => by have := Option.some.inj e; omega)⟩
theorem NeB.put {w1 wr w' : World} {s s' : ClD} (h : NeB w1 s wr) (hb : BlkIs w' w1.heap.size 45 (clA s')) (hg : wr.grownBy w' (some w1.heap.size)) : NeB w1 s' w' :=
  ⟨h.below.grown hg h.below.size (fun j hj => by cases hj; exact Nat.le_refl _), hb⟩
abbrev wset8 (w : World) (g : Nat) (x : ClD) : World := (((((((w.setCell ⟨g, 0, none⟩ (.int .i64 x.a)).setCell ⟨g, 1, none⟩ (.int .i64 x.b)).setCell ⟨g, 2, none⟩ (.int .i64 x.p.x)).setCell ⟨g, 3, none⟩ (.int .i64 x.p.y)).setCell ⟨g, 4, none⟩ (.int .i64 x.p.z)).setCell ⟨g, 5, none⟩ (.int .i64 x.q.x)).setCell ⟨g, 6, none⟩ (.int .i64 x.q.y)).setCell ⟨g, 7, none⟩ (.int .i64 x.q.z)
theorem BlkIs.cast {w : World} {g : Nat} {t : TypeId} {cs ds : Array Value} (h : BlkIs w g t cs) (e : cs = ds) : BlkIs w g t ds := e ▸ h
set_option maxHeartbeats 4000000 in
theorem wblk_set8 {w : World} {g : Nat} {t : TypeId} {s : ClD} (h : BlkIs w g t (clA s)) (x : ClD) : BlkIs (wset8 w g x) g t (clA x) := BlkIs.cast ((((((((h.set 0 (.int .i64 x.a)).set 1 (.int .i64 x.b)).set 2 (.int .i64 x.p.x)).set 3 (.int .i64 x.p.y)).set 4 (.int .i64 x.p.z)).set 5 (.int .i64 x.q.x)).set 6 (.int .i64 x.q.y)).set 7 (.int .i64 x.q.z)) (by simp [clA])
theorem wbelow_set8 {w0 w : World} {B g : Nat} (h : Below B w0 w) (hg : B ≤ g) (x : ClD) : Below B w0 (wset8 w g x) := (((((((h.setCell (p := ⟨g, 0, none⟩) hg _).setCell (p := ⟨g, 1, none⟩) hg _).setCell (p := ⟨g, 2, none⟩) hg _).setCell (p := ⟨g, 3, none⟩) hg _).setCell (p := ⟨g, 4, none⟩) hg _).setCell (p := ⟨g, 5, none⟩) hg _).setCell (p := ⟨g, 6, none⟩) hg _).setCell (p := ⟨g, 7, none⟩) hg _
theorem NeB.put8 {w1 wr : World} {s : ClD} (h : NeB w1 s wr) (x : ClD) : NeB w1 x (wset8 wr w1.heap.size x) := ⟨wbelow_set8 h.below (Nat.le_refl _) x, wblk_set8 h.best x⟩
abbrev NeS2 (g : Nat) (P Q : Pt) (W : World) : Prop :=
  (W.cell? ⟨g, 0, none⟩ = some (.int .i64 P.x) ∧ W.cell? ⟨g, 1, none⟩ = some (.int .i64 P.y) ∧ W.cell? ⟨g, 2, none⟩ = some (.int .i64 P.z)) ∧
  (W.cell? ⟨g + 1, 0, none⟩ = some (.int .i64 Q.x) ∧ W.cell? ⟨g + 1, 1, none⟩ = some (.int .i64 Q.y) ∧ W.cell? ⟨g + 1, 2, none⟩ = some (.int .i64 Q.z))
abbrev NeS1 (g : Nat) (x : ClD) (W : World) : Prop :=
  W.cell? ⟨g, 0, none⟩ = some (.int .i64 x.a) ∧ W.cell? ⟨g, 1, none⟩ = some (.int .i64 x.b) ∧ W.cell? ⟨g, 2, none⟩ = some (.int .i64 x.p.x) ∧ W.cell? ⟨g, 3, none⟩ = some (.int .i64 x.p.y) ∧ W.cell? ⟨g, 4, none⟩ = some (.int .i64 x.p.z) ∧ W.cell? ⟨g, 5, none⟩ = some (.int .i64 x.q.x) ∧ W.cell? ⟨g, 6, none⟩ = some (.int .i64 x.q.y) ∧ W.cell? ⟨g, 7, none⟩ = some (.int .i64 x.q.z)
theorem BlkIs.ns1 {W : World} {g : Nat} {x : ClD} (h : BlkIs W g 45 (clA x)) : NeS1 g x W := ⟨h.cell 0, h.cell 1, h.cell 2, h.cell 3, h.cell 4, h.cell 5, h.cell 6, h.cell 7⟩
theorem stN_yes {L : List (List Bx)} {s : NeS} {i k : Nat} (h : s.n < 0 ∨ (sqAt L i k).n < s.n) : stN L s i k = ⟨⟨i, k, (sqAt L i k).p, (sqAt L i k).q⟩, (sqAt L i k).n⟩ := if_pos h
theorem stN_no {L : List (List Bx)} {s : NeS} {i k : Nat} (h1 : ¬ s.n < 0) (h2 : ¬ (sqAt L i k).n < s.n) : stN L s i k = s := if_neg (by omega)
/- what the function answers -/
def ncE (L : List (List Bx)) : Int := if L.length < 2 then 12 else 0
def ncX (L : List (List Bx)) : NeS := if L.length < 2 then ⟨⟨0, 0, ⟨0, 0, 0⟩, ⟨0, 0, 0⟩⟩, 0⟩ else neN L L.length L.length
theorem nc_few {L : List (List Bx)} (h : L.length < 2) : ncE L = 12 ∧ ncX L = ⟨⟨0, 0, ⟨0, 0, 0⟩, ⟨0, 0, 0⟩⟩, 0⟩ := ⟨if_pos h, if_pos h⟩
theorem nc_many {L : List (List Bx)} (h : ¬ L.length < 2) : ncE L = 0 ∧ ncX L = neN L L.length L.length := ⟨if_neg h, if_neg h⟩
set_option maxRecDepth 100000 in
set_option maxHeartbeats 8000000 in
theorem cnearest_good (v vr : Value) (l : List BarD) (rs : List RunD) (w : World) (hp : Bars w v l) (hr : Runs w vr rs) (hl : l.length ≤ 140737488355328) (hlr : rs.length ≤ 140737488355328) (hf : FitB l) (h : laidOk l rs = true) :
    Calls Tryz.prog 27 #[v, vr] w fun e w' => e = .returned (.tuple #[clv (ncX (lgsOf l rs)).x, .int .i64 (ncX (lgsOf l rs)).n, .int .i64 (ncE (lgsOf l rs))]) ∧ Below w.heap.size w w' := by
  have hb0 := below_new w (.cells #[.int .i64 0, .int .i64 0, .int .i64 0, .int .i64 0, .int .i64 0, .int .i64 0, .int .i64 0, .int .i64 0] 45)
  have HX0 := Lib.hid (BlkIs.new w #[.int .i64 0, .int .i64 0, .int .i64 0, .int .i64 0, .int .i64 0, .int .i64 0, .int .i64 0, .int .i64 0] 45)
  have HB := Lib.hid (fun W (hW : Below w.heap.size w W) => of_good v vr l rs W (hp.below hW) (hr.below hW) hl hlr hf h)
  have HB0 := Lib.hid hb0
  have HSQ := Lib.hid (fun T (i k : Nat) W (hs : Spc W T (lgsOf l rs) (szsOf l rs)) (hi : i < (lgsOf l rs).length) (hk : k < (lgsOf l rs).length) => csquare_any T (lgsOf l rs) (szsOf l rs) i k W hs (lzOk_of h) hi hk)
  have hLs := (lzOk_of h).small
  generalize lgsOf l rs = L at *
  generalize szsOf l rs = Z at *
  clear hp hr h hf hb0
  by_cases hn2 : L.length < 2
  · have d1 : decide ((L.length : Int) < 2) = true := dec_yes (by omega)
    rw [(nc_few hn2).1, (nc_few hn2).2]
    go_enter Tryz.func27, Tryz.ntmps27
    go_wp2_with fail
    refine (HB.out _ HB0.out).mono ?_
    rintro e w1 ⟨T, rfl, hs, hb1⟩
    obtain ⟨ao, cap, hT, c0⟩ := hs.head
    have HX1 := Lib.hid (HX0.out.below hb1)
    have HB1 := Lib.hid (bstep HB0.out hb1)
    clear hb1 hs HB HB0 HX0
    have e0 := HX1.out.cell 0
    have e1 := HX1.out.cell 1
    have e2 := HX1.out.cell 2
    have e3 := HX1.out.cell 3
    have e4 := HX1.out.cell 4
    have e5 := HX1.out.cell 5
    have e6 := HX1.out.cell 6
    have e7 := HX1.out.cell 7
    have ef := HX1.out.free
    have ez := HX1.out.lt
    go_wp2
    exact bodyPost_ret (v := .tuple #[clv ⟨0, 0, ⟨0, 0, 0⟩, ⟨0, 0, 0⟩⟩, .int .i64 0, .int .i64 12]) (by simp [results, Tryz.results27, go_sem, e0, e1, e2, e3, e4, e5, e6, e7]) rfl ⟨rfl, wbelow_set8 HB1.out (Nat.le_refl _) ⟨0, 0, ⟨0, 0, 0⟩, ⟨0, 0, 0⟩⟩⟩
  · have d1 : decide ((L.length : Int) < 2) = false := dec_no (by omega)
    rw [(nc_many hn2).1, (nc_many hn2).2]
    go_enter Tryz.func27, Tryz.ntmps27
    go_wp2_with fail
    refine (HB.out _ HB0.out).mono ?_
    rintro e w1 ⟨T, rfl, hs, hb1⟩
    obtain ⟨ao, cap, hT, c0⟩ := hs.head
    have HC0 := Lib.hid (fun W (hW : Below w1.heap.size w1 W) => (hW.cell (p := ⟨T, 0, none⟩) hT).trans c0)
    have HS := Lib.hid hs
    have HX1 := Lib.hid (HX0.out.below hb1)
    have HB1 := Lib.hid (bstep HB0.out hb1)
    have HN0 : Hid (NeB w1 ⟨0, 0, ⟨0, 0, 0⟩, ⟨0, 0, 0⟩⟩ (w1.alloc (.cells #[.int .i64 0, .int .i64 0, .int .i64 0, .int .i64 0, .int .i64 0, .int .i64 0, .int .i64 0, .int .i64 0] 45))) := ⟨below_new w1 _, BlkIs.new w1 _ _⟩
    have hTa : T < w1.heap.size + 1 := by omega
    have HE00 : Hid (neN L L.length 0 = ⟨⟨0, 0, ⟨0, 0, 0⟩, ⟨0, 0, 0⟩⟩, -1⟩) := rfl
    clear hb1 hs HB HB0 HX0
    go_wp2_with fail
    clear c0
    go_loopw [10, 40] (fun o x wr => ∃ i : Nat, i ≤ L.length ∧ x = .int .i64 (i : Int) ∧ o = .int .i64 (neN L L.length i).n ∧ NeB w1 (neN L L.length i).x wr) (fun _ x _ => L.length - (intOf x).toNat)
    case atStart => exact ⟨0, Nat.zero_le _, rfl, by rw [HE00.out], by rw [HE00.out]; exact HN0.out⟩
    case round =>
      obtain ⟨i, hi, rfl, rfl, hNr⟩ := hrel
      obtain ⟨wo, rfl⟩ : ∃ wo : World, wo = wr := ⟨_, rfl⟩
      have HNo := Lib.hid hNr
      clear hNr
      by_cases hi2 : i < L.length
      · have HES := Lib.hid (neN_succ L L.length i)
        have HE0 := Lib.hid (rowN_low L (neN L L.length i) i (i + 1) (Nat.le_refl _))
        generalize neN L L.length i = E0 at *
        have hw1 : IntKind.i64.wrap ((i : Int) + 1) = (i : Int) + 1 := IntWalk.i64_in _ (by omega)
        go_wp2_with fail
        go_loopw [10, 12] (fun o x wr => ∃ k : Nat, i + 1 ≤ k ∧ k ≤ L.length ∧ x = .int .i64 (k : Int) ∧ o = .int .i64 (rowN L E0 i k).n ∧ NeB w1 (rowN L E0 i k).x wr) (fun _ x _ => L.length - (intOf x).toNat)
        case atStart => exact ⟨i + 1, by omega, by omega, by go_num, by rw [HE0.out], by rw [HE0.out]; exact HNo.out⟩
        case round =>
          clear HNo HE0
          obtain ⟨k, hik, hk, rfl, rfl, hNr⟩ := hrel
          have HN := Lib.hid hNr
          clear hNr
          have c0 := HC0.out wr HN.out.below
          have hTr : T < wr.heap.size := by have := HN.out.below.size; omega
          by_cases hk2 : k < L.length
          · have HSN := Lib.hid (rowN_succ L E0 i k (by omega))
            have HC := Lib.hid (HSQ.out T i k wr (HS.out.below HN.out.below) hi2 hk2)
            generalize rowN L E0 i k = st at *
            have HY := Lib.hid (stN_yes (L := L) (s := st) (i := i) (k := k))
            have HNn := Lib.hid (stN_no (L := L) (s := st) (i := i) (k := k))
            generalize sqAt L i k = sq at *
            obtain ⟨n, P, Q⟩ := sq
            simp only at HC HY HNn
            go_wp2_with fail
            refine HC.out.mono ?_
            rintro e w2 ⟨rfl, hb2⟩
            have HN1 : Hid (NeP w1 st.x w2.heap.size P Q ((w2.alloc (.cells #[.int .i64 P.x, .int .i64 P.y, .int .i64 P.z] 43)).alloc (.cells #[.int .i64 Q.x, .int .i64 Q.y, .int .i64 Q.z] 43))) :=
              ⟨(HN.out.after hb2).after (by go_grown), (BlkIs.new w2 _ _).alloc _, BlkIs.new1 w2 _ _ _⟩
            have HM := Lib.hid (HN.out.after hb2)
            have hg1 : w1.heap.size < w2.heap.size := (HN.out.after hb2).best.lt
            clear hb2 HC c0 hTr
            by_cases h1 : st.n < 0 ∨ n < st.n
            · have HST := Lib.hid (HSN.out.trans (HY.out h1))
              clear HSN HY HNn
              by_cases h3 : st.n < 0
              · have e1 : decide (st.n < 0) = true := dec_yes h3
                obtain ⟨y0, hY⟩ : ∃ y, ((w2.alloc (.cells #[.int .i64 P.x, .int .i64 P.y, .int .i64 P.z] 43)).alloc (.cells #[.int .i64 Q.x, .int .i64 Q.y, .int .i64 Q.z] 43)) = y := ⟨_, rfl⟩
                rw [hY] at HN1
                have m0 := HN1.out.nb.best.cell 0
                have m1 := HN1.out.nb.best.cell 1
                have m2 := HN1.out.nb.best.cell 2
                have m3 := HN1.out.nb.best.cell 3
                have m4 := HN1.out.nb.best.cell 4
                have m5 := HN1.out.nb.best.cell 5
                have m6 := HN1.out.nb.best.cell 6
                have m7 := HN1.out.nb.best.cell 7
                have p0 := HN1.out.bp.cell 0
                have q0 := HN1.out.bq.cell 0
                have p1 := HN1.out.bp.cell 1
                have q1 := HN1.out.bq.cell 1
                have p2 := HN1.out.bp.cell 2
                have q2 := HN1.out.bq.cell 2
                have ef := HN1.out.nb.best.free
                have ez := HN1.out.nb.best.lt
                have ez2 := HN1.out.bp.lt
                have ez3 := HN1.out.bq.lt
                have HN4 := Lib.hid (HN1.out.nb.put8 ⟨i, k, P, Q⟩)
                clear HN1
                go_wp2
                go_roundw
                case rel => exact ⟨k + 1, by omega, by omega, by go_num, by rw [HST.out], by rw [HST.out]; exact HN4.out⟩
                case measure => simp [intOf]; omega
              · have e1 : decide (st.n < 0) = false := dec_no h3
                have e2 : decide (n < st.n) = true := dec_yes (by omega)
                obtain ⟨y0, hY⟩ : ∃ y, ((w2.alloc (.cells #[.int .i64 P.x, .int .i64 P.y, .int .i64 P.z] 43)).alloc (.cells #[.int .i64 Q.x, .int .i64 Q.y, .int .i64 Q.z] 43)) = y := ⟨_, rfl⟩
                rw [hY] at HN1
                have m0 := HN1.out.nb.best.cell 0
                have m1 := HN1.out.nb.best.cell 1
                have m2 := HN1.out.nb.best.cell 2
                have m3 := HN1.out.nb.best.cell 3
                have m4 := HN1.out.nb.best.cell 4
                have m5 := HN1.out.nb.best.cell 5
                have m6 := HN1.out.nb.best.cell 6
                have m7 := HN1.out.nb.best.cell 7
                have p0 := HN1.out.bp.cell 0
                have q0 := HN1.out.bq.cell 0
                have p1 := HN1.out.bp.cell 1
                have q1 := HN1.out.bq.cell 1
                have p2 := HN1.out.bp.cell 2
                have q2 := HN1.out.bq.cell 2
                have ef := HN1.out.nb.best.free
                have ez := HN1.out.nb.best.lt
                have ez2 := HN1.out.bp.lt
                have ez3 := HN1.out.bq.lt
                have HN4 := Lib.hid (HN1.out.nb.put8 ⟨i, k, P, Q⟩)
                clear HN1
                go_wp2
                go_roundw
                case rel => exact ⟨k + 1, by omega, by omega, by go_num, by rw [HST.out], by rw [HST.out]; exact HN4.out⟩
                case measure => simp [intOf]; omega
            · have HST := Lib.hid (HSN.out.trans (HNn.out (by omega) (by omega)))
              clear HSN HY HNn
              have e1 : decide (st.n < 0) = false := dec_no (by omega)
              have e2 : decide (n < st.n) = false := dec_no (by omega)
              go_wp2
              go_roundw
              case rel => exact ⟨k + 1, by omega, by omega, by go_num, by rw [HST.out], by rw [HST.out]; exact HN1.out.nb⟩
              case measure => simp [intOf]; omega
          · obtain rfl : k = L.length := by omega
            go_wp2
            go_roundw
            case rel => exact ⟨i + 1, by omega, by go_num, by rw [HES.out], by rw [HES.out]; exact HN.out⟩
            case measure => simp [intOf]; omega
      · obtain rfl : i = L.length := by omega
        have hz : w.heap.size < w1.heap.size := HX1.out.lt
        have HX2 := Lib.hid (HX1.out.below HNo.out.below)
        have HB2 := Lib.hid (bstep HB1.out HNo.out.below)
        have e0 := HNo.out.best.cell 0
        have e1 := HNo.out.best.cell 1
        have e2 := HNo.out.best.cell 2
        have e3 := HNo.out.best.cell 3
        have e4 := HNo.out.best.cell 4
        have e5 := HNo.out.best.cell 5
        have e6 := HNo.out.best.cell 6
        have e7 := HNo.out.best.cell 7
        have f0 := HX2.out.cell 0
        have f1 := HX2.out.cell 1
        have f2 := HX2.out.cell 2
        have f3 := HX2.out.cell 3
        have f4 := HX2.out.cell 4
        have f5 := HX2.out.cell 5
        have f6 := HX2.out.cell 6
        have f7 := HX2.out.cell 7
        have ef := HX2.out.free
        have ez := HX2.out.lt
        have eb := HNo.out.best.lt
        go_wp2
        exact bodyPost_ret (v := .tuple #[clv (neN L L.length L.length).x, .int .i64 (neN L L.length L.length).n, .int .i64 0]) (by simp [results, Tryz.results27, go_sem, f0, f1, f2, f3, f4, f5, f6, f7]) rfl ⟨rfl, wbelow_set8 HB2.out (Nat.le_refl _) (neN L L.length L.length).x⟩
end
end Go.Proofs.YtpiigmhbbcjamaaGreat
