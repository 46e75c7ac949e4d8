/-
  Reference 19: of, on; clash.on (printed by wip/gen_Rcd.py).
-/
import Derived.Test.YtpiigmhbbcjamaaGreatRcc
import Derived.Test.YtpiigmhbbcjamaaGreatCnr
namespace Go.Proofs.YtpiigmhbbcjamaaGreat
section
open Go.RowKit
set_option linter.unusedVariables false
set_option linter.unusedSimpArgs false
attribute [local go_sem ↓] Go.wp_at_zero Go.wp_at_succ

abbrev z8 : Array Value := #[.int .i64 0, .int .i64 0, .int .i64 0, .int .i64 0, .int .i64 0, .int .i64 0, .int .i64 0, .int .i64 0]
abbrev ptC (P : Pt) : Array Value := #[.int .i64 P.x, .int .i64 P.y, .int .i64 P.z]
structure OfW (w : World) (g : Nat) (P Q : Pt) (wr : World) : Prop where
  below : Below w.heap.size w wr
  res : BlkIs wr w.heap.size 45 z8
  bp : BlkIs wr g 43 (ptC P)
  bq : BlkIs wr (g + 1) 43 (ptC Q)
set_option maxRecDepth 100000 in
set_option maxHeartbeats 4000000 in
theorem rof19_any (v vr : Value) (l : List BarD) (rs : List RunD) (i k : Nat) (w : World) (hp : Bars w v l) (hr : Runs w vr rs) (hl : l.length ≤ 140737488355328) (h : laidOk l rs = true) (hi : i < cumN rs) (hk : k < cumN rs) :
    Calls Tryz.prog 44 #[v, vr, .int .i64 (i : Int), .int .i64 (k : Int)] w fun e w' => e = .returned (.tuple #[clv (clOf (lgsOf l rs) i k), .int .i64 (sqAt (lgsOf l rs) i k).n]) ∧ Below w.heap.size w w' := by
  have H1 := Lib.hid (fun W (hW : Below w.heap.size w W) => rlegs19_any v vr l rs i W (hp.below hW) (hr.below hW) hl h hi)
  have H2 := Lib.hid (fun W (hW : Below w.heap.size w W) => rlegs19_any v vr l rs k W (hp.below hW) (hr.below hW) hl h hk)
  have hz := lzOk_of h
  have LI := Lib.hid (hz.legs i (by rw [lgsOf_len]; exact hi))
  have LK := Lib.hid (hz.legs k (by rw [lgsOf_len]; exact hk))
  have HP := Lib.hid (fun o o' W (ha : Bxs W o (legsAt (lgsOf l rs) i)) (hb : Bxs W o' (legsAt (lgsOf l rs) k)) => rpoints19_any o o' (legsAt (lgsOf l rs) i) (legsAt (lgsOf l rs) k) W ha hb LI.out.2.1 LI.out.2.2 LK.out.2.1 LK.out.2.2)
  have HE : Hid (sqAt (lgsOf l rs) i k = allS (legsAt (lgsOf l rs) i) (legsAt (lgsOf l rs) k) (legsAt (lgsOf l rs) i).length) := rfl
  have HCL : Hid (clOf (lgsOf l rs) i k = ⟨i, k, (sqAt (lgsOf l rs) i k).p, (sqAt (lgsOf l rs) i k).q⟩) := rfl
  rw [HCL.out, HE.out]
  generalize allS (legsAt (lgsOf l rs) i) (legsAt (lgsOf l rs) k) (legsAt (lgsOf l rs) i).length = st at *
  obtain ⟨n, P, Q⟩ := st
  simp only at HP
  have HB0 := Lib.hid (below_new w (.cells z8 45))
  have HX0 := Lib.hid (BlkIs.new w z8 45)
  clear hp hr hz LI LK HE HCL hi hk h
  go_enter Tryz.func44, Tryz.ntmps44
  go_wp2_with fail
  refine (H1.out _ HB0.out).mono ?_
  rintro e w1 ⟨o1, rfl, hx1, hb1⟩
  have HB1 := Lib.hid (bstep HB0.out hb1)
  have HX1 := Lib.hid (HX0.out.below hb1)
  clear hb1 H1 HB0 HX0
  go_wp2_with fail
  refine (H2.out _ HB1.out).mono ?_
  rintro e w2 ⟨o2, rfl, hx2, hb2⟩
  have HO1 := Lib.hid (Fl.below hx1.out hb2)
  have HB2 := Lib.hid (bstep HB1.out hb2)
  have HX2 := Lib.hid (HX1.out.below hb2)
  clear hb2 H2 hx1 HB1 HX1
  go_wp2_with fail
  refine (HP.out o1 o2 w2 HO1.out hx2.out).mono ?_
  rintro e w3 ⟨rfl, hb3⟩
  have HN1 : Hid (OfW w w3.heap.size P Q ((w3.alloc (.cells (ptC P) 43)).alloc (.cells (ptC Q) 43))) :=
    ⟨bstep (bstep HB2.out hb3) (by go_grown), ((HX2.out.below hb3).alloc _).alloc _, (BlkIs.new w3 _ _).alloc _, BlkIs.new1 w3 _ _ _⟩
  have hsz : w.heap.size < w3.heap.size := (HX2.out.below hb3).lt
  clear hb3 HP HB2 HX2
  obtain ⟨y0, hY⟩ : ∃ y, ((w3.alloc (.cells (ptC P) 43)).alloc (.cells (ptC Q) 43)) = y := ⟨_, rfl⟩
  rw [hY] at HN1
  have m0 := HN1.out.res.cell 0
  have m1 := HN1.out.res.cell 1
  have m2 := HN1.out.res.cell 2
  have m3 := HN1.out.res.cell 3
  have m4 := HN1.out.res.cell 4
  have m5 := HN1.out.res.cell 5
  have m6 := HN1.out.res.cell 6
  have m7 := HN1.out.res.cell 7
  have p0 := HN1.out.bp.cell 0
  have q0 := HN1.out.bq.cell 0
  have p1 := HN1.out.bp.cell 1
  have q1 := HN1.out.bq.cell 1
  have p2 := HN1.out.bp.cell 2
  have q2 := HN1.out.bq.cell 2
  have ef := HN1.out.res.free
  have ez := HN1.out.res.lt
  have ez2 := HN1.out.bp.lt
  have ez3 := HN1.out.bq.lt
  go_wp2
  exact bodyPost_ret (v := .tuple #[clv ⟨i, k, P, Q⟩, .int .i64 n]) (by simp [results, Tryz.results44, go_sem, m0, m1, m2, m3, m4, m5, m6, m7]) rfl ⟨rfl, wbelow_set8 HN1.out.below (Nat.le_refl _) ⟨i, k, P, Q⟩⟩

/-! ### on -/
def inC (b : Bx) (p : Pt) : Bool := decide ((b.lo.x ≤ p.x ∧ p.x ≤ b.hi.x) ∧ (b.lo.y ≤ p.y ∧ p.y ≤ b.hi.y) ∧ (b.lo.z ≤ p.z ∧ p.z ≤ b.hi.z))
def onB (B : List Bx) (p : Pt) : Bool := B.any fun b => inC b p
theorem inC_iff {b : Bx} {p : Pt} : inC b p = true ↔ inBx b p := by unfold inC inBx; rw [decide_eq_true_eq]
theorem onB_iff {B : List Bx} {p : Pt} : onB B p = true ↔ onL B p := by
  unfold onB onL
  rw [List.any_eq_true]
  constructor
  · rintro ⟨b, h1, h2⟩; exact ⟨b, h1, inC_iff.1 h2⟩
  · rintro ⟨b, h1, h2⟩; exact ⟨b, h1, inC_iff.2 h2⟩
theorem onB_yes {B : List Bx} {p : Pt} {b : Bx} {k : Nat} (h : B[k]? = some b) (hb : inC b p = true) : onB B p = true := by
  unfold onB; rw [List.any_eq_true]; exact ⟨b, List.mem_of_getElem? h, hb⟩
theorem onB_no {B : List Bx} {p : Pt} (h : ∀ (j : Nat) b, j < B.length → B[j]? = some b → inC b p = false) : onB B p = false := by
  unfold onB
  rw [List.any_eq_false]
  intro b hb
  obtain ⟨j, hj, rfl⟩ := List.getElem_of_mem hb
  rw [h j _ hj (List.getElem?_eq_getElem hj)]
  simp
theorem inC_eq (a1 a2 a3 a4 a5 a6 x y z : Int) : inC ⟨⟨a1, a2, a3⟩, ⟨a4, a5, a6⟩⟩ ⟨x, y, z⟩ = decide ((a1 ≤ x ∧ x ≤ a4) ∧ (a2 ≤ y ∧ y ≤ a5) ∧ (a3 ≤ z ∧ z ≤ a6)) := rfl
set_option maxRecDepth 100000 in
set_option maxHeartbeats 8000000 in
theorem ron19_any (v : Value) (B : List Bx) (p : Pt) (w : World) (hB : Bxs w v B) (hl : B.length ≤ 6) :
    Calls Tryz.prog 48 #[v, ptv p] w fun e w' => e = .returned (.bool (onB B p)) ∧ Below w.heap.size w w' := by
  have HX := Lib.hid hB
  obtain ⟨ao, cap, rfl⟩ := hB.at_
  have HY := Lib.hid (fun (b : Bx) (k : Nat) (h : B[k]? = some b) (hb : inC b p = true) => onB_yes h hb)
  have HN := Lib.hid (onB_no (B := B) (p := p))
  generalize onB B p = q at *
  have HP0 := Lib.hid (BlkIs.new w #[.int .i64 p.x, .int .i64 p.y, .int .i64 p.z] 43)
  have HB0 := Lib.hid (below_new w (.cells #[.int .i64 p.x, .int .i64 p.y, .int .i64 p.z] 43))
  obtain ⟨x, y, z⟩ := p
  simp only at HP0 HB0
  clear hB
  go_enter Tryz.func48, Tryz.ntmps48
  go_wp2_with fail
  go_loopw [5] (fun i wr => ∃ k : Nat, k ≤ B.length ∧ i = .int .i64 (k : Int) ∧ Below w.heap.size w wr ∧ BlkIs wr w.heap.size 43 #[.int .i64 x, .int .i64 y, .int .i64 z] ∧ Hid (∀ (j : Nat) b, j < k → B[j]? = some b → inC b ⟨x, y, z⟩ = false)) (fun i _ => B.length - (intOf i).toNat)
  case atStart => exact ⟨0, Nat.zero_le _, rfl, HB0.out, HP0.out, fun j b hj => by omega⟩
  case round =>
    clear HP0 HB0
    obtain ⟨k, hk, rfl, hBr, hPt, HA⟩ := hrel
    have HBr := Lib.hid hBr
    have HPt := Lib.hid hPt
    clear hBr hPt
    by_cases hk2 : k < B.length
    · obtain ⟨b, hb⟩ : ∃ y, B[k]? = some y := ⟨_, List.getElem?_eq_getElem hk2⟩
      obtain ⟨b0, off0, rfl, hbl0, c0, c1, c2, c3, c4, c5⟩ := bxs_get (Fl.below HX.out HBr.out) hb
      have HBX := Lib.hid hb
      obtain ⟨⟨a1, a2, a3⟩, ⟨a4, a5, a6⟩⟩ := b
      simp only at c0 c1 c2 c3 c4 c5
      have p0 := HPt.out.cell 0
      have p1 := HPt.out.cell 1
      have p2 := HPt.out.cell 2
      have pl := HPt.out.lt
      have HIN := Lib.hid (inC_eq a1 a2 a3 a4 a5 a6 x y z)
      have HB2 := Lib.hid (HBr.out.alloc HBr.out.size (.cells #[.int .i64 a1, .int .i64 a2, .int .i64 a3, .int .i64 a4, .int .i64 a5, .int .i64 a6] 96))
      have HP2 := Lib.hid (HPt.out.alloc (.cells #[.int .i64 a1, .int .i64 a2, .int .i64 a3, .int .i64 a4, .int .i64 a5, .int .i64 a6] 96))
      clear hb HBr HPt
      by_cases h0 : a1 ≤ x
      · have d0 : decide (a1 ≤ x) = true := dec_yes h0
        by_cases h1 : x ≤ a4
        · have d1 : decide (x ≤ a4) = true := dec_yes h1
          by_cases h2 : a2 ≤ y
          · have d2 : decide (a2 ≤ y) = true := dec_yes h2
            by_cases h3 : y ≤ a5
            · have d3 : decide (y ≤ a5) = true := dec_yes h3
              by_cases h4 : a3 ≤ z
              · have d4 : decide (a3 ≤ z) = true := dec_yes h4
                by_cases h5 : z ≤ a6
                · have d5 : decide (z ≤ a6) = true := dec_yes h5
                  have HT := Lib.hid (HY.out _ _ HBX.out (HIN.out.trans (dec_yes (by omega))))
                  clear HIN HN
                  go_wp2
                  go_ret
                  exact ⟨ret_bool HT.out.symm, HB2.out⟩
                · have d5 : decide (z ≤ a6) = false := dec_no h5
                  have HF := Lib.hid (HIN.out.trans (dec_no (by omega)))
                  clear HIN HN
                  go_wp2
                  go_roundw
                  case rel => exact ⟨k + 1, by omega, by go_num, HB2.out, HP2.out, fun j b' hj h' => by
                    by_cases e : j = k
                    · subst e; rw [HBX.out] at h'; cases h'; exact HF.out
                    · exact HA.out j b' (by omega) h'⟩
                  case measure => simp [intOf]; omega
              · have d4 : decide (a3 ≤ z) = false := dec_no h4
                have HF := Lib.hid (HIN.out.trans (dec_no (by omega)))
                clear HIN HN
                go_wp2
                go_roundw
                case rel => exact ⟨k + 1, by omega, by go_num, HB2.out, HP2.out, fun j b' hj h' => by
                  by_cases e : j = k
                  · subst e; rw [HBX.out] at h'; cases h'; exact HF.out
                  · exact HA.out j b' (by omega) h'⟩
                case measure => simp [intOf]; omega
            · have d3 : decide (y ≤ a5) = false := dec_no h3
              have HF := Lib.hid (HIN.out.trans (dec_no (by omega)))
              clear HIN HN
              go_wp2
              go_roundw
              case rel => exact ⟨k + 1, by omega, by go_num, HB2.out, HP2.out, fun j b' hj h' => by
                by_cases e : j = k
                · subst e; rw [HBX.out] at h'; cases h'; exact HF.out
                · exact HA.out j b' (by omega) h'⟩
              case measure => simp [intOf]; omega
          · have d2 : decide (a2 ≤ y) = false := dec_no h2
            have HF := Lib.hid (HIN.out.trans (dec_no (by omega)))
            clear HIN HN
            go_wp2
            go_roundw
            case rel => exact ⟨k + 1, by omega, by go_num, HB2.out, HP2.out, fun j b' hj h' => by
              by_cases e : j = k
              · subst e; rw [HBX.out] at h'; cases h'; exact HF.out
              · exact HA.out j b' (by omega) h'⟩
            case measure => simp [intOf]; omega
        · have d1 : decide (x ≤ a4) = false := dec_no h1
          have HF := Lib.hid (HIN.out.trans (dec_no (by omega)))
          clear HIN HN
          go_wp2
          go_roundw
          case rel => exact ⟨k + 1, by omega, by go_num, HB2.out, HP2.out, fun j b' hj h' => by
            by_cases e : j = k
            · subst e; rw [HBX.out] at h'; cases h'; exact HF.out
            · exact HA.out j b' (by omega) h'⟩
          case measure => simp [intOf]; omega
      · have d0 : decide (a1 ≤ x) = false := dec_no h0
        have HF := Lib.hid (HIN.out.trans (dec_no (by omega)))
        clear HIN HN
        go_wp2
        go_roundw
        case rel => exact ⟨k + 1, by omega, by go_num, HB2.out, HP2.out, fun j b' hj h' => by
          by_cases e : j = k
          · subst e; rw [HBX.out] at h'; cases h'; exact HF.out
          · exact HA.out j b' (by omega) h'⟩
        case measure => simp [intOf]; omega
    · obtain rfl : k = B.length := by omega
      have HF := Lib.hid (HN.out (fun j b hj h => HA.out j b hj h))
      go_wp2
      go_ret
      exact ⟨ret_bool HF.out.symm, HBr.out⟩
set_option maxRecDepth 100000 in
set_option maxHeartbeats 8000000 in
theorem con_any (v : Value) (B : List Bx) (p : Pt) (w : World) (hB : Bxs w v B) (hl : B.length ≤ 6) :
    Calls Tryz.prog 47 #[v, ptv p] w fun e w' => e = .returned (.bool (onB B p)) ∧ Below w.heap.size w w' := by
  have HX := Lib.hid hB
  obtain ⟨ao, cap, rfl⟩ := hB.at_
  have HY := Lib.hid (fun (b : Bx) (k : Nat) (h : B[k]? = some b) (hb : inC b p = true) => onB_yes h hb)
  have HN := Lib.hid (onB_no (B := B) (p := p))
  generalize onB B p = q at *
  have HP0 := Lib.hid (BlkIs.new w #[.int .i64 p.x, .int .i64 p.y, .int .i64 p.z] 43)
  have HB0 := Lib.hid (below_new w (.cells #[.int .i64 p.x, .int .i64 p.y, .int .i64 p.z] 43))
  obtain ⟨x, y, z⟩ := p
  simp only at HP0 HB0
  clear hB
  go_enter Tryz.func47, Tryz.ntmps47
  go_wp2_with fail
  go_loopw [9] (fun i wr => ∃ k : Nat, k ≤ B.length ∧ i = .int .i64 (k : Int) ∧ Below w.heap.size w wr ∧ BlkIs wr w.heap.size 43 #[.int .i64 x, .int .i64 y, .int .i64 z] ∧ Hid (∀ (j : Nat) b, j < k → B[j]? = some b → inC b ⟨x, y, z⟩ = false)) (fun i _ => B.length - (intOf i).toNat)
  case atStart => exact ⟨0, Nat.zero_le _, rfl, HB0.out, HP0.out, fun j b hj => by omega⟩
  case round =>
    clear HP0 HB0
    obtain ⟨k, hk, rfl, hBr, hPt, HA⟩ := hrel
    have HBr := Lib.hid hBr
    have HPt := Lib.hid hPt
    clear hBr hPt
    by_cases hk2 : k < B.length
    · obtain ⟨b, hb⟩ : ∃ y, B[k]? = some y := ⟨_, List.getElem?_eq_getElem hk2⟩
      obtain ⟨b0, off0, rfl, hbl0, c0, c1, c2, c3, c4, c5⟩ := bxs_get (Fl.below HX.out HBr.out) hb
      have HBX := Lib.hid hb
      obtain ⟨⟨a1, a2, a3⟩, ⟨a4, a5, a6⟩⟩ := b
      simp only at c0 c1 c2 c3 c4 c5
      have p0 := HPt.out.cell 0
      have p1 := HPt.out.cell 1
      have p2 := HPt.out.cell 2
      have pl := HPt.out.lt
      have HIN := Lib.hid (inC_eq a1 a2 a3 a4 a5 a6 x y z)
      have HB2 := Lib.hid (HBr.out.alloc HBr.out.size (.cells #[.int .i64 a1, .int .i64 a2, .int .i64 a3, .int .i64 a4, .int .i64 a5, .int .i64 a6] 96))
      have HP2 := Lib.hid (HPt.out.alloc (.cells #[.int .i64 a1, .int .i64 a2, .int .i64 a3, .int .i64 a4, .int .i64 a5, .int .i64 a6] 96))
      clear hb HBr HPt
      by_cases h0 : a1 ≤ x
      · have d0 : decide (a1 ≤ x) = true := dec_yes h0
        by_cases h1 : x ≤ a4
        · have d1 : decide (x ≤ a4) = true := dec_yes h1
          by_cases h2 : a2 ≤ y
          · have d2 : decide (a2 ≤ y) = true := dec_yes h2
            by_cases h3 : y ≤ a5
            · have d3 : decide (y ≤ a5) = true := dec_yes h3
              by_cases h4 : a3 ≤ z
              · have d4 : decide (a3 ≤ z) = true := dec_yes h4
                by_cases h5 : z ≤ a6
                · have d5 : decide (z ≤ a6) = true := dec_yes h5
                  have HT := Lib.hid (HY.out _ _ HBX.out (HIN.out.trans (dec_yes (by omega))))
                  clear HIN HN
                  go_wp2
                  go_ret
                  exact ⟨ret_bool HT.out.symm, HB2.out⟩
                · have d5 : decide (z ≤ a6) = false := dec_no h5
                  have HF := Lib.hid (HIN.out.trans (dec_no (by omega)))
                  clear HIN HN
                  go_wp2
                  go_roundw
                  case rel => exact ⟨k + 1, by omega, by go_num, HB2.out, HP2.out, fun j b' hj h' => by
                    by_cases e : j = k
                    · subst e; rw [HBX.out] at h'; cases h'; exact HF.out
                    · exact HA.out j b' (by omega) h'⟩
                  case measure => simp [intOf]; omega
              · have d4 : decide (a3 ≤ z) = false := dec_no h4
                have HF := Lib.hid (HIN.out.trans (dec_no (by omega)))
                clear HIN HN
                go_wp2
                go_roundw
                case rel => exact ⟨k + 1, by omega, by go_num, HB2.out, HP2.out, fun j b' hj h' => by
                  by_cases e : j = k
                  · subst e; rw [HBX.out] at h'; cases h'; exact HF.out
                  · exact HA.out j b' (by omega) h'⟩
                case measure => simp [intOf]; omega
            · have d3 : decide (y ≤ a5) = false := dec_no h3
              have HF := Lib.hid (HIN.out.trans (dec_no (by omega)))
              clear HIN HN
              go_wp2
              go_roundw
              case rel => exact ⟨k + 1, by omega, by go_num, HB2.out, HP2.out, fun j b' hj h' => by
                by_cases e : j = k
                · subst e; rw [HBX.out] at h'; cases h'; exact HF.out
                · exact HA.out j b' (by omega) h'⟩
              case measure => simp [intOf]; omega
          · have d2 : decide (a2 ≤ y) = false := dec_no h2
            have HF := Lib.hid (HIN.out.trans (dec_no (by omega)))
            clear HIN HN
            go_wp2
            go_roundw
            case rel => exact ⟨k + 1, by omega, by go_num, HB2.out, HP2.out, fun j b' hj h' => by
              by_cases e : j = k
              · subst e; rw [HBX.out] at h'; cases h'; exact HF.out
              · exact HA.out j b' (by omega) h'⟩
            case measure => simp [intOf]; omega
        · have d1 : decide (x ≤ a4) = false := dec_no h1
          have HF := Lib.hid (HIN.out.trans (dec_no (by omega)))
          clear HIN HN
          go_wp2
          go_roundw
          case rel => exact ⟨k + 1, by omega, by go_num, HB2.out, HP2.out, fun j b' hj h' => by
            by_cases e : j = k
            · subst e; rw [HBX.out] at h'; cases h'; exact HF.out
            · exact HA.out j b' (by omega) h'⟩
          case measure => simp [intOf]; omega
      · have d0 : decide (a1 ≤ x) = false := dec_no h0
        have HF := Lib.hid (HIN.out.trans (dec_no (by omega)))
        clear HIN HN
        go_wp2
        go_roundw
        case rel => exact ⟨k + 1, by omega, by go_num, HB2.out, HP2.out, fun j b' hj h' => by
          by_cases e : j = k
          · subst e; rw [HBX.out] at h'; cases h'; exact HF.out
          · exact HA.out j b' (by omega) h'⟩
        case measure => simp [intOf]; omega
    · obtain rfl : k = B.length := by omega
      have HF := Lib.hid (HN.out (fun j b hj h => HA.out j b hj h))
      go_wp2
      go_ret
      exact ⟨ret_bool HF.out.symm, HBr.out⟩
end
end Go.Proofs.YtpiigmhbbcjamaaGreat
