/-
  Shapes: how many dimensions; bars that are valid (the program's and the reference's).
-/
import Derived.Test.YtpidjgljeooblaaShA
namespace Go.Proofs.Ytpidjgljeooblaa
open Go.RowKit
set_option linter.unusedVariables false
set_option linter.unusedSimpArgs false

def mxd (l : List (Nat × Nat)) : Int := l.foldl (fun m p => max m (p.1 : Int)) (-1)
theorem mxd_snoc {l : List (Nat × Nat)} {k : Nat} {p : Nat × Nat} (h : l[k]? = some p) : mxd (l.take (k + 1)) = max (mxd (l.take k)) (p.1 : Int) := by
  have hk := (List.getElem?_eq_some_iff.1 h).1
  unfold mxd
  rw [List.take_succ_eq_append_getElem hk, List.foldl_append, (List.getElem?_eq_some_iff.1 h).2]
  rfl
theorem mxd_bd (code : Int) (k : Nat) : -1 ≤ mxd ((legsOf code).take k) ∧ mxd ((legsOf code).take k) ≤ 5 ∧ ∀ p ∈ legsOf code, (p.1 : Int) ≤ 5 := by
  have key : ∀ (l : List (Nat × Nat)) (m : Int), -1 ≤ m → m ≤ 5 → (∀ p ∈ l, (p.1 : Int) ≤ 5) → -1 ≤ l.foldl (fun m p => max m (p.1 : Int)) m ∧ l.foldl (fun m p => max m (p.1 : Int)) m ≤ 5 := by
    intro l
    induction l with
    | nil => intro m h1 h2 _; exact ⟨h1, h2⟩
    | cons a l ih =>
      intro m h1 h2 h3
      have := h3 a (List.mem_cons_self ..)
      exact ih (max m (a.1 : Int)) (by omega) (by omega) (fun p hp => h3 p (List.mem_cons_of_mem _ hp))
  have h5 : ∀ p ∈ legsOf code, (p.1 : Int) ≤ 5 := by
    rcases code_cases code with h | ⟨h, _⟩
    · rcases h with rfl | rfl | rfl | rfl | rfl | rfl | rfl | rfl <;> decide
    · rw [h]; intro p hp; cases hp
  have := key ((legsOf code).take k) (-1) (by omega) (by omega) (fun p hp => h5 p (List.mem_of_mem_take hp))
  exact ⟨this.1, this.2, h5⟩
theorem legs_len6 (code : Int) : (legsOf code).length ≤ 6 := by
  rcases code_cases code with h | ⟨h, _⟩
  · rcases h with rfl | rfl | rfl | rfl | rfl | rfl | rfl | rfl <;> decide
  · rw [h]; decide
theorem mxd_dims (code : Int) : mxd (legsOf code) + 1 = dimsN code := by
  rcases code_cases code with h | ⟨h, h2, _⟩
  · rcases h with rfl | rfl | rfl | rfl | rfl | rfl | rfl | rfl <;> decide
  · rw [h, h2]; rfl

def dimsE (n : Nat) : Int := if n = 0 then 11 else 0
theorem dimsE_some {n : Nat} (h : ¬ n = 0) : dimsE n = 0 := if_neg h
theorem dimsE_none : dimsE 0 = 11 := rfl
set_option maxHeartbeats 1000000 in
theorem dims_any (code : Int) (w : World) : Calls Try.prog 74 #[.int .i64 code] w fun e w' => e = .returned (.tuple #[.int .i64 (dimsN code), .int .i64 (dimsE (dimsN code))]) ∧ Below w.heap.size w w' := by
  have HL := Lib.hid (fun W => slegs_any code W)
  have HD := Lib.hid (mxd_dims code)
  have HM := Lib.hid (mxd_bd code)
  have HLN := Lib.hid (legs_len6 code)
  generalize legsOf code = l at *
  generalize dimsN code = n at *
  go_enter Try.func74, Try.ntmps74
  go_wp2_with fail
  refine (HL.out _).mono ?_
  rintro e w1 ⟨v, rfl, HV, hb1⟩
  obtain ⟨ao, cap, rfl⟩ := HV.out.at_
  have HB1 := Lib.hid hb1
  clear hb1
  have hlen : l.length ≤ 6 := HLN.out
  go_wp2_with fail
  go_loopw [4, 10] (fun m i wr => ∃ k : Nat, k ≤ l.length ∧ i = .int .i64 k ∧ m = .int .i64 (mxd (l.take k)) ∧ Below w1.heap.size w1 wr) (fun _ i _ => l.length - (intOf i).toNat)
  case atStart => exact ⟨0, Nat.zero_le _, rfl, rfl, Below.refl _ _⟩
  case round =>
    obtain ⟨k, hk, rfl, rfl, hBr⟩ := hrel
    by_cases hlt : k < l.length
    · obtain ⟨p, hy⟩ : ∃ y, l[k]? = some y := ⟨_, List.getElem?_eq_getElem hlt⟩
      obtain ⟨b, off, rfl, hbl, c0, c1⟩ := legs_get (HV.out.below hBr) hy
      have HS := Lib.hid (mxd_snoc hy)
      have m1 := (HM.out k).1
      have m2 := (HM.out k).2.1
      have m3 := (HM.out k).2.2 p (List.mem_of_getElem? hy)
      generalize mxd (l.take k) = m at *
      have HB := Lib.hid hBr
      clear hy hBr
      go_wp2
      go_roundw
      case rel => exact ⟨k + 1, by omega, by go_num, by rw [HS.out]; exact val_int (by split <;> omega), HB.out.alloc HB.out.size _⟩
      case measure => simp [intOf]; omega
    · obtain rfl : k = l.length := by omega
      rw [List.take_length]
      have m1 := (HM.out l.length).1
      have m2 := (HM.out l.length).2.1
      rw [List.take_length] at m1 m2
      have HD2 := HD.out
      have HB := Lib.hid (bstep HB1.out hBr)
      clear hBr
      by_cases h0 : mxd l < 0
      · obtain rfl : n = 0 := by omega
        generalize mxd l = m at *
        clear HD2
        go_wp2
        go_ret2
        exact ⟨ret2_any rfl (val_int dimsE_none.symm), HB.out⟩
      · have hn : ¬ n = 0 := by omega
        have HN := Lib.hid hn
        have HD3 := Lib.hid HD2
        clear HD2 hn
        generalize mxd l = m at *
        go_wp2
        go_ret2
        exact ⟨ret2_any (val_int HD3.out) (val_int (dimsE_some HN.out).symm), HB.out⟩

/-! ### valid bars -/
def sumI (l : List Int) : Int := l.foldl (· + ·) 0
theorem sumI_snoc {l : List Int} {k : Nat} {x : Int} (h : l[k]? = some x) : sumI (l.take (k + 1)) = sumI (l.take k) + x := by
  have hk := (List.getElem?_eq_some_iff.1 h).1
  unfold sumI
  rw [List.take_succ_eq_append_getElem hk, List.foldl_append, (List.getElem?_eq_some_iff.1 h).2]
  rfl
def headB (x : BarD) : Bool := nameB x.mark && szB x.size && decide (1 ≤ x.count) && decide (x.count ≤ 1000) && decide ((x.dims.length : Int) = dimsN x.code) && decide (dimsN x.code ≠ 0)
def dimsB (l : List Int) : Bool := l.all (fun d => decide (1 ≤ d)) && decide (sumI l ≤ 262144)
def barOk (x : BarD) : Bool := headB x && dimsB x.dims
abbrev barv (x : BarD) (dv : Value) : Value := .agg #[.string x.mark, .int .i64 x.size, .int .i64 x.count, .int .i64 x.code, dv]

/-- Partial sums of numbers from 1 on. -/
theorem sumI_le {l : List Int} (h : ∀ d ∈ l, 1 ≤ d) : ∀ k, sumI (l.take k) ≤ sumI l := by
  have key : ∀ (l : List Int) (m : Int), (∀ d ∈ l, 1 ≤ d) → m ≤ l.foldl (· + ·) m := by
    intro l
    induction l with
    | nil => intro m _; exact Int.le_refl _
    | cons a l ih =>
      intro m h
      have h1 := h a (List.mem_cons_self ..)
      have h2 := ih (m + a) (fun d hd => h d (List.mem_cons_of_mem _ hd))
      simp only [List.foldl_cons]
      omega
  intro k
  have e : sumI l = (l.drop k).foldl (· + ·) (sumI (l.take k)) := by
    unfold sumI
    rw [← List.foldl_append, List.take_append_drop]
  rw [e]
  exact key _ _ (fun d hd => h d (List.mem_of_mem_drop hd))
theorem dimsB_yes {l : List Int} (h : dimsB l = true) : (∀ d ∈ l, 1 ≤ d) ∧ sumI l ≤ 262144 := by
  unfold dimsB at h
  rw [Bool.and_eq_true, decide_eq_true_eq, List.all_eq_true] at h
  exact ⟨fun d hd => by simpa using h.1 d hd, h.2⟩
theorem dimsB_no {l : List Int} {k : Nat} {x : Int} (hk : l[k]? = some x) (h : x < 1 ∨ 262144 < sumI (l.take (k + 1))) : dimsB l = false := by
  cases hd : dimsB l with
  | false => rfl
  | true =>
    obtain ⟨h1, h2⟩ := dimsB_yes hd
    have h3 := h1 x (List.mem_of_getElem? hk)
    have h4 := sumI_le h1 (k + 1)
    omega
theorem dimsB_end {l : List Int} (h1 : ∀ (j : Nat) y, j < l.length → l[j]? = some y → 1 ≤ y) (h2 : sumI (l.take l.length) ≤ 262144) : dimsB l = true := by
  unfold dimsB
  rw [List.take_length] at h2
  rw [Bool.and_eq_true, decide_eq_true_eq, List.all_eq_true]
  refine ⟨fun d hd => ?_, h2⟩
  obtain ⟨j, hj, rfl⟩ := List.getElem_of_mem hd
  simpa using h1 j _ hj (List.getElem?_eq_getElem hj)

set_option maxRecDepth 100000 in
set_option maxHeartbeats 2000000 in
theorem svalid_any (x : BarD) (dv : Value) (w : World) (hd : Ints w dv x.dims) (hm : x.mark.size ≤ maxLen) (hl : x.dims.length ≤ 140737488355328) :
    Calls Try.prog 59 #[barv x dv] w fun e w' => e = .returned (.bool (barOk x)) ∧ Below w.heap.size w w' := by
  obtain ⟨m, s, c, co, ds⟩ := x
  simp only at hd hm hl
  obtain ⟨ao, cap, rfl, hd2⟩ := hd
  have HDV := Lib.hid (show Ints w (.slice ao ds.length cap) ds from ⟨ao, cap, rfl, hd2⟩)
  have HDm := Lib.hid (fun W => dims_any co W)
  have HN := Lib.hid (fun W => name_any m W hm)
  have HZ := Lib.hid (fun W => size_any s W)
  have HO : Hid (barOk ⟨m, s, c, co, ds⟩ = (nameB m && szB s && decide (1 ≤ c) && decide (c ≤ 1000) && decide ((ds.length : Int) = dimsN co) && decide (dimsN co ≠ 0) && dimsB ds)) := rfl
  have hn5 : dimsN co ≤ 5 := by unfold dimsN; (repeat' split) <;> omega
  clear hm hd2
  generalize barOk ⟨m, s, c, co, ds⟩ = ok at *
  generalize dimsN co = n at *
  generalize nameB m = nb at *
  generalize szB s = sb at *
  by_cases hn0 : n = 0
  · subst hn0
    have HF := Lib.hid (show ok = false by rw [HO.out]; simp)
    go_enter Try.func59, Try.ntmps59
    go_wp2_with fail
    refine (HDm.out _).mono ?_
    rintro e w1 ⟨rfl, hb1⟩
    have HB1 := Lib.hid (bstep (by go_grown) hb1 : Below w.heap.size w w1)
    rw [dimsE_none]
    clear hb1
    go_wp2
    go_ret
    exact ⟨ret_bool HF.out.symm, HB1.out⟩
  · have HD0 := Lib.hid (dimsE_some hn0)
    have HN0 := Lib.hid hn0
    clear hn0
    by_cases hc1 : c < 1
    · have HF := Lib.hid (show ok = false by rw [HO.out, dec_no (p := 1 ≤ c) (by omega)]; simp)
      go_enter Try.func59, Try.ntmps59
      go_wp2_with fail
      refine (HDm.out _).mono ?_
      rintro e w1 ⟨rfl, hb1⟩
      have HB1 := Lib.hid (bstep (by go_grown) hb1 : Below w.heap.size w w1)
      have BX1 : Hid (BlkIs w1 w.heap.size 54 #[.string m, .int .i64 s, .int .i64 c, .int .i64 co, .slice ao ds.length cap]) := (BlkIs.new w _ _).below hb1
      rw [HD0.out]
      have c0 := BX1.out.cell 0
      have c1 := BX1.out.cell 1
      have c2 := BX1.out.cell 2
      have c4 := BX1.out.cell 4
      clear hb1
      go_wp2_with (first
        | (go_at_call 75; refine (HN.out _).mono ?_; rintro e w9 ⟨rfl, rfl⟩)
        | (go_at_call 76; refine (HZ.out _).mono ?_; rintro e w2 ⟨rfl, hb2⟩; have HB2 := Lib.hid (bstep HB1.out hb2); have BX2 := Lib.hid (BX1.out.below hb2); clear hb2 c0 c1 c2 c4; have c2 := BX2.out.cell 2; have c4 := BX2.out.cell 4))
      all_goals
        go_ret
        exact ⟨ret_bool HF.out.symm, by first | exact HB1.out | exact HB2.out⟩
    · by_cases hc2 : 1000 < c
      · have HF := Lib.hid (show ok = false by rw [HO.out, dec_no (p := c ≤ 1000) (by omega)]; simp)
        go_enter Try.func59, Try.ntmps59
        go_wp2_with fail
        refine (HDm.out _).mono ?_
        rintro e w1 ⟨rfl, hb1⟩
        have HB1 := Lib.hid (bstep (by go_grown) hb1 : Below w.heap.size w w1)
        have BX1 : Hid (BlkIs w1 w.heap.size 54 #[.string m, .int .i64 s, .int .i64 c, .int .i64 co, .slice ao ds.length cap]) := (BlkIs.new w _ _).below hb1
        rw [HD0.out]
        have c0 := BX1.out.cell 0
        have c1 := BX1.out.cell 1
        have c2 := BX1.out.cell 2
        have c4 := BX1.out.cell 4
        clear hb1
        go_wp2_with (first
          | (go_at_call 75; refine (HN.out _).mono ?_; rintro e w9 ⟨rfl, rfl⟩)
          | (go_at_call 76; refine (HZ.out _).mono ?_; rintro e w2 ⟨rfl, hb2⟩; have HB2 := Lib.hid (bstep HB1.out hb2); have BX2 := Lib.hid (BX1.out.below hb2); clear hb2 c0 c1 c2 c4; have c2 := BX2.out.cell 2; have c4 := BX2.out.cell 4))
        all_goals
          go_ret
          exact ⟨ret_bool HF.out.symm, by first | exact HB1.out | exact HB2.out⟩
      · by_cases hln : ds.length = n
        · have HE : Hid (ok = (nb && sb && dimsB ds)) := by
            unfold Hid
            rw [HO.out, dec_yes (p := 1 ≤ c) (by omega), dec_yes (p := c ≤ 1000) (by omega), dec_yes (p := (ds.length : Int) = n) (by omega), dec_yes HN0.out]; simp
          have hln2 : ((ds.length : Int) != (n : Int)) = false := bne_no (by omega)
          have HLN := Lib.hid hln
          clear hln
          cases nb
          · have HF := Lib.hid (show ok = false by rw [HE.out]; rfl)
            go_enter Try.func59, Try.ntmps59
            go_wp2_with fail
            refine (HDm.out _).mono ?_
            rintro e w1 ⟨rfl, hb1⟩
            have HB1 := Lib.hid (bstep (by go_grown) hb1 : Below w.heap.size w w1)
            have BX1 : Hid (BlkIs w1 w.heap.size 54 #[.string m, .int .i64 s, .int .i64 c, .int .i64 co, .slice ao ds.length cap]) := (BlkIs.new w _ _).below hb1
            rw [HD0.out]
            have c0 := BX1.out.cell 0
            have c1 := BX1.out.cell 1
            have c2 := BX1.out.cell 2
            have c4 := BX1.out.cell 4
            clear hb1
            go_wp2_with (first
              | (go_at_call 75; refine (HN.out _).mono ?_; rintro e w9 ⟨rfl, rfl⟩)
              | (go_at_call 76; refine (HZ.out _).mono ?_; rintro e w2 ⟨rfl, hb2⟩; have HB2 := Lib.hid (bstep HB1.out hb2); have BX2 := Lib.hid (BX1.out.below hb2); clear hb2 c0 c1 c2 c4; have c2 := BX2.out.cell 2; have c4 := BX2.out.cell 4))
            all_goals
              go_ret
              exact ⟨ret_bool HF.out.symm, by first | exact HB1.out | exact HB2.out⟩
          · cases sb
            · have HF := Lib.hid (show ok = false by rw [HE.out]; rfl)
              go_enter Try.func59, Try.ntmps59
              go_wp2_with fail
              refine (HDm.out _).mono ?_
              rintro e w1 ⟨rfl, hb1⟩
              have HB1 := Lib.hid (bstep (by go_grown) hb1 : Below w.heap.size w w1)
              have BX1 : Hid (BlkIs w1 w.heap.size 54 #[.string m, .int .i64 s, .int .i64 c, .int .i64 co, .slice ao ds.length cap]) := (BlkIs.new w _ _).below hb1
              rw [HD0.out]
              have c0 := BX1.out.cell 0
              have c1 := BX1.out.cell 1
              have c2 := BX1.out.cell 2
              have c4 := BX1.out.cell 4
              clear hb1
              go_wp2_with (first
                | (go_at_call 75; refine (HN.out _).mono ?_; rintro e w9 ⟨rfl, rfl⟩)
                | (go_at_call 76; refine (HZ.out _).mono ?_; rintro e w2 ⟨rfl, hb2⟩; have HB2 := Lib.hid (bstep HB1.out hb2); have BX2 := Lib.hid (BX1.out.below hb2); clear hb2 c0 c1 c2 c4; have c2 := BX2.out.cell 2; have c4 := BX2.out.cell 4))
              all_goals
                go_ret
                exact ⟨ret_bool HF.out.symm, by first | exact HB1.out | exact HB2.out⟩
            · have HF := Lib.hid (show ok = dimsB ds by rw [HE.out]; rfl)
              go_enter Try.func59, Try.ntmps59
              go_wp2_with fail
              refine (HDm.out _).mono ?_
              rintro e w1 ⟨rfl, hb1⟩
              have HB1 := Lib.hid (bstep (by go_grown) hb1 : Below w.heap.size w w1)
              have BX1 : Hid (BlkIs w1 w.heap.size 54 #[.string m, .int .i64 s, .int .i64 c, .int .i64 co, .slice ao ds.length cap]) := (BlkIs.new w _ _).below hb1
              rw [HD0.out]
              have c0 := BX1.out.cell 0
              have c1 := BX1.out.cell 1
              have c2 := BX1.out.cell 2
              have c4 := BX1.out.cell 4
              clear hb1
              go_wp2_with (first
                | (go_at_call 75; refine (HN.out _).mono ?_; rintro e w9 ⟨rfl, rfl⟩)
                | (go_at_call 76; refine (HZ.out _).mono ?_; rintro e w2 ⟨rfl, hb2⟩; have HB2 := Lib.hid (bstep HB1.out hb2); have BX2 := Lib.hid (BX1.out.below hb2); clear hb2 c0 c1 c2 c4; have c2 := BX2.out.cell 2; have c4 := BX2.out.cell 4))
              have hl6 : ds.length ≤ 5 := by rw [HLN.out]; exact hn5
              clear c2 c4 HD0 HN HZ HDm HO HE HB1 BX1 hl
              go_loop [5, 7, 48] (fun r _ i => ∃ k : Nat, k ≤ ds.length ∧ i = .int .i64 k ∧ r = .int .i64 (262144 - sumI (ds.take k)) ∧ Hid ((∀ (j : Nat) y, j < k → ds[j]? = some y → 1 ≤ y) ∧ 0 ≤ sumI (ds.take k) ∧ sumI (ds.take k) ≤ 262144)) (fun _ _ i => ds.length - (intOf i).toNat)
              case atStart => exact ⟨0, Nat.zero_le _, rfl, rfl, fun j y hj => by omega, by rw [List.take_zero]; decide, by rw [List.take_zero]; decide⟩
              case round =>
                obtain ⟨k, hk, rfl, rfl, HR⟩ := hrel
                obtain ⟨_, r1, r2⟩ := HR.out
                by_cases hlt : k < ds.length
                · obtain ⟨y, hy⟩ : ∃ y, ds[k]? = some y := ⟨_, List.getElem?_eq_getElem hlt⟩
                  have HS := Lib.hid (sumI_snoc hy)
                  have HY := Lib.hid hy
                  obtain ⟨_, _, hv, hcc⟩ := HDV.out
                  cases hv
                  obtain ⟨b, off, rfl, hbl, hcell⟩ := hcc (by omega)
                  have hck := (HB2.out.cell (p := ⟨b, off + k, none⟩) hbl).trans (hcell k y hy)
                  clear hcc hcell hy
                  by_cases hbad : y < 1 ∨ 262144 - sumI (ds.take k) < y
                  · have HX := Lib.hid (show ok = false by rw [HF.out]; exact dimsB_no HY.out (by rw [HS.out]; omega))
                    generalize sumI (ds.take k) = q at *
                    rcases hbad with hbad | hbad
                    · go_wp2
                      go_ret
                      exact ⟨ret_bool HX.out.symm, HB2.out⟩
                    · go_wp2
                      all_goals
                        go_ret
                        exact ⟨ret_bool HX.out.symm, HB2.out⟩
                  · have y1 : ¬ y < 1 := by omega
                    have y2 : ¬ 262144 - sumI (ds.take k) < y := by omega
                    clear hbad
                    generalize hq : sumI (ds.take k) = q at *
                    have HQ := Lib.hid hq
                    clear hq
                    go_wp2
                    go_round
                    case rel => exact ⟨k + 1, by omega, by go_num, by rw [HS.out]; exact val_int (by omega), fun j z hj hz => by
                      by_cases e : j = k
                      · subst e; rw [HY.out] at hz; cases hz; omega
                      · exact HR.out.1 j z (by omega) hz, by rw [HS.out]; omega, by rw [HS.out]; omega⟩
                    case measure => simp [intOf]; omega
                · obtain rfl : k = ds.length := by omega
                  have HX := Lib.hid (show ok = true by rw [HF.out]; exact dimsB_end HR.out.1 HR.out.2.2)
                  go_wp2
                  go_ret
                  exact ⟨ret_bool HX.out.symm, HB2.out⟩
        · have HF := Lib.hid (show ok = false by rw [HO.out, dec_no (p := (ds.length : Int) = n) (by omega)]; simp)
          have hln2 : ((ds.length : Int) != (n : Int)) = true := bne_yes (by omega)
          clear hln
          go_enter Try.func59, Try.ntmps59
          go_wp2_with fail
          refine (HDm.out _).mono ?_
          rintro e w1 ⟨rfl, hb1⟩
          have HB1 := Lib.hid (bstep (by go_grown) hb1 : Below w.heap.size w w1)
          have BX1 : Hid (BlkIs w1 w.heap.size 54 #[.string m, .int .i64 s, .int .i64 c, .int .i64 co, .slice ao ds.length cap]) := (BlkIs.new w _ _).below hb1
          rw [HD0.out]
          have c0 := BX1.out.cell 0
          have c1 := BX1.out.cell 1
          have c2 := BX1.out.cell 2
          have c4 := BX1.out.cell 4
          clear hb1
          go_wp2_with (first
            | (go_at_call 75; refine (HN.out _).mono ?_; rintro e w9 ⟨rfl, rfl⟩)
            | (go_at_call 76; refine (HZ.out _).mono ?_; rintro e w2 ⟨rfl, hb2⟩; have HB2 := Lib.hid (bstep HB1.out hb2); have BX2 := Lib.hid (BX1.out.below hb2); clear hb2 c0 c1 c2 c4; have c2 := BX2.out.cell 2; have c4 := BX2.out.cell 4))
          all_goals
            go_ret
            exact ⟨ret_bool HF.out.symm, by first | exact HB1.out | exact HB2.out⟩
end Go.Proofs.Ytpidjgljeooblaa
