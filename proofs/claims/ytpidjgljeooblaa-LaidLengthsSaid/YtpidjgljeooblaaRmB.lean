/-
  The reference's dimensions and valid bars are the program's. The reference's line of a mark, and valid schedules, are the program's.
-/
import Derived.Test.YtpidjgljeooblaaShC
import Derived.Deep.RegionHeld3
import Derived.Test.YtpidjgljeooblaaQbl
import Derived.Test.YtpidjgljeooblaaScB
namespace Go.Proofs.Ytpidjgljeooblaa
section
open Go.RowKit
set_option linter.unusedVariables false
set_option linter.unusedSimpArgs false
attribute [local go_sem ↓] Go.wp_at_zero Go.wp_at_succ

set_option maxHeartbeats 1000000 in
theorem rdims_any (code : Int) (w : World) : Calls Try.prog 83 #[.int .i64 code] w fun e w' => e = .returned (.int .i64 (dimsN code)) ∧ w = w' := by
  rcases code_cases code with (rfl | rfl | rfl | rfl | rfl | rfl | rfl | rfl) | ⟨_, hn, h0, h1, h2, h3, h4, h5, h6, h7⟩
  all_goals try
    go_enter Try.func83, Try.ntmps83
    go_wp2
    go_ret
    exact ⟨rfl, rfl⟩
  rw [hn]
  clear hn
  have g0 := beq_no h0
  have g1 := beq_no h1
  have g2 := beq_no h2
  have g3 := beq_no h3
  have g4 := beq_no h4
  have g5 := beq_no h5
  have g6 := beq_no h6
  have g7 := beq_no h7
  clear h0 h1 h2 h3 h4 h5 h6 h7
  go_enter Try.func83, Try.ntmps83
  go_wp2
  go_ret
  exact ⟨rfl, rfl⟩

abbrev Five (g : Nat) (m : ByteArray) (s c co : Int) (dv : Value) (W : World) : Prop :=
  W.cell? ⟨g, 0, none⟩ = some (.string m) ∧ W.cell? ⟨g, 1, none⟩ = some (.int .i64 s) ∧ W.cell? ⟨g, 2, none⟩ = some (.int .i64 c) ∧ W.cell? ⟨g, 3, none⟩ = some (.int .i64 co) ∧ W.cell? ⟨g, 4, none⟩ = some dv
def BarW (w : World) (g : Nat) (m : ByteArray) (s c co : Int) (dv : Value) (W : World) : Prop := Below w.heap.size w W ∧ BlkIs W g 54 #[.string m, .int .i64 s, .int .i64 c, .int .i64 co, dv]
section
variable {w W W' : World} {g : Nat} {m : ByteArray} {s c co : Int} {dv : Value}
theorem BarW.after (h : BarW w g m s c co dv W) (hb : Below W.heap.size W W') : BarW w g m s c co dv W' := ⟨bstep h.1 hb, h.2.below hb⟩
theorem BarW.drew (h : BarW w g m s c co dv W) : BarW w g m s c co dv W.drew := ⟨h.1.drew, h.2⟩
theorem BarW.five (h : BarW w g m s c co dv W) : Five g m s c co dv W := ⟨h.2.cell 0, h.2.cell 1, h.2.cell 2, h.2.cell 3, h.2.cell 4⟩
end


set_option maxRecDepth 100000 in
set_option maxHeartbeats 4000000 in
theorem rvalid_no (nb sb : Bool) (m : ByteArray) (s c co : Int) (L n : Nat) (ao : Option Addr) (cap : Nat) (w : World) (hn : dimsN co = n) (hL : L ≤ 140737488355328)
    (HN0 : Hid (∀ W, Calls Try.prog 81 #[.string m] W fun e w' => e = .returned (.bool nb) ∧ W = w'))
    (HZ0 : Hid (∀ W, Calls Try.prog 82 #[.int .i64 s] W fun e w' => e = .returned (.bool sb) ∧ Below W.heap.size W w'))
    (h : (nb && sb && decide (1 ≤ c) && decide (c ≤ 1000) && decide ((L : Int) = n) && decide (n ≠ 0)) = false) :
    Calls Try.prog 65 #[.agg #[.string m, .int .i64 s, .int .i64 c, .int .i64 co, .slice ao L cap]] w fun e w' => e = .returned (.bool false) ∧ Below w.heap.size w w' := by
  have HD : Hid (∀ W, Calls Try.prog 83 #[.int .i64 co] W fun e w' => e = .returned (.int .i64 (n : Int)) ∧ W = w') := fun W => by rw [← hn]; exact rdims_any co W
  clear hn
  have HS : Hid (nb = false ∨ (nb = true ∧ sb = false) ∨ (nb = true ∧ sb = true ∧ (decide (c < 1) = true ∨ (decide (c < 1) = false ∧ (decide (1000 < c) = true ∨ (decide (1000 < c) = false ∧ (((n : Int) == 0) = true ∨ (((n : Int) == 0) = false ∧ ((L : Int) != (n : Int)) = true)))))))) := by
    cases nb
    · exact .inl rfl
    · cases sb
      · exact .inr (.inl ⟨rfl, rfl⟩)
      · refine .inr (.inr ⟨rfl, rfl, ?_⟩)
        by_cases h1 : c < 1
        · exact .inl (dec_yes h1)
        · refine .inr ⟨dec_no h1, ?_⟩
          by_cases h2 : 1000 < c
          · exact .inl (dec_yes h2)
          · refine .inr ⟨dec_no h2, ?_⟩
            rw [dec_yes (p := 1 ≤ c) (by omega), dec_yes (p := c ≤ 1000) (by omega)] at h
            by_cases h3 : (n : Int) = 0
            · exact .inl (beq_yes h3)
            · refine .inr ⟨beq_no h3, bne_yes fun h4 => ?_⟩
              rw [dec_yes h4, dec_yes (p := n ≠ 0) (by omega)] at h
              cases h
  clear h
  go_enter Try.func65, Try.ntmps65
  go_upto_region 1 with fail
  obtain ⟨W0, hW0⟩ : ∃ W0, w.alloc (.cells #[.string m, .int .i64 s, .int .i64 c, .int .i64 co, .slice ao L cap] 54) = W0 := ⟨_, rfl⟩
  have HW : Hid (BarW w w.heap.size m s c co (.slice ao L cap) W0) := by rw [← hW0]; exact ⟨below_new _ _, BlkIs.new _ _ _⟩
  rw [hW0]
  clear hW0
  obtain ⟨f0, f1, f2, f3, f4⟩ := HW.out.five
  have c0 := fun d os => cell_regrown f0 d os
  have c1 := fun d os => cell_regrown f1 d os
  have c2 := fun d os => cell_regrown f2 d os
  have c3 := fun d os => cell_regrown f3 d os
  have c4 := fun d os => cell_regrown f4 d os
  clear f0 f1 f2 f3 f4
  refine wp_region_quiet_below (by kernel_rfl) (by kernel_rfl) ?_
  rcases HS.out with rfl | ⟨rfl, rfl⟩ | ⟨rfl, rfl, h1 | ⟨h1, h2 | ⟨h2, h3 | ⟨h3, h4⟩⟩⟩⟩
  all_goals
    repeat (go_big_quiet_step ((first
      | (go_at_call 81; exact Calls.regrown_of ((HN0.out _).mono fun _ _ ⟨h1, h2⟩ => ⟨h1, by subst h2; exact Below.refl _ _⟩))
      | (go_at_call 82; exact Calls.regrown_of (HZ0.out _))
      | (go_at_call 83; exact Calls.regrown_of ((HD.out _).mono fun _ _ ⟨h1, h2⟩ => ⟨h1, by subst h2; exact Below.refl _ _⟩)))))
    refine wpQuiet_nil ?_
    intro _ hw'
    obtain ⟨⟨nq, osq⟩, hw''⟩ := hw'
    subst hw''
    go_wp2
    go_ret
    exact ⟨rfl, below_reg HW.out.1 _ _⟩

theorem dimsB_bad {l : List Int} {k : Nat} {x : Int} (hk : l[k]? = some x) (h1 : ∀ (j : Nat) y, j < k → l[j]? = some y → 1 ≤ y) (h0 : 0 ≤ sumI (l.take k)) (h : x < 1 ∨ 1048576 < x) : dimsB l = false := by
  have e := sumI_snoc hk
  exact dimsB_no hk (by omega)

set_option maxRecDepth 100000 in
set_option maxHeartbeats 4000000 in
theorem rvalid_yes (m : ByteArray) (s c co : Int) (ds : List Int) (n : Nat) (ao : Option Addr) (cap : Nat) (w : World) (hd : Ints w (.slice ao ds.length cap) ds) (hn : dimsN co = n) (hL : ds.length ≤ 5)
    (HN0 : Hid (∀ W, Calls Try.prog 81 #[.string m] W fun e w' => e = .returned (.bool true) ∧ W = w'))
    (HZ0 : Hid (∀ W, Calls Try.prog 82 #[.int .i64 s] W fun e w' => e = .returned (.bool true) ∧ Below W.heap.size W w'))
    (h1 : decide (c < 1) = false) (h2 : decide (1000 < c) = false) (h3 : ((n : Int) == 0) = false) (h4 : ((ds.length : Int) != (n : Int)) = false) :
    Calls Try.prog 65 #[.agg #[.string m, .int .i64 s, .int .i64 c, .int .i64 co, .slice ao ds.length cap]] w fun e w' => e = .returned (.bool (dimsB ds)) ∧ Below w.heap.size w w' := by
  have HD : Hid (∀ W, Calls Try.prog 83 #[.int .i64 co] W fun e w' => e = .returned (.int .i64 (n : Int)) ∧ W = w') := fun W => by rw [← hn]; exact rdims_any co W
  have HDV := Lib.hid hd
  obtain ⟨ok, hok⟩ : ∃ ok, dimsB ds = ok := ⟨_, rfl⟩
  have HO := Lib.hid hok
  rw [hok]
  clear hn hd hok
  go_enter Try.func65, Try.ntmps65
  go_upto_region 1 with fail
  obtain ⟨W0, hW0⟩ : ∃ W0, w.alloc (.cells #[.string m, .int .i64 s, .int .i64 c, .int .i64 co, .slice ao ds.length cap] 54) = W0 := ⟨_, rfl⟩
  have HW : Hid (BarW w w.heap.size m s c co (.slice ao ds.length cap) W0) := by rw [← hW0]; exact ⟨below_new _ _, BlkIs.new _ _ _⟩
  rw [hW0]
  clear hW0
  obtain ⟨f0, f1, f2, f3, f4⟩ := HW.out.five
  have c0 := fun d os => cell_regrown f0 d os
  have c1 := fun d os => cell_regrown f1 d os
  have c2 := fun d os => cell_regrown f2 d os
  have c3 := fun d os => cell_regrown f3 d os
  have c4 := fun d os => cell_regrown f4 d os
  clear f0 f1 f2 f3 f4
  refine wp_region_quiet_below (by kernel_rfl) (by kernel_rfl) ?_
  repeat (go_big_quiet_step ((first
    | (go_at_call 81; exact Calls.regrown_of ((HN0.out _).mono fun _ _ ⟨h1, h2⟩ => ⟨h1, by subst h2; exact Below.refl _ _⟩))
    | (go_at_call 82; exact Calls.regrown_of (HZ0.out _))
    | (go_at_call 83; exact Calls.regrown_of ((HD.out _).mono fun _ _ ⟨h1, h2⟩ => ⟨h1, by subst h2; exact Below.refl _ _⟩)))))
  refine wpQuiet_nil ?_
  intro _ hw'
  obtain ⟨⟨nq, osq⟩, hw''⟩ := hw'
  subst hw''
  have HB : Hid (Below w.heap.size w (Go.Sort.grow (redrawn W0 nq) osq)) := below_reg HW.out.1 _ _
  have g4 := c4 nq osq
  clear c0 c1 c2 c3 c4 HW h1 h2 h3 h4 HN0 HZ0 HD
  generalize Go.Sort.grow (redrawn W0 nq) osq = W at *
  go_wp2_with fail
  go_loop [3, 4] (fun t i => ∃ k : Nat, k ≤ ds.length ∧ i = .int .i64 k ∧ t = .int .i64 (sumI (ds.take k)) ∧ Hid ((∀ (j : Nat) y, j < k → ds[j]? = some y → 1 ≤ y) ∧ 0 ≤ sumI (ds.take k) ∧ sumI (ds.take k) ≤ k * 1048576)) (fun _ i => ds.length - (intOf i).toNat)
  case atStart => exact ⟨0, Nat.zero_le _, rfl, rfl, fun j y hj => by omega, by rw [List.take_zero]; decide, by rw [List.take_zero]; decide⟩
  case round =>
    obtain ⟨k, hk, rfl, rfl, HR⟩ := hrel
    have r1 := HR.out.2.1
    have r2 := HR.out.2.2
    by_cases hlt : k < ds.length
    · obtain ⟨y, hy⟩ : ∃ y, ds[k]? = some y := ⟨_, List.getElem?_eq_getElem hlt⟩
      have HS := Lib.hid (sumI_snoc hy)
      have HY := Lib.hid hy
      obtain ⟨_, _, hv, hcc⟩ := HDV.out
      cases hv
      obtain ⟨b, off, rfl, hbl, hcell⟩ := hcc (by omega)
      have hck := (HB.out.cell (p := ⟨b, off + k, none⟩) hbl).trans (hcell k y hy)
      clear hcc hcell hy
      by_cases hbad : y < 1 ∨ 1048576 < y
      · have HX := Lib.hid (show false = ok from (dimsB_bad HY.out HR.out.1 HR.out.2.1 hbad).symm.trans HO.out)
        generalize sumI (ds.take k) = q at *
        rcases hbad with hbad | hbad
        · go_wp2
          go_ret
          exact ⟨ret_bool HX.out, HB.out⟩
        · go_wp2
          all_goals
            go_ret
            exact ⟨ret_bool HX.out, HB.out⟩
      · have y1 : ¬ y < 1 := by omega
        have y2 : ¬ 1048576 < y := by omega
        clear hbad
        generalize hq : sumI (ds.take k) = q at *
        have HQ := Lib.hid hq
        clear hq
        go_wp2
        go_round
        case rel => exact ⟨k + 1, by omega, by go_num, by rw [HS.out], fun j z hj hz => by
          by_cases e : j = k
          · subst e; rw [HY.out] at hz; cases hz; omega
          · exact HR.out.1 j z (by omega) hz, by rw [HS.out]; omega, by rw [HS.out]; omega⟩
        case measure => simp [intOf]; omega
    · obtain rfl : k = ds.length := by omega
      have HX : Hid (dimsB ds = decide (sumI (ds.take ds.length) ≤ 262144)) := by
        unfold Hid
        by_cases h5 : sumI (ds.take ds.length) ≤ 262144
        · rw [dec_yes h5]; exact dimsB_end HR.out.1 h5
        · rw [dec_no h5]
          cases hd : dimsB ds with
          | false => rfl
          | true =>
            have := (dimsB_yes hd).2
            rw [List.take_length] at h5
            exact absurd this h5
      generalize sumI (ds.take ds.length) = q at *
      go_wp2
      go_ret
      exact ⟨ret_bool (HX.out.symm.trans HO.out), HB.out⟩

theorem rvalid_any (x : BarD) (dv : Value) (w : World) (hd : Ints w dv x.dims) (hm : x.mark.size ≤ maxLen) (hl : x.dims.length ≤ 140737488355328) :
    Calls Try.prog 65 #[barv x dv] w fun e w' => e = .returned (.bool (barOk x)) ∧ Below w.heap.size w w' := by
  have HN := Lib.hid (fun W => rname_any x.mark W hm)
  have HZ := Lib.hid (fun W => rsize_any x.size W)
  have hn5 : dimsN x.code ≤ 5 := by unfold dimsN; (repeat' split) <;> omega
  obtain ⟨ao, cap, rfl, hd2⟩ := id hd
  cases hh : headB x with
  | false =>
    have e : barOk x = false := by unfold barOk; rw [hh]; rfl
    rw [e]
    exact rvalid_no _ _ x.mark x.size x.count x.code x.dims.length _ ao cap w rfl hl HN HZ hh
  | true =>
    have e : barOk x = dimsB x.dims := by unfold barOk; rw [hh]; rfl
    unfold headB at hh
    simp only [Bool.and_eq_true, decide_eq_true_eq] at hh
    obtain ⟨⟨⟨⟨⟨h1, h2⟩, h3⟩, h4⟩, h5⟩, h6⟩ := hh
    rw [h1] at HN
    rw [h2] at HZ
    rw [e]
    exact rvalid_yes x.mark x.size x.count x.code x.dims _ ao cap w hd rfl (by omega) HN HZ (dec_no (by omega)) (dec_no (by omega)) (beq_no (by omega)) (bne_no h5)
end

section
open Go.RowKit
set_option linter.unusedVariables false
set_option linter.unusedSimpArgs false

set_option maxHeartbeats 1000000 in
theorem rfind_any (v : Value) (l : List BarD) (m : ByteArray) (w : World) (hp : Bars w v l) (hl : l.length ≤ 140737488355328) :
    Calls Try.prog 28 #[v, .string m] w fun e w' => e = .returned (.int .i64 (findZ l m)) ∧ w = w' := by
  obtain ⟨ao, cap, rfl⟩ := hp.at_
  have HP := Lib.hid hp
  clear hp
  go_enter Try.func28, Try.ntmps28
  go_wp2
  go_loop [5] (fun i => ∃ k : Nat, k ≤ l.length ∧ i = .int .i64 k ∧ Hid (∀ (j : Nat) y, j < k → l[j]? = some y → isMark m y = false)) (fun i => l.length - (intOf i).toNat)
  case atStart => exact ⟨0, Nat.zero_le _, rfl, fun j _ hj => by omega⟩
  case round =>
    obtain ⟨k, hk, rfl, hno⟩ := hrel
    by_cases hk2 : k < l.length
    · obtain ⟨x, hy⟩ : ∃ y, l[k]? = some y := ⟨_, List.getElem?_eq_getElem hk2⟩
      obtain ⟨b, off, rfl, hbl, c0, c1, c2, c3, uo, uc, c4, hdx⟩ := bars_get HP.out hy
      have HY := Lib.hid hy
      have hq := bytes_beq x.mark m
      clear hy hdx c1 c2 c3 c4
      by_cases he : x.mark = m
      · have hq2 : (x.mark.toList == m.toList) = true := hq.trans (dec_yes he)
        have HR := Lib.hid (show findZ l m = k from idxZ_hit hno.out HY.out (dec_yes he))
        clear he hq
        go_wp2
        go_ret
        exact ⟨ret_int HR.out.symm, rfl⟩
      · have hq2 : (x.mark.toList == m.toList) = false := hq.trans (dec_no he)
        have HE := Lib.hid he
        clear he hq
        go_wp2
        go_round
        case rel => exact ⟨k + 1, by omega, by go_num, fun j z hj hz => by
          by_cases e : j = k
          · subst e; rw [HY.out] at hz; cases hz; exact dec_no HE.out
          · exact hno.out j z (by omega) hz⟩
        case measure => simp [intOf]; omega
    · have HR := Lib.hid (show findZ l m = -1 from idxZ_miss (p := isMark m) (fun j y hy => hno.out j y (by have := (List.getElem?_eq_some_iff.1 hy).1; omega) hy))
      go_wp2
      go_ret
      exact ⟨ret_int HR.out.symm, rfl⟩

set_option maxHeartbeats 2000000 in
theorem rsched_any (v : Value) (l : List BarD) (w : World) (hp : Bars w v l) (hl : l.length ≤ 140737488355328) (hf : FitB l) :
    Calls Try.prog 43 #[v] w fun e w' => e = .returned (.bool (schedOk l)) ∧ Below w.heap.size w w' := by
  obtain ⟨ao, cap, rfl⟩ := hp.at_
  have HP := Lib.hid hp
  have HFI := Lib.hid hf
  clear hp hf
  rcases Nat.lt_or_ge 60 l.length with h60 | h60
  · have HF := Lib.hid (sched_big h60)
    have h61 : (60 : Int) < (l.length : Int) := by omega
    go_enter Try.func43, Try.ntmps43
    go_wp2
    go_ret
    exact ⟨ret_bool HF.out.symm, Below.refl _ _⟩
  · have h61 : ¬ (60 : Int) < (l.length : Int) := by omega
    have H60 := Lib.hid h60
    go_enter Try.func43, Try.ntmps43
    go_wp2
    go_loopw [3] (fun i wr => ∃ k : Nat, k ≤ l.length ∧ i = .int .i64 k ∧ Below w.heap.size w wr ∧ Hid (∀ (j : Nat) b, j < k → l[j]? = some b → (barOk b && decide (findZ l b.mark = j)) = true)) (fun i _ => l.length - (intOf i).toNat)
    case atStart => exact ⟨0, Nat.zero_le _, rfl, Below.refl _ _, fun j _ hj => by omega⟩
    case round =>
      obtain ⟨k, hk, rfl, hBr, hno⟩ := hrel
      by_cases hk2 : k < l.length
      · obtain ⟨x, hy⟩ : ∃ y, l[k]? = some y := ⟨_, List.getElem?_eq_getElem hk2⟩
        have HPr := Lib.hid (HP.out.below hBr)
        obtain ⟨b, off, rfl, hbl, c0, c1, c2, c3, uo, uc, c4, hdim⟩ := bars_get HPr.out hy
        have HY := Lib.hid hy
        obtain ⟨hm1, hm2⟩ := HFI.out x (List.mem_of_getElem? hy)
        have HVA := Lib.hid (rvalid_any x (.slice uo x.dims.length uc) wr hdim hm1 hm2)
        have HIX := Lib.hid (fun W (hW : Below w.heap.size w W) => rfind_any (.slice (some ⟨b, off, none⟩) l.length cap) l x.mark W (HP.out.below hW) hl)
        have HB := Lib.hid hBr
        obtain ⟨q, hq⟩ : ∃ q, barOk x = q := ⟨_, rfl⟩
        rw [hq] at HVA
        have HQ := Lib.hid hq
        clear hy hq hdim hm1 hm2 hBr
        cases q
        · have HF := Lib.hid (sched_no HY.out (by rw [HQ.out]; rfl))
          go_wp2_with fail
          refine HVA.out.mono ?_
          rintro e w9 ⟨rfl, hb9⟩
          have HB9 := Lib.hid (bstep HB.out hb9)
          clear hb9
          go_wp2
          go_ret
          exact ⟨ret_bool HF.out.symm, HB9.out⟩
        · go_wp2_with fail
          refine HVA.out.mono ?_
          rintro e w9 ⟨rfl, hb9⟩
          have HB9 := Lib.hid (bstep HB.out hb9)
          have d0 := hb9.cell (block_lt_of_cell c0)
          rw [c0] at d0
          clear hb9 c0 c1 c2 c3 c4
          obtain ⟨fz, hfz⟩ : ∃ fz, findZ l x.mark = fz := ⟨_, rfl⟩
          rw [hfz] at HIX
          have HFZ := Lib.hid hfz
          clear hfz
          by_cases he : fz = k
          · have he2 : (fz != (k : Int)) = false := bne_no he
            have HE := Lib.hid he
            clear he
            go_wp2_with fail
            refine (HIX.out _ HB9.out).mono ?_
            rintro e w8 ⟨rfl, rfl⟩
            go_wp2
            go_roundw
            case rel => exact ⟨k + 1, by omega, by go_num, HB9.out, fun j z hj hz => by
              by_cases e : j = k
              · subst e; rw [HY.out] at hz; cases hz; rw [HQ.out, HFZ.out, dec_yes HE.out]; rfl
              · exact hno.out j z (by omega) hz⟩
            case measure => simp [intOf]; omega
          · have he2 : (fz != (k : Int)) = true := bne_yes he
            have HF := Lib.hid (sched_no HY.out (by rw [HQ.out, HFZ.out, dec_no he]; rfl))
            clear he
            go_wp2_with fail
            refine (HIX.out _ HB9.out).mono ?_
            rintro e w8 ⟨rfl, rfl⟩
            go_wp2
            go_ret
            exact ⟨ret_bool HF.out.symm, HB9.out⟩
      · have HT := Lib.hid (sched_yes H60.out (fun i b hi hb => hno.out i b (by omega) hb))
        go_wp2
        go_ret
        exact ⟨ret_bool HT.out.symm, hBr⟩
end
end Go.Proofs.Ytpidjgljeooblaa
