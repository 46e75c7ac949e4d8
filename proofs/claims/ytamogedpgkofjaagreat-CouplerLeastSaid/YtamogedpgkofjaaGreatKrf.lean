/-
  Base texts, shaken by wip/shake.py: Rfx.
-/
import Derived.Deep.RegionHeld3
import Derived.StillTailTactics
import Derived.Test.YtamogedpgkofjaaGreatKsh
import Derived.Test.YtamogedpgkofjaaGreatKqb
import Derived.Test.YtamogedpgkofjaaGreatKsc
import Derived.Test.YtamogedpgkofjaaGreatKbx
namespace Go.Proofs.YtamogedpgkofjaaGreat
section
section
section
open Go.RowKit
set_option linter.unusedVariables false
set_option linter.unusedSimpArgs false
attribute [local go_sem ↓] Go.wp_at_zero Go.wp_at_succ

set_option maxHeartbeats 1000000 in
theorem rdims_any (code : Int) (w : World) : Calls Tryz.prog 169 #[.int .i64 code] w fun e w' => e = .returned (.int .i64 (dimsN code)) ∧ w = w' := by
  rcases code_cases code with (rfl | rfl | rfl | rfl | rfl | rfl | rfl | rfl) | ⟨_, hn, h0, h1, h2, h3, h4, h5, h6, h7⟩
  all_goals try
    go_enter Tryz.func169, Tryz.ntmps169
    go_wp2
    go_ret
    exact ⟨rfl, rfl⟩
  rw [hn]
  clear hn
  have g0 := beq_no h0
  have g1 := beq_no h1
  have g2 := beq_no h2
  have g3 := beq_no h3
  have g4 := beq_no h4
  have g5 := beq_no h5
  have g6 := beq_no h6
  have g7 := beq_no h7
  clear h0 h1 h2 h3 h4 h5 h6 h7
  go_enter Tryz.func169, Tryz.ntmps169
  go_wp2
  go_ret
  exact ⟨rfl, rfl⟩

abbrev Five (g : Nat) (m : ByteArray) (s c co : Int) (dv : Value) (W : World) : Prop :=
  W.cell? ⟨g, 0, none⟩ = some (.string m) ∧ W.cell? ⟨g, 1, none⟩ = some (.int .i64 s) ∧ W.cell? ⟨g, 2, none⟩ = some (.int .i64 c) ∧ W.cell? ⟨g, 3, none⟩ = some (.int .i64 co) ∧ W.cell? ⟨g, 4, none⟩ = some dv
def BarW (w : World) (g : Nat) (m : ByteArray) (s c co : Int) (dv : Value) (W : World) : Prop := Below w.heap.size w W ∧ BlkIs W g 104 #[.string m, .int .i64 s, .int .i64 c, .int .i64 co, dv]
section
variable {w W W' : World} {g : Nat} {m : ByteArray} {s c co : Int} {dv : Value}
theorem BarW.after (h : BarW w g m s c co dv W) (hb : Below W.heap.size W W') : BarW w g m s c co dv W' := ⟨bstep h.1 hb, h.2.below hb⟩
theorem BarW.drew (h : BarW w g m s c co dv W) : BarW w g m s c co dv W.drew := ⟨h.1.drew, h.2⟩
theorem BarW.five (h : BarW w g m s c co dv W) : Five g m s c co dv W := ⟨h.2.cell 0, h.2.cell 1, h.2.cell 2, h.2.cell 3, h.2.cell 4⟩
end


set_option maxRecDepth 100000 in
set_option maxHeartbeats 4000000 in
theorem rvalid_no (nb sb : Bool) (m : ByteArray) (s c co : Int) (L n : Nat) (ao : Option Addr) (cap : Nat) (w : World) (hn : dimsN co = n) (hL : L ≤ 140737488355328)
    (HN0 : Hid (∀ W, Calls Tryz.prog 167 #[.string m] W fun e w' => e = .returned (.bool nb) ∧ W = w'))
    (HZ0 : Hid (∀ W, Calls Tryz.prog 168 #[.int .i64 s] W fun e w' => e = .returned (.bool sb) ∧ Below W.heap.size W w'))
    (h : (nb && sb && decide (1 ≤ c) && decide (c ≤ 1000) && decide ((L : Int) = n) && decide (n ≠ 0)) = false) :
    Calls Tryz.prog 132 #[.agg #[.string m, .int .i64 s, .int .i64 c, .int .i64 co, .slice ao L cap]] w fun e w' => e = .returned (.bool false) ∧ Below w.heap.size w w' := by
  have HD : Hid (∀ W, Calls Tryz.prog 169 #[.int .i64 co] W fun e w' => e = .returned (.int .i64 (n : Int)) ∧ W = w') := fun W => by rw [← hn]; exact rdims_any co W
  clear hn
  have HS : Hid (nb = false ∨ (nb = true ∧ sb = false) ∨ (nb = true ∧ sb = true ∧ (decide (c < 1) = true ∨ (decide (c < 1) = false ∧ (decide (1000 < c) = true ∨ (decide (1000 < c) = false ∧ (((n : Int) == 0) = true ∨ (((n : Int) == 0) = false ∧ ((L : Int) != (n : Int)) = true)))))))) := by
    cases nb
    · exact .inl rfl
    · cases sb
      · exact .inr (.inl ⟨rfl, rfl⟩)
      · refine .inr (.inr ⟨rfl, rfl, ?_⟩)
        by_cases h1 : c < 1
        · exact .inl (dec_yes h1)
        · refine .inr ⟨dec_no h1, ?_⟩
          by_cases h2 : 1000 < c
          · exact .inl (dec_yes h2)
          · refine .inr ⟨dec_no h2, ?_⟩
            rw [dec_yes (p := 1 ≤ c) (by omega), dec_yes (p := c ≤ 1000) (by omega)] at h
            by_cases h3 : (n : Int) = 0
            · exact .inl (beq_yes h3)
            · refine .inr ⟨beq_no h3, bne_yes fun h4 => ?_⟩
              rw [dec_yes h4, dec_yes (p := n ≠ 0) (by omega)] at h
              cases h
  clear h
  go_enter Tryz.func132, Tryz.ntmps132
  go_upto_region 1 with fail
  obtain ⟨W0, hW0⟩ : ∃ W0, w.alloc (.cells #[.string m, .int .i64 s, .int .i64 c, .int .i64 co, .slice ao L cap] 104) = W0 := ⟨_, rfl⟩
  have HW : Hid (BarW w w.heap.size m s c co (.slice ao L cap) W0) := by rw [← hW0]; exact ⟨below_new _ _, BlkIs.new _ _ _⟩
  rw [hW0]
  clear hW0
  obtain ⟨f0, f1, f2, f3, f4⟩ := HW.out.five
  have c0 := fun d os => cell_regrown f0 d os
  have c1 := fun d os => cell_regrown f1 d os
  have c2 := fun d os => cell_regrown f2 d os
  have c3 := fun d os => cell_regrown f3 d os
  have c4 := fun d os => cell_regrown f4 d os
  clear f0 f1 f2 f3 f4
  refine wp_region_quiet_below (by kernel_rfl) (by kernel_rfl) ?_
  rcases HS.out with rfl | ⟨rfl, rfl⟩ | ⟨rfl, rfl, h1 | ⟨h1, h2 | ⟨h2, h3 | ⟨h3, h4⟩⟩⟩⟩
  all_goals
    repeat (go_big_quiet_step ((first
      | (go_at_call 167; exact Calls.regrown_of ((HN0.out _).mono fun _ _ ⟨h1, h2⟩ => ⟨h1, by subst h2; exact Below.refl _ _⟩))
      | (go_at_call 168; exact Calls.regrown_of (HZ0.out _))
      | (go_at_call 169; exact Calls.regrown_of ((HD.out _).mono fun _ _ ⟨h1, h2⟩ => ⟨h1, by subst h2; exact Below.refl _ _⟩)))))
    refine wpQuiet_nil ?_
    intro _ hw'
    obtain ⟨⟨nq, osq⟩, hw''⟩ := hw'
    subst hw''
    go_wp2
    go_ret
    exact ⟨rfl, below_reg HW.out.1 _ _⟩

theorem dimsB_bad {l : List Int} {k : Nat} {x : Int} (hk : l[k]? = some x) (h1 : ∀ (j : Nat) y, j < k → l[j]? = some y → 1 ≤ y) (h0 : 0 ≤ sumI (l.take k)) (h : x < 1 ∨ 1048576 < x) : dimsB l = false := by
  have e := sumI_snoc hk
  exact dimsB_no hk (by omega)

set_option maxRecDepth 100000 in
set_option maxHeartbeats 4000000 in
theorem rvalid_yes (m : ByteArray) (s c co : Int) (ds : List Int) (n : Nat) (ao : Option Addr) (cap : Nat) (w : World) (hd : Ints w (.slice ao ds.length cap) ds) (hn : dimsN co = n) (hL : ds.length ≤ 5)
    (HN0 : Hid (∀ W, Calls Tryz.prog 167 #[.string m] W fun e w' => e = .returned (.bool true) ∧ W = w'))
    (HZ0 : Hid (∀ W, Calls Tryz.prog 168 #[.int .i64 s] W fun e w' => e = .returned (.bool true) ∧ Below W.heap.size W w'))
    (h1 : decide (c < 1) = false) (h2 : decide (1000 < c) = false) (h3 : ((n : Int) == 0) = false) (h4 : ((ds.length : Int) != (n : Int)) = false) :
    Calls Tryz.prog 132 #[.agg #[.string m, .int .i64 s, .int .i64 c, .int .i64 co, .slice ao ds.length cap]] w fun e w' => e = .returned (.bool (dimsB ds)) ∧ Below w.heap.size w w' := by
  have HD : Hid (∀ W, Calls Tryz.prog 169 #[.int .i64 co] W fun e w' => e = .returned (.int .i64 (n : Int)) ∧ W = w') := fun W => by rw [← hn]; exact rdims_any co W
  have HDV := Lib.hid hd
  obtain ⟨ok, hok⟩ : ∃ ok, dimsB ds = ok := ⟨_, rfl⟩
  have HO := Lib.hid hok
  rw [hok]
  clear hn hd hok
  go_enter Tryz.func132, Tryz.ntmps132
  go_upto_region 1 with fail
  obtain ⟨W0, hW0⟩ : ∃ W0, w.alloc (.cells #[.string m, .int .i64 s, .int .i64 c, .int .i64 co, .slice ao ds.length cap] 104) = W0 := ⟨_, rfl⟩
  have HW : Hid (BarW w w.heap.size m s c co (.slice ao ds.length cap) W0) := by rw [← hW0]; exact ⟨below_new _ _, BlkIs.new _ _ _⟩
  rw [hW0]
  clear hW0
  obtain ⟨f0, f1, f2, f3, f4⟩ := HW.out.five
  have c0 := fun d os => cell_regrown f0 d os
  have c1 := fun d os => cell_regrown f1 d os
  have c2 := fun d os => cell_regrown f2 d os
  have c3 := fun d os => cell_regrown f3 d os
  have c4 := fun d os => cell_regrown f4 d os
  clear f0 f1 f2 f3 f4
  refine wp_region_quiet_below (by kernel_rfl) (by kernel_rfl) ?_
  repeat (go_big_quiet_step ((first
    | (go_at_call 167; exact Calls.regrown_of ((HN0.out _).mono fun _ _ ⟨h1, h2⟩ => ⟨h1, by subst h2; exact Below.refl _ _⟩))
    | (go_at_call 168; exact Calls.regrown_of (HZ0.out _))
    | (go_at_call 169; exact Calls.regrown_of ((HD.out _).mono fun _ _ ⟨h1, h2⟩ => ⟨h1, by subst h2; exact Below.refl _ _⟩)))))
  refine wpQuiet_nil ?_
  intro _ hw'
  obtain ⟨⟨nq, osq⟩, hw''⟩ := hw'
  subst hw''
  have HB : Hid (Below w.heap.size w (Go.Sort.grow (redrawn W0 nq) osq)) := below_reg HW.out.1 _ _
  have g4 := c4 nq osq
  clear c0 c1 c2 c3 c4 HW h1 h2 h3 h4 HN0 HZ0 HD
  generalize Go.Sort.grow (redrawn W0 nq) osq = W at *
  go_wp2_with fail
  go_loop [3, 4] (fun t i => ∃ k : Nat, k ≤ ds.length ∧ i = .int .i64 k ∧ t = .int .i64 (sumI (ds.take k)) ∧ Hid ((∀ (j : Nat) y, j < k → ds[j]? = some y → 1 ≤ y) ∧ 0 ≤ sumI (ds.take k) ∧ sumI (ds.take k) ≤ k * 1048576)) (fun _ i => ds.length - (intOf i).toNat)
  case atStart => exact ⟨0, Nat.zero_le _, rfl, rfl, fun j y hj => by omega, by rw [List.take_zero]; decide, by rw [List.take_zero]; decide⟩
  case round =>
    obtain ⟨k, hk, rfl, rfl, HR⟩ := hrel
    have r1 := HR.out.2.1
    have r2 := HR.out.2.2
    by_cases hlt : k < ds.length
    · obtain ⟨y, hy⟩ : ∃ y, ds[k]? = some y := ⟨_, List.getElem?_eq_getElem hlt⟩
      have HS := Lib.hid (sumI_snoc hy)
      have HY := Lib.hid hy
      obtain ⟨_, _, hv, hcc⟩ := HDV.out
      cases hv
      obtain ⟨b, off, rfl, hbl, hcell⟩ := hcc (by omega)
      have hck := (HB.out.cell (p := ⟨b, off + k, none⟩) hbl).trans (hcell k y hy)
      clear hcc hcell hy
      by_cases hbad : y < 1 ∨ 1048576 < y
      · have HX := Lib.hid (show false = ok from (dimsB_bad HY.out HR.out.1 HR.out.2.1 hbad).symm.trans HO.out)
        generalize sumI (ds.take k) = q at *
        rcases hbad with hbad | hbad
        · go_wp2
          go_ret
          exact ⟨ret_bool HX.out, HB.out⟩
        · go_wp2
          all_goals
            go_ret
            exact ⟨ret_bool HX.out, HB.out⟩
      · have y1 : ¬ y < 1 := by omega
        have y2 : ¬ 1048576 < y := by omega
        clear hbad
        generalize hq : sumI (ds.take k) = q at *
        have HQ := Lib.hid hq
        clear hq
        go_wp2
        go_round
        case rel => exact ⟨k + 1, by omega, by go_num, by rw [HS.out], fun j z hj hz => by
          by_cases e : j = k
          · subst e; rw [HY.out] at hz; cases hz; omega
          · exact HR.out.1 j z (by omega) hz, by rw [HS.out]; omega, by rw [HS.out]; omega⟩
        case measure => simp [intOf]; omega
    · obtain rfl : k = ds.length := by omega
      have HX : Hid (dimsB ds = decide (sumI (ds.take ds.length) ≤ 262144)) := by
        unfold Hid
        by_cases h5 : sumI (ds.take ds.length) ≤ 262144
        · rw [dec_yes h5]; exact dimsB_end HR.out.1 h5
        · rw [dec_no h5]
          cases hd : dimsB ds with
          | false => rfl
          | true =>
            have := (dimsB_yes hd).2
            rw [List.take_length] at h5
            exact absurd this h5
      generalize sumI (ds.take ds.length) = q at *
      go_wp2
      go_ret
      exact ⟨ret_bool (HX.out.symm.trans HO.out), HB.out⟩

theorem rvalid_any (x : BarD) (dv : Value) (w : World) (hd : Ints w dv x.dims) (hm : x.mark.size ≤ maxLen) (hl : x.dims.length ≤ 140737488355328) :
    Calls Tryz.prog 132 #[barv x dv] w fun e w' => e = .returned (.bool (barOk x)) ∧ Below w.heap.size w w' := by
  have HN := Lib.hid (fun W => rname_any x.mark W hm)
  have HZ := Lib.hid (fun W => rsize_any x.size W)
  have hn5 : dimsN x.code ≤ 5 := by unfold dimsN; (repeat' split) <;> omega
  obtain ⟨ao, cap, rfl, hd2⟩ := id hd
  cases hh : headB x with
  | false =>
    have e : barOk x = false := by unfold barOk; rw [hh]; rfl
    rw [e]
    exact rvalid_no _ _ x.mark x.size x.count x.code x.dims.length _ ao cap w rfl hl HN HZ hh
  | true =>
    have e : barOk x = dimsB x.dims := by unfold barOk; rw [hh]; rfl
    unfold headB at hh
    simp only [Bool.and_eq_true, decide_eq_true_eq] at hh
    obtain ⟨⟨⟨⟨⟨h1, h2⟩, h3⟩, h4⟩, h5⟩, h6⟩ := hh
    rw [h1] at HN
    rw [h2] at HZ
    rw [e]
    exact rvalid_yes x.mark x.size x.count x.code x.dims _ ao cap w hd rfl (by omega) HN HZ (dec_no (by omega)) (dec_no (by omega)) (beq_no (by omega)) (bne_no h5)
end

section
open Go.RowKit
set_option linter.unusedVariables false
set_option linter.unusedSimpArgs false

set_option maxHeartbeats 1000000 in
theorem rfind_any (v : Value) (l : List BarD) (m : ByteArray) (w : World) (hp : Bars w v l) (hl : l.length ≤ 140737488355328) :
    Calls Tryz.prog 133 #[v, .string m] w fun e w' => e = .returned (.int .i64 (findZ l m)) ∧ w = w' := by
  obtain ⟨ao, cap, rfl⟩ := hp.at_
  have HP := Lib.hid hp
  clear hp
  go_enter Tryz.func133, Tryz.ntmps133
  go_wp2
  go_loop [5] (fun i => ∃ k : Nat, k ≤ l.length ∧ i = .int .i64 k ∧ Hid (∀ (j : Nat) y, j < k → l[j]? = some y → isMark m y = false)) (fun i => l.length - (intOf i).toNat)
  case atStart => exact ⟨0, Nat.zero_le _, rfl, fun j _ hj => by omega⟩
  case round =>
    obtain ⟨k, hk, rfl, hno⟩ := hrel
    by_cases hk2 : k < l.length
    · obtain ⟨x, hy⟩ : ∃ y, l[k]? = some y := ⟨_, List.getElem?_eq_getElem hk2⟩
      obtain ⟨b, off, rfl, hbl, c0, c1, c2, c3, uo, uc, c4, hdx⟩ := bars_get HP.out hy
      have HY := Lib.hid hy
      have hq := bytes_beq x.mark m
      clear hy hdx c1 c2 c3 c4
      by_cases he : x.mark = m
      · have hq2 : (x.mark.toList == m.toList) = true := hq.trans (dec_yes he)
        have HR := Lib.hid (show findZ l m = k from idxZ_hit hno.out HY.out (dec_yes he))
        clear he hq
        go_wp2
        go_ret
        exact ⟨ret_int HR.out.symm, rfl⟩
      · have hq2 : (x.mark.toList == m.toList) = false := hq.trans (dec_no he)
        have HE := Lib.hid he
        clear he hq
        go_wp2
        go_round
        case rel => exact ⟨k + 1, by omega, by go_num, fun j z hj hz => by
          by_cases e : j = k
          · subst e; rw [HY.out] at hz; cases hz; exact dec_no HE.out
          · exact hno.out j z (by omega) hz⟩
        case measure => simp [intOf]; omega
    · have HR := Lib.hid (show findZ l m = -1 from idxZ_miss (p := isMark m) (fun j y hy => hno.out j y (by have := (List.getElem?_eq_some_iff.1 hy).1; omega) hy))
      go_wp2
      go_ret
      exact ⟨ret_int HR.out.symm, rfl⟩

set_option maxHeartbeats 2000000 in
theorem rsched_any (v : Value) (l : List BarD) (w : World) (hp : Bars w v l) (hl : l.length ≤ 140737488355328) (hf : FitB l) :
    Calls Tryz.prog 110 #[v] w fun e w' => e = .returned (.bool (schedOk l)) ∧ Below w.heap.size w w' := by
  obtain ⟨ao, cap, rfl⟩ := hp.at_
  have HP := Lib.hid hp
  have HFI := Lib.hid hf
  clear hp hf
  rcases Nat.lt_or_ge 60 l.length with h60 | h60
  · have HF := Lib.hid (sched_big h60)
    have h61 : (60 : Int) < (l.length : Int) := by omega
    go_enter Tryz.func110, Tryz.ntmps110
    go_wp2
    go_ret
    exact ⟨ret_bool HF.out.symm, Below.refl _ _⟩
  · have h61 : ¬ (60 : Int) < (l.length : Int) := by omega
    have H60 := Lib.hid h60
    go_enter Tryz.func110, Tryz.ntmps110
    go_wp2
    go_loopw [3] (fun i wr => ∃ k : Nat, k ≤ l.length ∧ i = .int .i64 k ∧ Below w.heap.size w wr ∧ Hid (∀ (j : Nat) b, j < k → l[j]? = some b → (barOk b && decide (findZ l b.mark = j)) = true)) (fun i _ => l.length - (intOf i).toNat)
    case atStart => exact ⟨0, Nat.zero_le _, rfl, Below.refl _ _, fun j _ hj => by omega⟩
    case round =>
      obtain ⟨k, hk, rfl, hBr, hno⟩ := hrel
      by_cases hk2 : k < l.length
      · obtain ⟨x, hy⟩ : ∃ y, l[k]? = some y := ⟨_, List.getElem?_eq_getElem hk2⟩
        have HPr := Lib.hid (HP.out.below hBr)
        obtain ⟨b, off, rfl, hbl, c0, c1, c2, c3, uo, uc, c4, hdim⟩ := bars_get HPr.out hy
        have HY := Lib.hid hy
        obtain ⟨hm1, hm2⟩ := HFI.out x (List.mem_of_getElem? hy)
        have HVA := Lib.hid (rvalid_any x (.slice uo x.dims.length uc) wr hdim hm1 hm2)
        have HIX := Lib.hid (fun W (hW : Below w.heap.size w W) => rfind_any (.slice (some ⟨b, off, none⟩) l.length cap) l x.mark W (HP.out.below hW) hl)
        have HB := Lib.hid hBr
        obtain ⟨q, hq⟩ : ∃ q, barOk x = q := ⟨_, rfl⟩
        rw [hq] at HVA
        have HQ := Lib.hid hq
        clear hy hq hdim hm1 hm2 hBr
        cases q
        · have HF := Lib.hid (sched_no HY.out (by rw [HQ.out]; rfl))
          go_wp2_with fail
          refine HVA.out.mono ?_
          rintro e w9 ⟨rfl, hb9⟩
          have HB9 := Lib.hid (bstep HB.out hb9)
          clear hb9
          go_wp2
          go_ret
          exact ⟨ret_bool HF.out.symm, HB9.out⟩
        · go_wp2_with fail
          refine HVA.out.mono ?_
          rintro e w9 ⟨rfl, hb9⟩
          have HB9 := Lib.hid (bstep HB.out hb9)
          have d0 := hb9.cell (block_lt_of_cell c0)
          rw [c0] at d0
          clear hb9 c0 c1 c2 c3 c4
          obtain ⟨fz, hfz⟩ : ∃ fz, findZ l x.mark = fz := ⟨_, rfl⟩
          rw [hfz] at HIX
          have HFZ := Lib.hid hfz
          clear hfz
          by_cases he : fz = k
          · have he2 : (fz != (k : Int)) = false := bne_no he
            have HE := Lib.hid he
            clear he
            go_wp2_with fail
            refine (HIX.out _ HB9.out).mono ?_
            rintro e w8 ⟨rfl, rfl⟩
            go_wp2
            go_roundw
            case rel => exact ⟨k + 1, by omega, by go_num, HB9.out, fun j z hj hz => by
              by_cases e : j = k
              · subst e; rw [HY.out] at hz; cases hz; rw [HQ.out, HFZ.out, dec_yes HE.out]; rfl
              · exact hno.out j z (by omega) hz⟩
            case measure => simp [intOf]; omega
          · have he2 : (fz != (k : Int)) = true := bne_yes he
            have HF := Lib.hid (sched_no HY.out (by rw [HQ.out, HFZ.out, dec_no he]; rfl))
            clear he
            go_wp2_with fail
            refine (HIX.out _ HB9.out).mono ?_
            rintro e w8 ⟨rfl, rfl⟩
            go_wp2
            go_ret
            exact ⟨ret_bool HF.out.symm, HB9.out⟩
      · have HT := Lib.hid (sched_yes H60.out (fun i b hi hb => hno.out i b (by omega) hb))
        go_wp2
        go_ret
        exact ⟨ret_bool HT.out.symm, hBr⟩
end
end

section
open Go.RowKit
set_option linter.unusedVariables false
set_option linter.unusedSimpArgs false
attribute [local go_sem ↓] Go.wp_at_zero Go.wp_at_succ

set_option maxRecDepth 100000 in
set_option maxHeartbeats 2000000 in
theorem moves_0 (m : ByteArray) (s c : Int) (a0 : Int) (b off cap : Nat) (w : World) (hb : b < w.heap.size)
    (h0 : w.cell? ⟨b, off, none⟩ = some (.int .i64 a0))
    (p0 : 1 ≤ a0) (q0 : a0 ≤ 262144) :
    Calls Tryz.prog 194 #[.agg #[.string m, .int .i64 s, .int .i64 c, .int .i64 0, .slice (some ⟨b, off, none⟩) 1 cap]] w fun e w' => ∃ o, e = .returned o ∧ Hid (OwnPts w' w.heap.size o [⟨a0, 0, 0⟩]) ∧ Below w.heap.size w w' := by
  go_enter Tryz.func194, Tryz.ntmps194
  go_wp2
  go_ret
  refine ⟨_, rfl, ?_, ((below_new w _).alloc (by simp) _)⟩
  have h := own_lit (w.alloc (.cells #[.string m, .int .i64 s, .int .i64 c, .int .i64 0, .slice (some ⟨b, off, none⟩) 1 cap] 104)) 88 3 ptCells [⟨a0, 0, 0⟩] #[.int .i64 a0, .int .i64 0, .int .i64 0] 1 w.heap.size (by simp) rfl rfl pt_len (by simp)
  rw [World.size_alloc] at h
  exact h
set_option maxRecDepth 100000 in
set_option maxHeartbeats 2000000 in
theorem moves_11 (m : ByteArray) (s c : Int) (a0 a1 : Int) (b off cap : Nat) (w : World) (hb : b < w.heap.size)
    (h0 : w.cell? ⟨b, off, none⟩ = some (.int .i64 a0)) (h1 : w.cell? ⟨b, off + 1, none⟩ = some (.int .i64 a1))
    (p0 : 1 ≤ a0) (q0 : a0 ≤ 262144) (p1 : 1 ≤ a1) (q1 : a1 ≤ 262144) :
    Calls Tryz.prog 194 #[.agg #[.string m, .int .i64 s, .int .i64 c, .int .i64 11, .slice (some ⟨b, off, none⟩) 2 cap]] w fun e w' => ∃ o, e = .returned o ∧ Hid (OwnPts w' w.heap.size o [⟨a0, 0, 0⟩, ⟨0, a1, 0⟩]) ∧ Below w.heap.size w w' := by
  go_enter Tryz.func194, Tryz.ntmps194
  go_upto_region 4 with fail
  obtain ⟨W, hW⟩ : ∃ W, w.alloc (.cells #[.string m, .int .i64 s, .int .i64 c, .int .i64 11, .slice (some ⟨b, off, none⟩) 2 cap] 104) = W := ⟨_, rfl⟩
  have HB0 : Hid (Below w.heap.size w W) := by rw [← hW]; exact below_new _ _
  have hz0 : W.heap.size = w.heap.size + 1 := by rw [← hW]; simp
  have c0 : W.cell? ⟨b, off, none⟩ = some (.int .i64 a0) := (HB0.out.cell hb).trans h0
  have c1 : W.cell? ⟨b, off + 1, none⟩ = some (.int .i64 a1) := (HB0.out.cell hb).trans h1
  rw [hW]
  have HZ0 := Lib.hid hz0
  clear hW hz0 h0 h1
  go_still_tail 8, (by kernel_rfl)
  change wpList _ _ _ _ _ W.drew
  have HB : Hid (Below w.heap.size w W.drew) := HB0.out.drew
  have hz : W.drew.heap.size = w.heap.size + 1 := HZ0.out
  clear HB0 HZ0 c0 c1
  generalize W.drew = W at *
  have HZ := Lib.hid hz
  clear hz
  go_wp2
  go_ret
  refine ⟨_, rfl, ?_, HB.out.alloc (by rw [HZ.out]; omega) _⟩
  exact own_lit W 88 3 ptCells [⟨a0, 0, 0⟩, ⟨0, a1, 0⟩] _ _ _ (by rw [HZ.out]; omega) rfl rfl pt_len (by simp)
set_option maxRecDepth 100000 in
set_option maxHeartbeats 2000000 in
theorem moves_21 (m : ByteArray) (s c : Int) (a0 a1 a2 : Int) (b off cap : Nat) (w : World) (hb : b < w.heap.size)
    (h0 : w.cell? ⟨b, off, none⟩ = some (.int .i64 a0)) (h1 : w.cell? ⟨b, off + 1, none⟩ = some (.int .i64 a1)) (h2 : w.cell? ⟨b, off + 2, none⟩ = some (.int .i64 a2))
    (p0 : 1 ≤ a0) (q0 : a0 ≤ 262144) (p1 : 1 ≤ a1) (q1 : a1 ≤ 262144) (p2 : 1 ≤ a2) (q2 : a2 ≤ 262144) :
    Calls Tryz.prog 194 #[.agg #[.string m, .int .i64 s, .int .i64 c, .int .i64 21, .slice (some ⟨b, off, none⟩) 3 cap]] w fun e w' => ∃ o, e = .returned o ∧ Hid (OwnPts w' w.heap.size o [⟨0, -a0, 0⟩, ⟨a1, 0, 0⟩, ⟨0, a2, 0⟩]) ∧ Below w.heap.size w w' := by
  go_enter Tryz.func194, Tryz.ntmps194
  go_upto_region 6 with fail
  obtain ⟨W, hW⟩ : ∃ W, w.alloc (.cells #[.string m, .int .i64 s, .int .i64 c, .int .i64 21, .slice (some ⟨b, off, none⟩) 3 cap] 104) = W := ⟨_, rfl⟩
  have HB0 : Hid (Below w.heap.size w W) := by rw [← hW]; exact below_new _ _
  have hz0 : W.heap.size = w.heap.size + 1 := by rw [← hW]; simp
  have c0 : W.cell? ⟨b, off, none⟩ = some (.int .i64 a0) := (HB0.out.cell hb).trans h0
  have c1 : W.cell? ⟨b, off + 1, none⟩ = some (.int .i64 a1) := (HB0.out.cell hb).trans h1
  have c2 : W.cell? ⟨b, off + 2, none⟩ = some (.int .i64 a2) := (HB0.out.cell hb).trans h2
  rw [hW]
  have HZ0 := Lib.hid hz0
  clear hW hz0 h0 h1 h2
  go_still_tail 13, (by kernel_rfl)
  change wpList _ _ _ _ _ W.drew
  have HB : Hid (Below w.heap.size w W.drew) := HB0.out.drew
  have hz : W.drew.heap.size = w.heap.size + 1 := HZ0.out
  clear HB0 HZ0 c0 c1 c2
  generalize W.drew = W at *
  have HZ := Lib.hid hz
  clear hz
  go_wp2
  go_ret
  refine ⟨_, rfl, ?_, HB.out.alloc (by rw [HZ.out]; omega) _⟩
  exact own_lit W 88 3 ptCells [⟨0, -a0, 0⟩, ⟨a1, 0, 0⟩, ⟨0, a2, 0⟩] _ _ _ (by rw [HZ.out]; omega) rfl rfl pt_len (by simp)
set_option maxRecDepth 100000 in
set_option maxHeartbeats 2000000 in
theorem moves_26 (m : ByteArray) (s c : Int) (a0 a1 a2 : Int) (b off cap : Nat) (w : World) (hb : b < w.heap.size)
    (h0 : w.cell? ⟨b, off, none⟩ = some (.int .i64 a0)) (h1 : w.cell? ⟨b, off + 1, none⟩ = some (.int .i64 a1)) (h2 : w.cell? ⟨b, off + 2, none⟩ = some (.int .i64 a2))
    (p0 : 1 ≤ a0) (q0 : a0 ≤ 262144) (p1 : 1 ≤ a1) (q1 : a1 ≤ 262144) (p2 : 1 ≤ a2) (q2 : a2 ≤ 262144) :
    Calls Tryz.prog 194 #[.agg #[.string m, .int .i64 s, .int .i64 c, .int .i64 26, .slice (some ⟨b, off, none⟩) 3 cap]] w fun e w' => ∃ o, e = .returned o ∧ Hid (OwnPts w' w.heap.size o [⟨a0, 0, 0⟩, ⟨0, a1, 0⟩, ⟨a2, 0, 0⟩]) ∧ Below w.heap.size w w' := by
  go_enter Tryz.func194, Tryz.ntmps194
  go_upto_region 8 with fail
  obtain ⟨W, hW⟩ : ∃ W, w.alloc (.cells #[.string m, .int .i64 s, .int .i64 c, .int .i64 26, .slice (some ⟨b, off, none⟩) 3 cap] 104) = W := ⟨_, rfl⟩
  have HB0 : Hid (Below w.heap.size w W) := by rw [← hW]; exact below_new _ _
  have hz0 : W.heap.size = w.heap.size + 1 := by rw [← hW]; simp
  have c0 : W.cell? ⟨b, off, none⟩ = some (.int .i64 a0) := (HB0.out.cell hb).trans h0
  have c1 : W.cell? ⟨b, off + 1, none⟩ = some (.int .i64 a1) := (HB0.out.cell hb).trans h1
  have c2 : W.cell? ⟨b, off + 2, none⟩ = some (.int .i64 a2) := (HB0.out.cell hb).trans h2
  rw [hW]
  have HZ0 := Lib.hid hz0
  clear hW hz0 h0 h1 h2
  go_still_tail 12, (by kernel_rfl)
  change wpList _ _ _ _ _ W.drew
  have HB : Hid (Below w.heap.size w W.drew) := HB0.out.drew
  have hz : W.drew.heap.size = w.heap.size + 1 := HZ0.out
  clear HB0 HZ0 c0 c1 c2
  generalize W.drew = W at *
  have HZ := Lib.hid hz
  clear hz
  go_wp2
  go_ret
  refine ⟨_, rfl, ?_, HB.out.alloc (by rw [HZ.out]; omega) _⟩
  exact own_lit W 88 3 ptCells [⟨a0, 0, 0⟩, ⟨0, a1, 0⟩, ⟨a2, 0, 0⟩] _ _ _ (by rw [HZ.out]; omega) rfl rfl pt_len (by simp)
set_option maxRecDepth 100000 in
set_option maxHeartbeats 2000000 in
theorem moves_31 (m : ByteArray) (s c : Int) (a0 a1 a2 : Int) (b off cap : Nat) (w : World) (hb : b < w.heap.size)
    (h0 : w.cell? ⟨b, off, none⟩ = some (.int .i64 a0)) (h1 : w.cell? ⟨b, off + 1, none⟩ = some (.int .i64 a1)) (h2 : w.cell? ⟨b, off + 2, none⟩ = some (.int .i64 a2))
    (p0 : 1 ≤ a0) (q0 : a0 ≤ 262144) (p1 : 1 ≤ a1) (q1 : a1 ≤ 262144) (p2 : 1 ≤ a2) (q2 : a2 ≤ 262144) :
    Calls Tryz.prog 194 #[.agg #[.string m, .int .i64 s, .int .i64 c, .int .i64 31, .slice (some ⟨b, off, none⟩) 3 cap]] w fun e w' => ∃ o, e = .returned o ∧ Hid (OwnPts w' w.heap.size o [⟨a0, 0, 0⟩, ⟨0, a1, 0⟩, ⟨0, 0, a2⟩]) ∧ Below w.heap.size w w' := by
  go_enter Tryz.func194, Tryz.ntmps194
  go_upto_region 10 with fail
  obtain ⟨W, hW⟩ : ∃ W, w.alloc (.cells #[.string m, .int .i64 s, .int .i64 c, .int .i64 31, .slice (some ⟨b, off, none⟩) 3 cap] 104) = W := ⟨_, rfl⟩
  have HB0 : Hid (Below w.heap.size w W) := by rw [← hW]; exact below_new _ _
  have hz0 : W.heap.size = w.heap.size + 1 := by rw [← hW]; simp
  have c0 : W.cell? ⟨b, off, none⟩ = some (.int .i64 a0) := (HB0.out.cell hb).trans h0
  have c1 : W.cell? ⟨b, off + 1, none⟩ = some (.int .i64 a1) := (HB0.out.cell hb).trans h1
  have c2 : W.cell? ⟨b, off + 2, none⟩ = some (.int .i64 a2) := (HB0.out.cell hb).trans h2
  rw [hW]
  have HZ0 := Lib.hid hz0
  clear hW hz0 h0 h1 h2
  go_still_tail 12, (by kernel_rfl)
  change wpList _ _ _ _ _ W.drew
  have HB : Hid (Below w.heap.size w W.drew) := HB0.out.drew
  have hz : W.drew.heap.size = w.heap.size + 1 := HZ0.out
  clear HB0 HZ0 c0 c1 c2
  generalize W.drew = W at *
  have HZ := Lib.hid hz
  clear hz
  go_wp2
  go_ret
  refine ⟨_, rfl, ?_, HB.out.alloc (by rw [HZ.out]; omega) _⟩
  exact own_lit W 88 3 ptCells [⟨a0, 0, 0⟩, ⟨0, a1, 0⟩, ⟨0, 0, a2⟩] _ _ _ (by rw [HZ.out]; omega) rfl rfl pt_len (by simp)
set_option maxRecDepth 100000 in
set_option maxHeartbeats 2000000 in
theorem moves_41 (m : ByteArray) (s c : Int) (a0 a1 a2 a3 a4 : Int) (b off cap : Nat) (w : World) (hb : b < w.heap.size)
    (h0 : w.cell? ⟨b, off, none⟩ = some (.int .i64 a0)) (h1 : w.cell? ⟨b, off + 1, none⟩ = some (.int .i64 a1)) (h2 : w.cell? ⟨b, off + 2, none⟩ = some (.int .i64 a2)) (h3 : w.cell? ⟨b, off + 3, none⟩ = some (.int .i64 a3)) (h4 : w.cell? ⟨b, off + 4, none⟩ = some (.int .i64 a4))
    (p0 : 1 ≤ a0) (q0 : a0 ≤ 262144) (p1 : 1 ≤ a1) (q1 : a1 ≤ 262144) (p2 : 1 ≤ a2) (q2 : a2 ≤ 262144) (p3 : 1 ≤ a3) (q3 : a3 ≤ 262144) (p4 : 1 ≤ a4) (q4 : a4 ≤ 262144) :
    Calls Tryz.prog 194 #[.agg #[.string m, .int .i64 s, .int .i64 c, .int .i64 41, .slice (some ⟨b, off, none⟩) 5 cap]] w fun e w' => ∃ o, e = .returned o ∧ Hid (OwnPts w' w.heap.size o [⟨a0, 0, 0⟩, ⟨0, a1, 0⟩, ⟨a2, 0, 0⟩, ⟨0, -a3, 0⟩, ⟨a4, 0, 0⟩]) ∧ Below w.heap.size w w' := by
  go_enter Tryz.func194, Tryz.ntmps194
  go_upto_region 12 with fail
  obtain ⟨W, hW⟩ : ∃ W, w.alloc (.cells #[.string m, .int .i64 s, .int .i64 c, .int .i64 41, .slice (some ⟨b, off, none⟩) 5 cap] 104) = W := ⟨_, rfl⟩
  have HB0 : Hid (Below w.heap.size w W) := by rw [← hW]; exact below_new _ _
  have hz0 : W.heap.size = w.heap.size + 1 := by rw [← hW]; simp
  have c0 : W.cell? ⟨b, off, none⟩ = some (.int .i64 a0) := (HB0.out.cell hb).trans h0
  have c1 : W.cell? ⟨b, off + 1, none⟩ = some (.int .i64 a1) := (HB0.out.cell hb).trans h1
  have c2 : W.cell? ⟨b, off + 2, none⟩ = some (.int .i64 a2) := (HB0.out.cell hb).trans h2
  have c3 : W.cell? ⟨b, off + 3, none⟩ = some (.int .i64 a3) := (HB0.out.cell hb).trans h3
  have c4 : W.cell? ⟨b, off + 4, none⟩ = some (.int .i64 a4) := (HB0.out.cell hb).trans h4
  rw [hW]
  have HZ0 := Lib.hid hz0
  clear hW hz0 h0 h1 h2 h3 h4
  go_still_tail 21, (by kernel_rfl)
  change wpList _ _ _ _ _ W.drew
  have HB : Hid (Below w.heap.size w W.drew) := HB0.out.drew
  have hz : W.drew.heap.size = w.heap.size + 1 := HZ0.out
  clear HB0 HZ0 c0 c1 c2 c3 c4
  generalize W.drew = W at *
  have HZ := Lib.hid hz
  clear hz
  go_wp2
  go_ret
  refine ⟨_, rfl, ?_, HB.out.alloc (by rw [HZ.out]; omega) _⟩
  exact own_lit W 88 3 ptCells [⟨a0, 0, 0⟩, ⟨0, a1, 0⟩, ⟨a2, 0, 0⟩, ⟨0, -a3, 0⟩, ⟨a4, 0, 0⟩] _ _ _ (by rw [HZ.out]; omega) rfl rfl pt_len (by simp)
set_option maxRecDepth 100000 in
set_option maxHeartbeats 2000000 in
theorem moves_51 (m : ByteArray) (s c : Int) (a0 a1 a2 : Int) (b off cap : Nat) (w : World) (hb : b < w.heap.size)
    (h0 : w.cell? ⟨b, off, none⟩ = some (.int .i64 a0)) (h1 : w.cell? ⟨b, off + 1, none⟩ = some (.int .i64 a1)) (h2 : w.cell? ⟨b, off + 2, none⟩ = some (.int .i64 a2))
    (p0 : 1 ≤ a0) (q0 : a0 ≤ 262144) (p1 : 1 ≤ a1) (q1 : a1 ≤ 262144) (p2 : 1 ≤ a2) (q2 : a2 ≤ 262144) :
    Calls Tryz.prog 194 #[.agg #[.string m, .int .i64 s, .int .i64 c, .int .i64 51, .slice (some ⟨b, off, none⟩) 3 cap]] w fun e w' => ∃ o, e = .returned o ∧ Hid (OwnPts w' w.heap.size o [⟨0, -a2, 0⟩, ⟨a0, 0, 0⟩, ⟨0, a1, 0⟩, ⟨-a0, 0, 0⟩, ⟨0, -a1, 0⟩, ⟨a2, 0, 0⟩]) ∧ Below w.heap.size w w' := by
  go_enter Tryz.func194, Tryz.ntmps194
  go_upto_region 14 with fail
  obtain ⟨W, hW⟩ : ∃ W, w.alloc (.cells #[.string m, .int .i64 s, .int .i64 c, .int .i64 51, .slice (some ⟨b, off, none⟩) 3 cap] 104) = W := ⟨_, rfl⟩
  have HB0 : Hid (Below w.heap.size w W) := by rw [← hW]; exact below_new _ _
  have hz0 : W.heap.size = w.heap.size + 1 := by rw [← hW]; simp
  have c0 : W.cell? ⟨b, off, none⟩ = some (.int .i64 a0) := (HB0.out.cell hb).trans h0
  have c1 : W.cell? ⟨b, off + 1, none⟩ = some (.int .i64 a1) := (HB0.out.cell hb).trans h1
  have c2 : W.cell? ⟨b, off + 2, none⟩ = some (.int .i64 a2) := (HB0.out.cell hb).trans h2
  rw [hW]
  have HZ0 := Lib.hid hz0
  clear hW hz0 h0 h1 h2
  go_still_tail 27, (by kernel_rfl)
  change wpList _ _ _ _ _ W.drew
  have HB : Hid (Below w.heap.size w W.drew) := HB0.out.drew
  have hz : W.drew.heap.size = w.heap.size + 1 := HZ0.out
  clear HB0 HZ0 c0 c1 c2
  generalize W.drew = W at *
  have HZ := Lib.hid hz
  clear hz
  go_wp2
  go_ret
  refine ⟨_, rfl, ?_, HB.out.alloc (by rw [HZ.out]; omega) _⟩
  exact own_lit W 88 3 ptCells [⟨0, -a2, 0⟩, ⟨a0, 0, 0⟩, ⟨0, a1, 0⟩, ⟨-a0, 0, 0⟩, ⟨0, -a1, 0⟩, ⟨a2, 0, 0⟩] _ _ _ (by rw [HZ.out]; omega) rfl rfl pt_len (by simp)
set_option maxRecDepth 100000 in
set_option maxHeartbeats 2000000 in
theorem moves_98 (m : ByteArray) (s c : Int) (a0 a1 a2 : Int) (b off cap : Nat) (w : World) (hb : b < w.heap.size)
    (h0 : w.cell? ⟨b, off, none⟩ = some (.int .i64 a0)) (h1 : w.cell? ⟨b, off + 1, none⟩ = some (.int .i64 a1)) (h2 : w.cell? ⟨b, off + 2, none⟩ = some (.int .i64 a2))
    (p0 : 1 ≤ a0) (q0 : a0 ≤ 262144) (p1 : 1 ≤ a1) (q1 : a1 ≤ 262144) (p2 : 1 ≤ a2) (q2 : a2 ≤ 262144) :
    Calls Tryz.prog 194 #[.agg #[.string m, .int .i64 s, .int .i64 c, .int .i64 98, .slice (some ⟨b, off, none⟩) 3 cap]] w fun e w' => ∃ o, e = .returned o ∧ Hid (OwnPts w' w.heap.size o [⟨0, 0, a0⟩, ⟨0, -a1, 0⟩, ⟨a2, 0, 0⟩, ⟨0, a1, 0⟩, ⟨0, 0, a0⟩]) ∧ Below w.heap.size w w' := by
  go_enter Tryz.func194, Tryz.ntmps194
  go_upto_region 16 with fail
  obtain ⟨W, hW⟩ : ∃ W, w.alloc (.cells #[.string m, .int .i64 s, .int .i64 c, .int .i64 98, .slice (some ⟨b, off, none⟩) 3 cap] 104) = W := ⟨_, rfl⟩
  have HB0 : Hid (Below w.heap.size w W) := by rw [← hW]; exact below_new _ _
  have hz0 : W.heap.size = w.heap.size + 1 := by rw [← hW]; simp
  have c0 : W.cell? ⟨b, off, none⟩ = some (.int .i64 a0) := (HB0.out.cell hb).trans h0
  have c1 : W.cell? ⟨b, off + 1, none⟩ = some (.int .i64 a1) := (HB0.out.cell hb).trans h1
  have c2 : W.cell? ⟨b, off + 2, none⟩ = some (.int .i64 a2) := (HB0.out.cell hb).trans h2
  rw [hW]
  have HZ0 := Lib.hid hz0
  clear hW hz0 h0 h1 h2
  go_still_tail 21, (by kernel_rfl)
  change wpList _ _ _ _ _ W.drew
  have HB : Hid (Below w.heap.size w W.drew) := HB0.out.drew
  have hz : W.drew.heap.size = w.heap.size + 1 := HZ0.out
  clear HB0 HZ0 c0 c1 c2
  generalize W.drew = W at *
  have HZ := Lib.hid hz
  clear hz
  go_wp2
  go_ret
  refine ⟨_, rfl, ?_, HB.out.alloc (by rw [HZ.out]; omega) _⟩
  exact own_lit W 88 3 ptCells [⟨0, 0, a0⟩, ⟨0, -a1, 0⟩, ⟨a2, 0, 0⟩, ⟨0, a1, 0⟩, ⟨0, 0, a0⟩] _ _ _ (by rw [HZ.out]; omega) rfl rfl pt_len (by simp)

def moveOf (d : List Int) (l : Nat × Nat) : Pt := stepP ⟨0, 0, 0⟩ l.2 (d[l.1]?.getD 0)
def movesOf (x : BarD) : List Pt := (legsOf x.code).map (moveOf x.dims)
theorem stepP_move (p : Pt) (way : Nat) (n : Int) : stepP p way n = padd p (stepP ⟨0, 0, 0⟩ way n) := by
  obtain ⟨x, y, z⟩ := p
  unfold stepP padd
  (repeat' split) <;> simp <;> omega
theorem ints_cells {w : World} {b off cap n : Nat} {l : List Int} (h : Ints w (.slice (some ⟨b, off, none⟩) n cap) l) : ∀ (k : Nat) x, l[k]? = some x → w.cell? ⟨b, off + k, none⟩ = some (.int .i64 x) ∧ b < w.heap.size := by
  obtain ⟨ao, c, e, h⟩ := h
  cases e
  intro k x hx
  obtain ⟨b', off', e, hlt, hc⟩ := h (by have := (List.getElem?_eq_some_iff.1 hx).1; omega)
  cases e
  exact ⟨hc k x hx, hlt⟩
theorem len_cases {l : List Int} {n : Nat} (h : l.length = n) :
    (n = 1 → ∃ a, l = [a]) ∧ (n = 2 → ∃ a b, l = [a, b]) ∧ (n = 3 → ∃ a b c, l = [a, b, c]) ∧ (n = 5 → ∃ a b c d e, l = [a, b, c, d, e]) := by
  subst h
  refine ⟨fun h => ?_, fun h => ?_, fun h => ?_, fun h => ?_⟩
  · match l, h with
    | [a], _ => exact ⟨a, rfl⟩
  · match l, h with
    | [a, b], _ => exact ⟨a, b, rfl⟩
  · match l, h with
    | [a, b, c], _ => exact ⟨a, b, c, rfl⟩
  · match l, h with
    | [a, b, c, d, e], _ => exact ⟨a, b, c, d, e, rfl⟩

theorem rmoves_any (x : BarD) (dv : Value) (w : World) (hd : Ints w dv x.dims) (hok : barOk x = true) :
    Calls Tryz.prog 194 #[barv x dv] w fun e w' => ∃ o, e = .returned o ∧ Hid (OwnPts w' w.heap.size o (movesOf x)) ∧ Below w.heap.size w w' := by
  obtain ⟨p1, p2, p3, p4⟩ := barOk_parts hok
  have HDL : ∀ (i : Nat) y, x.dims[i]? = some y → 1 ≤ y ∧ y ≤ 262144 := fun i y h => ⟨p2 y (List.mem_of_getElem? h), by have := dims_le p2 h; omega⟩
  obtain ⟨m, s, c, co, ds⟩ := x
  simp only at *
  obtain ⟨ao, cap, rfl, hd2⟩ := id hd
  obtain ⟨b, off, rfl, hbl, _⟩ := hd2 (by omega)
  have hc := ints_cells hd
  obtain ⟨l1, l2, l3, l5⟩ := len_cases p1
  rcases code_cases co with (rfl | rfl | rfl | rfl | rfl | rfl | rfl | rfl) | ⟨_, hn, _⟩
  · obtain ⟨a0, rfl⟩ := l1 rfl
    obtain ⟨p0', q0'⟩ := HDL 0 a0 rfl
    have h := moves_0 m s c a0 b off cap w hbl (hc 0 _ rfl).1 p0' q0'
    have e : movesOf ⟨m, s, c, 0, [a0]⟩ = [⟨a0, 0, 0⟩] := by simp [movesOf, legsOf, moveOf, stepP]
    rw [← e] at h
    exact h
  · obtain ⟨a0, a1, rfl⟩ := l2 rfl
    obtain ⟨p0', q0'⟩ := HDL 0 a0 rfl
    obtain ⟨p1', q1'⟩ := HDL 1 a1 rfl
    have h := moves_11 m s c a0 a1 b off cap w hbl (hc 0 _ rfl).1 (hc 1 _ rfl).1 p0' q0' p1' q1'
    have e : movesOf ⟨m, s, c, 11, [a0, a1]⟩ = [⟨a0, 0, 0⟩, ⟨0, a1, 0⟩] := by simp [movesOf, legsOf, moveOf, stepP]
    rw [← e] at h
    exact h
  · obtain ⟨a0, a1, a2, rfl⟩ := l3 rfl
    obtain ⟨p0', q0'⟩ := HDL 0 a0 rfl
    obtain ⟨p1', q1'⟩ := HDL 1 a1 rfl
    obtain ⟨p2', q2'⟩ := HDL 2 a2 rfl
    have h := moves_21 m s c a0 a1 a2 b off cap w hbl (hc 0 _ rfl).1 (hc 1 _ rfl).1 (hc 2 _ rfl).1 p0' q0' p1' q1' p2' q2'
    have e : movesOf ⟨m, s, c, 21, [a0, a1, a2]⟩ = [⟨0, -a0, 0⟩, ⟨a1, 0, 0⟩, ⟨0, a2, 0⟩] := by simp [movesOf, legsOf, moveOf, stepP]
    rw [← e] at h
    exact h
  · obtain ⟨a0, a1, a2, rfl⟩ := l3 rfl
    obtain ⟨p0', q0'⟩ := HDL 0 a0 rfl
    obtain ⟨p1', q1'⟩ := HDL 1 a1 rfl
    obtain ⟨p2', q2'⟩ := HDL 2 a2 rfl
    have h := moves_26 m s c a0 a1 a2 b off cap w hbl (hc 0 _ rfl).1 (hc 1 _ rfl).1 (hc 2 _ rfl).1 p0' q0' p1' q1' p2' q2'
    have e : movesOf ⟨m, s, c, 26, [a0, a1, a2]⟩ = [⟨a0, 0, 0⟩, ⟨0, a1, 0⟩, ⟨a2, 0, 0⟩] := by simp [movesOf, legsOf, moveOf, stepP]
    rw [← e] at h
    exact h
  · obtain ⟨a0, a1, a2, rfl⟩ := l3 rfl
    obtain ⟨p0', q0'⟩ := HDL 0 a0 rfl
    obtain ⟨p1', q1'⟩ := HDL 1 a1 rfl
    obtain ⟨p2', q2'⟩ := HDL 2 a2 rfl
    have h := moves_31 m s c a0 a1 a2 b off cap w hbl (hc 0 _ rfl).1 (hc 1 _ rfl).1 (hc 2 _ rfl).1 p0' q0' p1' q1' p2' q2'
    have e : movesOf ⟨m, s, c, 31, [a0, a1, a2]⟩ = [⟨a0, 0, 0⟩, ⟨0, a1, 0⟩, ⟨0, 0, a2⟩] := by simp [movesOf, legsOf, moveOf, stepP]
    rw [← e] at h
    exact h
  · obtain ⟨a0, a1, a2, a3, a4, rfl⟩ := l5 rfl
    obtain ⟨p0', q0'⟩ := HDL 0 a0 rfl
    obtain ⟨p1', q1'⟩ := HDL 1 a1 rfl
    obtain ⟨p2', q2'⟩ := HDL 2 a2 rfl
    obtain ⟨p3', q3'⟩ := HDL 3 a3 rfl
    obtain ⟨p4', q4'⟩ := HDL 4 a4 rfl
    have h := moves_41 m s c a0 a1 a2 a3 a4 b off cap w hbl (hc 0 _ rfl).1 (hc 1 _ rfl).1 (hc 2 _ rfl).1 (hc 3 _ rfl).1 (hc 4 _ rfl).1 p0' q0' p1' q1' p2' q2' p3' q3' p4' q4'
    have e : movesOf ⟨m, s, c, 41, [a0, a1, a2, a3, a4]⟩ = [⟨a0, 0, 0⟩, ⟨0, a1, 0⟩, ⟨a2, 0, 0⟩, ⟨0, -a3, 0⟩, ⟨a4, 0, 0⟩] := by simp [movesOf, legsOf, moveOf, stepP]
    rw [← e] at h
    exact h
  · obtain ⟨a0, a1, a2, rfl⟩ := l3 rfl
    obtain ⟨p0', q0'⟩ := HDL 0 a0 rfl
    obtain ⟨p1', q1'⟩ := HDL 1 a1 rfl
    obtain ⟨p2', q2'⟩ := HDL 2 a2 rfl
    have h := moves_51 m s c a0 a1 a2 b off cap w hbl (hc 0 _ rfl).1 (hc 1 _ rfl).1 (hc 2 _ rfl).1 p0' q0' p1' q1' p2' q2'
    have e : movesOf ⟨m, s, c, 51, [a0, a1, a2]⟩ = [⟨0, -a2, 0⟩, ⟨a0, 0, 0⟩, ⟨0, a1, 0⟩, ⟨-a0, 0, 0⟩, ⟨0, -a1, 0⟩, ⟨a2, 0, 0⟩] := by simp [movesOf, legsOf, moveOf, stepP]
    rw [← e] at h
    exact h
  · obtain ⟨a0, a1, a2, rfl⟩ := l3 rfl
    obtain ⟨p0', q0'⟩ := HDL 0 a0 rfl
    obtain ⟨p1', q1'⟩ := HDL 1 a1 rfl
    obtain ⟨p2', q2'⟩ := HDL 2 a2 rfl
    have h := moves_98 m s c a0 a1 a2 b off cap w hbl (hc 0 _ rfl).1 (hc 1 _ rfl).1 (hc 2 _ rfl).1 p0' q0' p1' q1' p2' q2'
    have e : movesOf ⟨m, s, c, 98, [a0, a1, a2]⟩ = [⟨0, 0, a0⟩, ⟨0, -a1, 0⟩, ⟨a2, 0, 0⟩, ⟨0, a1, 0⟩, ⟨0, 0, a0⟩] := by simp [movesOf, legsOf, moveOf, stepP]
    rw [← e] at h
    exact h
  · omega
end

section
open Go.RowKit
set_option linter.unusedVariables false
set_option linter.unusedSimpArgs false
attribute [local go_sem ↓] Go.wp_at_zero Go.wp_at_succ

def sumP (ms : List Pt) (k : Nat) : Pt := (ms.take k).foldl padd ⟨0, 0, 0⟩
def sumsP (ms : List Pt) (k : Nat) : List Pt := (List.range (k + 1)).map (sumP ms)
theorem sumP_succ {ms : List Pt} {k : Nat} {m : Pt} (h : ms[k]? = some m) : sumP ms (k + 1) = padd (sumP ms k) m := by
  have hk := (List.getElem?_eq_some_iff.1 h).1
  unfold sumP
  rw [List.take_succ_eq_append_getElem hk, List.foldl_append, (List.getElem?_eq_some_iff.1 h).2]
  rfl
theorem sumsP_succ (ms : List Pt) (k : Nat) : sumsP ms (k + 1) = sumsP ms k ++ [sumP ms (k + 1)] := by
  unfold sumsP
  rw [List.range_succ, List.map_append]; rfl
theorem sumsP_len (ms : List Pt) (k : Nat) : (sumsP ms k).length = k + 1 := by simp [sumsP]
theorem sumP_pos (d : List Int) (ls : List (Nat × Nat)) (k : Nat) : sumP (ls.map (moveOf d)) k = posP d ls k := by
  have key : ∀ (l : List (Nat × Nat)) (p : Pt), (l.map (moveOf d)).foldl padd p = l.foldl (fun p l => stepP p l.2 (d[l.1]?.getD 0)) p := by
    intro l
    induction l with
    | nil => intro p; rfl
    | cons a l ih =>
      intro p
      simp only [List.map_cons, List.foldl_cons]
      rw [ih, stepP_move p]
      rfl
  unfold sumP posP
  rw [← List.map_take, key]
theorem sumsP_path (x : BarD) : sumsP (movesOf x) (movesOf x).length = pathOf x := by
  unfold sumsP pathOf pathN movesOf
  rw [List.length_map]
  exact List.map_congr_left fun k _ => sumP_pos _ _ k

structure RPathW (w : World) (A : Nat) (ms : List Pt) (mv : Value) (k j : Nat) (o : Value) (wr : World) : Prop where
  below : Below w.heap.size w wr
  hA : w.heap.size < A
  pos : BlkIs wr A 88 #[.int .i64 (sumP ms j).x, .int .i64 (sumP ms j).y, .int .i64 (sumP ms j).z]
  own : OwnPts wr (A + 1) o (sumsP ms k)
  mvs : Pts wr mv ms
  old : ∀ b off n c, mv = .slice (some ⟨b, off, none⟩) n c → b < A
section
variable {w : World} {A : Nat} {ms : List Pt} {mv : Value} {k j : Nat} {o : Value} {wr : World}
theorem RPathW.new (h : RPathW w A ms mv k j o wr) (ob : Obj) : RPathW w A ms mv k j o (wr.alloc ob) :=
  ⟨h.below.alloc h.below.size _, h.hA, h.pos.alloc _, h.own.alloc _, h.mvs.below (below_new _ _), h.old⟩
theorem RPathW.drew (h : RPathW w A ms mv k j o wr) : RPathW w A ms mv k j o wr.drew := ⟨h.below.drew, h.hA, h.pos, h.own, h.mvs, h.old⟩
theorem RPathW.move (h : RPathW w A ms mv k j o wr) {q : Pt} (hq : sumP ms (j + 1) = q) :
    RPathW w A ms mv k (j + 1) o (((wr.setCell ⟨A, 0, none⟩ (.int .i64 q.x)).setCell ⟨A, 1, none⟩ (.int .i64 q.y)).setCell ⟨A, 2, none⟩ (.int .i64 q.z)) := by
  have hA := h.hA
  subst hq
  refine ⟨((h.below.setCell (by simp; omega) _).setCell (by simp; omega) _).setCell (by simp; omega) _, h.hA, ((h.pos.set 0 _).set 1 _).set 2 _, ((h.own.far (by omega)).far (by omega)).far (by omega), h.mvs.keep (by simp) (fun b o hb he => ?_), h.old⟩
  obtain ⟨off, n, c, e⟩ := he
  have h1 := h.old _ _ _ _ e
  have hne : ∀ i, (⟨A, i, none⟩ : Addr) ≠ ⟨b, o, none⟩ := fun i e => by injection e with e1 _; omega
  rw [World.cell?_setCell_other _ _ _ _ (hne 2), World.cell?_setCell_other _ _ _ _ (hne 1), World.cell?_setCell_other _ _ _ _ (hne 0)]
theorem RPathW.push {v' : Value} {w' : World} (h : RPathW w A ms mv k (k + 1) o wr) (ho : OwnPts w' (A + 1) v' (sumsP ms k ++ [sumP ms (k + 1)])) (hg : wr.grownBy w' o.ownBlock) : RPathW w A ms mv (k + 1) (k + 1) v' w' := by
  have hn : ∀ g, o.ownBlock = some g → A + 1 ≤ g := fun g hg => (h.own.lt g hg).1
  have hA := h.hA
  refine ⟨h.below.grown hg h.below.size (fun j hj => by have := hn j hj; omega), h.hA, ?_, by rw [sumsP_succ]; exact ho, h.mvs.keep hg.size (fun b o' hb he => ?_), h.old⟩
  · exact (hg.block _ h.pos.lt (fun e => by have := hn _ e.symm; omega)).trans h.pos
  · obtain ⟨off, n, c, e⟩ := he
    have h1 := h.old _ _ _ _ e
    exact World.cell?_of_block (a := ⟨b, o', none⟩) (hg.block b hb (fun e => by have := hn _ e.symm; omega))
end

set_option maxRecDepth 100000 in
set_option maxHeartbeats 4000000 in
theorem rpath_any (x : BarD) (dv : Value) (w : World) (hd : Ints w dv x.dims) (hok : barOk x = true) :
    Calls Tryz.prog 172 #[barv x dv] w fun e w' => ∃ o, e = .returned o ∧ Hid (OwnPts w' w.heap.size o (pathOf x)) ∧ Below w.heap.size w w' := by
  obtain ⟨p1, p2, p3, p4⟩ := barOk_parts hok
  have HM := Lib.hid (fun W (hW : Below w.heap.size w W) => rmoves_any x dv W (Sl.below hd hW) hok)
  have HP := Lib.hid (sumsP_path x)
  have HBD : Hid (∀ k : Nat, PtIn (k * 262144) (sumP (movesOf x) k)) := fun k => by unfold movesOf; rw [sumP_pos]; exact pos_bd p2 p3 k
  have hl6 : (movesOf x).length ≤ 6 := by unfold movesOf; rw [List.length_map]; exact legs_len6 _
  generalize pathOf x = P at *
  generalize movesOf x = ms at *
  obtain ⟨m, s, c, co, ds⟩ := x
  simp only at *
  obtain ⟨ao, cap, rfl, _⟩ := hd
  clear p1 p2 p3 p4 hok
  go_enter Tryz.func172, Tryz.ntmps172
  go_wp2_with fail
  refine (HM.out _ (by go_grown)).mono ?_
  rintro e w1 ⟨mv, rfl, HMV, hb1⟩
  have HB1 := Lib.hid (bstep (by go_grown) hb1 : Below w.heap.size w w1)
  have hz1 : w.heap.size < w1.heap.size := by have := hb1.size; simp at this; omega
  have HF := Lib.hid (HMV.out.fl pt_len)
  have HW0 : Hid (RPathW w w1.heap.size ms mv 0 0 (.slice (some ⟨w1.heap.size + 1, 0, none⟩) 1 1) ((w1.alloc (.cells #[.int .i64 0, .int .i64 0, .int .i64 0] 88)).alloc (.cells #[.int .i64 0, .int .i64 0, .int .i64 0] 88))) := by
    refine ⟨(HB1.out.alloc HB1.out.size _).alloc (by have := HB1.out.size; simp; omega) _, hz1, (BlkIs.new w1 _ _).alloc _, ?_, (HF.out.below (below_new _ _)).below (below_new _ _), fun b off n c e => ?_⟩
    · have h := own_lit (w1.alloc (.cells #[.int .i64 0, .int .i64 0, .int .i64 0] 88)) 88 3 ptCells (sumsP ms 0) #[.int .i64 0, .int .i64 0, .int .i64 0] 1 (w1.heap.size + 1) (by simp) rfl rfl pt_len (by simp [sumsP])
      rw [World.size_alloc] at h
      exact h
    · subst e
      rcases HMV.out.2 with ⟨h1, _⟩ | ⟨g, cap, cur, h1, _, hg, _⟩
      · cases h1
      · cases h1
        exact (Array.getElem?_eq_some_iff.1 hg).1
  obtain ⟨mo, mcap, rfl⟩ := HF.out.at_
  clear hb1 HMV HF HM
  go_wp2_with fail
  go_loopw [5, 6] (fun o i wr => ∃ k : Nat, k ≤ ms.length ∧ i = .int .i64 k ∧ RPathW w w1.heap.size ms (.slice mo ms.length mcap) k k o wr) (fun _ i _ => ms.length - (intOf i).toNat)
  case atStart => exact ⟨0, Nat.zero_le _, rfl, HW0.out⟩
  case round =>
    clear HW0
    obtain ⟨k, hk, rfl, HW⟩ := hrel
    by_cases hlt : k < ms.length
    · obtain ⟨y, hy⟩ : ∃ y, ms[k]? = some y := ⟨_, List.getElem?_eq_getElem hlt⟩
      obtain ⟨b, off, rfl, hbl, g0, g1, g2⟩ := pts_get HW.mvs hy
      have HS := Lib.hid (sumP_succ hy)
      obtain ⟨q1, q2, q3, q4, q5, q6⟩ := HBD.out k
      obtain ⟨r1, r2, r3, r4, r5, r6⟩ := HBD.out (k + 1)
      rw [HS.out] at r1 r2 r3 r4 r5 r6
      simp only [padd] at r1 r2 r3 r4 r5 r6
      have t0 := HW.pos.cell 0
      have t1 := HW.pos.cell 1
      have t2 := HW.pos.cell 2
      have tf := HW.pos.free
      have hzw := HW.pos.lt
      have hplen : (sumsP ms k).length + 1 ≤ 1099511627776 := by rw [sumsP_len]; omega
      have hbase := HW.hA
      have HW := Lib.hid HW
      generalize hq : sumP ms k = q at *
      have HQ := Lib.hid hq
      have HM2 := Lib.hid (HW.out.drew.move (j := k) (q := padd q y) HS.out)
      have HS2 : Hid (sumP ms (k + 1) = padd q y) := HS
      clear hy hq HS
      go_upto_region 7 with fail
      go_still_tail 25, (by kernel_rfl)
      change wpList _ _ _ _ _ wr.drew
      simp only [padd] at HM2
      go_wp2_with (at_builtin; refine wpList_pushAt _ wr.heap.size (by simp) rfl _ _ 130 rfl 88 3 24 elemPt (w1.heap.size + 1) ptCells _ _ (padd q y) _ rfl rfl (pt_one _) HM2.out.own rfl rfl hplen (by omega) (by omega) ?_; intro v' w' hown' hg' hat'; have HP9 := Lib.hid (HM2.out.push (by rw [HS2.out]; exact hown') hg'); clear hown' hg' hat')
      go_roundw
      case rel => exact ⟨k + 1, by omega, by go_num, HP9.out⟩
      case measure => simp [intOf]; omega
    · obtain rfl : k = ms.length := by omega
      have HO := Lib.hid HW.own
      have HBW := Lib.hid HW.below
      have hz2 : w.heap.size ≤ w1.heap.size + 1 := by omega
      clear HW
      go_wp2
      go_ret
      exact ⟨_, rfl, by rw [← HP.out]; exact HO.out.mono hz2, HBW.out⟩
end

section
open Go.RowKit
set_option linter.unusedVariables false
set_option linter.unusedSimpArgs false
attribute [local go_sem ↓] Go.wp_at_zero Go.wp_at_succ

theorem hull2_self (p : Pt) : hull2 (pb p) (pb p) = pb p := by
  unfold hull2 pb mn mx
  simp
theorem hullN_one {l : List Pt} {p : Pt} (h : l[0]? = some p) : hullN (pb p) (l.map pb) 1 = pb p := by
  have h1 : (l.map pb)[0]? = some (pb p) := by rw [List.getElem?_map, h]; rfl
  have h2 := hullN_succ (x := pb p) h1
  rw [Nat.zero_add] at h2
  rw [h2]
  exact hull2_self p
theorem hullP_eq {l : List Pt} {p : Pt} (h : l[0]? = some p) : hullP l = hullN (pb p) (l.map pb) l.length := by
  unfold hullP
  rw [List.length_map, List.getD_eq_getElem?_getD, h]
  rfl

set_option maxRecDepth 100000 in
set_option maxHeartbeats 4000000 in
theorem rhull_any (v : Value) (l : List Pt) (p : Pt) (w : World) (hp : Pts w v l) (hl : l.length ≤ 140737488355328) (hx : l[0]? = some p) :
    Calls Tryz.prog 178 #[v] w fun e w' => e = .returned (bxv (hullP l)) ∧ Below w.heap.size w w' := by
  obtain ⟨ao, cap, rfl⟩ := hp.at_
  have HP := Lib.hid hp
  have hl0 : 0 < l.length := (List.getElem?_eq_some_iff.1 hx).1
  have i0 : (0 : Int) < (l.length : Int) := by omega
  have HX := Lib.hid hx
  have HQ := Lib.hid (hullP_eq hx)
  have H1 := Lib.hid (hullN_one hx)
  generalize hullP l = R at *
  clear hp hx
  go_enter Tryz.func178, Tryz.ntmps178
  go_upto_region 1 with fail
  obtain ⟨W, hW⟩ : ∃ W, w.alloc (.cells #[.int .i64 0, .int .i64 0, .int .i64 0, .int .i64 0, .int .i64 0, .int .i64 0] 134) = W := ⟨_, rfl⟩
  have HB0 : Hid (Below w.heap.size w W) := by rw [← hW]; exact below_new _ _
  have HR0 : Hid (BlkIs W w.heap.size 134 #[.int .i64 0, .int .i64 0, .int .i64 0, .int .i64 0, .int .i64 0, .int .i64 0]) := by rw [← hW]; exact BlkIs.new _ _ _
  have hz0 : W.heap.size = w.heap.size + 1 := by rw [← hW]; simp
  obtain ⟨b, off, rfl, hbl, c0, c1, c2⟩ := pts_get (HP.out.below HB0.out) HX.out
  rw [Nat.zero_mul, Nat.add_zero] at c0 c1 c2
  rw [hW]
  have HZ0 := Lib.hid hz0
  clear hW hz0
  go_region_held3 (fun w' => w'.cell? ⟨b, off, none⟩ = some (.int .i64 p.x) ∧ w'.cell? ⟨b, off + 1, none⟩ = some (.int .i64 p.y) ∧ w'.cell? ⟨b, off + 2, none⟩ = some (.int .i64 p.z)) ((first | (refine ⟨?_, ?_, ?_⟩ <;> (go_simp; done)) | fail)) ((first | fail | fail))
  go_wp2_with fail
  have H0 : Hid (HullW w W.heap.size (hullN (pb p) (l.map pb) 1) (W.alloc (.cells (bxCellsA (pb p)) 134)).drew) := by rw [H1.out]; exact ⟨(HB0.out.alloc HB0.out.size _).drew, HR0.out.lt, HR0.out.alloc _, BlkIs.new _ _ _⟩
  clear HB0 HR0 HZ0 c0 c1 c2 hbl
  go_loopw [4] (fun i wr => ∃ k : Nat, 1 ≤ k ∧ k ≤ l.length ∧ i = .int .i64 k ∧ HullW w W.heap.size (hullN (pb p) (l.map pb) k) wr) (fun i _ => l.length - (intOf i).toNat)
  case atStart => exact ⟨1, by omega, hl0, rfl, H0.out⟩
  case round =>
    clear H0
    obtain ⟨k, hk1, hk, rfl, HI⟩ := hrel
    by_cases hk2 : k < l.length
    · obtain ⟨y, hy⟩ : ∃ y, l[k]? = some y := ⟨_, List.getElem?_eq_getElem hk2⟩
      obtain ⟨bb, boff, e, hbl2, c0, c1, c2⟩ := pts_get (HP.out.below HI.below) hy
      cases e
      have HS := Lib.hid (hullN_succ (x := pb p) (l := l.map pb) (k := k) (y := pb y) (by rw [List.getElem?_map, hy]; rfl))
      generalize hullN (pb p) (l.map pb) k = cur at *
      have HN := Lib.hid (HI.next (y := pb y) (.cells #[.int .i64 y.x, .int .i64 y.y, .int .i64 y.z] 88))
      have d0 := HI.cur.cell 0
      have d1 := HI.cur.cell 1
      have d2 := HI.cur.cell 2
      have d3 := HI.cur.cell 3
      have d4 := HI.cur.cell 4
      have d5 := HI.cur.cell 5
      have df := HI.cur.free
      have dz := HI.cur.lt
      clear hy HI
      go_wp2
      go_roundw
      case rel => exact ⟨k + 1, by omega, by omega, by go_num, by rw [HS.out]; exact HN.out⟩
      case measure => simp [intOf]; omega
    · obtain rfl : k = l.length := by omega
      generalize hq : hullN (pb p) (l.map pb) l.length = cur at *
      have HQ2 := Lib.hid hq
      clear hq
      have d0 := HI.cur.cell 0
      have d1 := HI.cur.cell 1
      have d2 := HI.cur.cell 2
      have d3 := HI.cur.cell 3
      have d4 := HI.cur.cell 4
      have d5 := HI.cur.cell 5
      have e0 := HI.res.cell 0
      have e1 := HI.res.cell 1
      have e2 := HI.res.cell 2
      have e3 := HI.res.cell 3
      have e4 := HI.res.cell 4
      have e5 := HI.res.cell 5
      have ef := HI.res.free
      have HII := Lib.hid HI
      clear HI
      go_wp2
      refine bodyPost_ret (v := bxv cur) (by simp [results, Tryz.results178, go_sem, e0, e1, e2, e3, e4, e5, ef]) rfl ⟨by rw [HQ.out], ?_⟩
      exact HII.out.below.grown (grown_set6 _ _ _ _ _ _ _ _) HII.out.below.size (fun g e => by cases e; exact Nat.le_refl _)
end

section
open Go.RowKit
set_option linter.unusedVariables false
set_option linter.unusedSimpArgs false
attribute [local go_sem ↓] Go.wp_at_zero Go.wp_at_succ

set_option maxHeartbeats 1000000 in
theorem rnear_any (v : Value) (l : List Pt) (w : World) (hp : Pts w v l) (hl : l.length ≤ 1099511627776) :
    Calls Tryz.prog 137 #[v] w fun e w' => e = .returned (.bool (l.all (ptIn 1048576))) ∧ Below w.heap.size w w' := by
  obtain ⟨ao, cap, rfl⟩ := hp.at_
  have HP := Lib.hid hp
  obtain ⟨ok, hok⟩ : ∃ ok, l.all (ptIn 1048576) = ok := ⟨_, rfl⟩
  have HO := Lib.hid hok
  rw [hok]
  clear hp hok
  go_enter Tryz.func137, Tryz.ntmps137
  go_wp2
  go_loopw [3] (fun i wr => ∃ k : Nat, k ≤ l.length ∧ i = .int .i64 k ∧ Below w.heap.size w wr ∧ Hid (∀ (j : Nat) p, j < k → l[j]? = some p → ptIn 1048576 p = true)) (fun i _ => l.length - (intOf i).toNat)
  case atStart => exact ⟨0, Nat.zero_le _, rfl, Below.refl _ _, fun j _ hj => by omega⟩
  case round =>
    obtain ⟨k, hk, rfl, hBr, hno⟩ := hrel
    by_cases hk2 : k < l.length
    · obtain ⟨p, hy⟩ : ∃ y, l[k]? = some y := ⟨_, List.getElem?_eq_getElem hk2⟩
      obtain ⟨b, off, rfl, hbl, c0, c1, c2⟩ := pts_get (HP.out.below hBr) hy
      have HY := Lib.hid hy
      have HN := Lib.hid (near_any p wr)
      have HB := Lib.hid hBr
      obtain ⟨q, hq⟩ : ∃ q, ptIn 1048576 p = q := ⟨_, rfl⟩
      rw [hq] at HN
      have HQ := Lib.hid hq
      clear hy hq hBr
      cases q
      · have HF : Hid (false = ok) := (allN_no HY.out HQ.out).symm.trans HO.out
        go_wp2_with fail
        refine HN.out.mono ?_
        rintro e w9 ⟨rfl, hb9⟩
        have HB9 := Lib.hid (bstep HB.out hb9)
        clear hb9
        go_wp2
        go_ret
        exact ⟨ret_bool HF.out, HB9.out⟩
      · go_wp2_with fail
        refine HN.out.mono ?_
        rintro e w9 ⟨rfl, hb9⟩
        have HB9 := Lib.hid (bstep HB.out hb9)
        clear hb9
        go_wp2
        go_roundw
        case rel => exact ⟨k + 1, by omega, by go_num, HB9.out, fun j z hj hz => by
          by_cases e : j = k
          · subst e; rw [HY.out] at hz; cases hz; exact HQ.out
          · exact hno.out j z (by omega) hz⟩
        case measure => simp [intOf]; omega
    · have HT : Hid (true = ok) := by
        unfold Hid
        rw [← HO.out]
        symm
        rw [List.all_eq_true]
        intro p hp
        obtain ⟨j, hj, rfl⟩ := List.getElem_of_mem hp
        exact hno.out j _ (by omega) (List.getElem?_eq_getElem hj)
      go_wp2
      go_ret
      exact ⟨ret_bool HT.out, hBr⟩

abbrev runCellsA (r : RunD) : Array Value := #[.string r.mark, .int .i64 r.tx, .int .i64 r.ty, .int .i64 r.at_.x, .int .i64 r.at_.y, .int .i64 r.at_.z, .int .i64 r.step.x, .int .i64 r.step.y, .int .i64 r.step.z, .int .i64 r.count]
structure PtsW (w : World) (A : Nat) (r : RunD) (q : Pt) (lv : Value) (P : List Pt) (o : Value) (D : List Pt) (wr : World) : Prop where
  below : Below w.heap.size w wr
  hA : w.heap.size + 1 < A
  run : BlkIs wr (w.heap.size + 1) 90 (runCellsA r)
  pos : BlkIs wr A 88 #[.int .i64 q.x, .int .i64 q.y, .int .i64 q.z]
  pth : Pts wr lv P
  old : ∀ b off n c, lv = .slice (some ⟨b, off, none⟩) n c → b < A
  own : OwnPts wr (A + 1) o D
abbrev PtsS4 (R : Nat) (s : Pt) (W : World) : Prop :=
  W.cell? ⟨R, 6, none⟩ = some (.int .i64 s.x) ∧ W.cell? ⟨R, 7, none⟩ = some (.int .i64 s.y) ∧ W.cell? ⟨R, 8, none⟩ = some (.int .i64 s.z)
abbrev PtsS9 (R A : Nat) (q : Pt) (x y : Int) (b o : Nat) (p : Pt) (W : World) : Prop :=
  W.cell? ⟨A, 0, none⟩ = some (.int .i64 q.x) ∧ W.cell? ⟨A, 1, none⟩ = some (.int .i64 q.y) ∧ W.cell? ⟨A, 2, none⟩ = some (.int .i64 q.z) ∧
  W.cell? ⟨R, 1, none⟩ = some (.int .i64 x) ∧ W.cell? ⟨R, 2, none⟩ = some (.int .i64 y) ∧
  W.cell? ⟨b, o, none⟩ = some (.int .i64 p.x) ∧ W.cell? ⟨b, o + 1, none⟩ = some (.int .i64 p.y) ∧ W.cell? ⟨b, o + 2, none⟩ = some (.int .i64 p.z)
section
variable {w : World} {A : Nat} {r : RunD} {q : Pt} {lv : Value} {P : List Pt} {o : Value} {D : List Pt} {wr wr' : World}
theorem PtsW.after (h : PtsW w A r q lv P o D wr) (hb : Below wr.heap.size wr wr') : PtsW w A r q lv P o D wr' :=
  ⟨bstep h.below hb, h.hA, h.run.below hb, h.pos.below hb, h.pth.below hb, h.old, OwnN.below h.own hb⟩
theorem PtsW.drew (h : PtsW w A r q lv P o D wr) : PtsW w A r q lv P o D wr.drew := ⟨h.below.drew, h.hA, h.run, h.pos, h.pth, h.old, h.own⟩
theorem PtsW.s4 (h : PtsW w A r q lv P o D wr) : PtsS4 (w.heap.size + 1) r.step wr := ⟨h.run.cell 6, h.run.cell 7, h.run.cell 8⟩
theorem PtsW.s9 {len cap j b off : Nat} {p : Pt} (h : PtsW w A r q (.slice (some ⟨b, off, none⟩) len cap) P o D wr) (hj : P[j]? = some p) : PtsS9 (w.heap.size + 1) A q r.tx r.ty b (off + j * 3) p wr := by
  obtain ⟨b', off', e, _, c0, c1, c2⟩ := pts_get h.pth hj
  cases e
  exact ⟨h.pos.cell 0, h.pos.cell 1, h.pos.cell 2, h.run.cell 1, h.run.cell 2, c0, c1, c2⟩
theorem PtsW.move (h : PtsW w A r q lv P (.slice none 0 0) [] wr) (q' : Pt) :
    PtsW w A r q' lv P (.slice none 0 0) [] (((wr.setCell ⟨A, 0, none⟩ (.int .i64 q'.x)).setCell ⟨A, 1, none⟩ (.int .i64 q'.y)).setCell ⟨A, 2, none⟩ (.int .i64 q'.z)) := by
  have hA := h.hA
  refine ⟨((h.below.setCell (by simp; omega) _).setCell (by simp; omega) _).setCell (by simp; omega) _, h.hA, ((h.run.far (by simp; omega) _).far (by simp; omega) _).far (by simp; omega) _, ((h.pos.set 0 _).set 1 _).set 2 _, h.pth.keep (by simp) (fun b o hb he => ?_), h.old, OwnN.nil _ _ _ _ _⟩
  obtain ⟨off, n, c, e⟩ := he
  have h1 := h.old _ _ _ _ e
  have hne : ∀ i, (⟨A, i, none⟩ : Addr) ≠ ⟨b, o, none⟩ := fun i e => by injection e with e1 _; omega
  rw [World.cell?_setCell_other _ _ _ _ (hne 2), World.cell?_setCell_other _ _ _ _ (hne 1), World.cell?_setCell_other _ _ _ _ (hne 0)]
theorem PtsW.push {o' : Value} {D' : List Pt} (h : PtsW w A r q lv P o D wr) (ho : OwnPts wr' (A + 1) o' D') (hg : wr.grownBy wr' o.ownBlock) : PtsW w A r q lv P o' D' wr' := by
  have hn : ∀ g, o.ownBlock = some g → A + 1 ≤ g := fun g hg => (h.own.lt g hg).1
  have hA := h.hA
  refine ⟨h.below.grown hg h.below.size (fun j hj => by have := hn j hj; omega), h.hA, ?_, ?_, h.pth.keep hg.size (fun b o' hb he => ?_), h.old, ho⟩
  · exact (hg.block _ h.run.lt (fun e => by have := hn _ e.symm; omega)).trans h.run
  · exact (hg.block _ h.pos.lt (fun e => by have := hn _ e.symm; omega)).trans h.pos
  · obtain ⟨off, n, c, e⟩ := he
    have h1 := h.old _ _ _ _ e
    exact World.cell?_of_block (a := ⟨b, o', none⟩) (hg.block b hb (fun e => by have := hn _ e.symm; omega))
end

def atK (r : RunD) (k : Int) : Pt := if 0 < k then padd r.at_ (pmul k r.step) else r.at_
def rptsOf (b : BarD) (r : RunD) (k : Int) : List Pt := (pathOf b).map fun p => padd (atK r k) (img r.tx r.ty p)
theorem rpts_eq (b : BarD) (r : RunD) (k : Int) : rptsOf b r k = (turnedOf b r).map (shiftP r k) := by
  unfold rptsOf turnedOf
  rw [List.map_map]
  refine List.map_congr_left fun p _ => ?_
  simp only [Function.comp, atK, shiftP]
  generalize img r.tx r.ty p = u
  split
  · rw [pmul_one]; unfold padd; simp only [Pt.mk.injEq]; omega
  · rw [pmul_one]; unfold padd; simp only [Pt.mk.injEq]; omega

set_option maxRecDepth 100000 in
set_option maxHeartbeats 4000000 in
theorem rpoints_any (b : BarD) (dv : Value) (r : RunD) (k : Int) (w : World) (hd : Ints w dv b.dims) (hok : barOk b = true) (ht : turnB r.tx r.ty = true) (ha : PtIn 1048576 r.at_) (hk0 : 0 ≤ k) (hk1 : k ≤ 999) (hs : 0 < k → PtIn 2097152 r.step) :
    Calls Tryz.prog 138 #[barv b dv, runv r, .int .i64 k] w fun e w' => ∃ o, e = .returned o ∧ Hid (OwnPts w' w.heap.size o (rptsOf b r k)) ∧ Below w.heap.size w w' := by
  obtain ⟨hx, hy⟩ := turn_axes ht
  have HPA := Lib.hid (fun W (hW : Below w.heap.size w W) => rpath_any b dv W (Sl.below hd hW) hok)
  have HNR : Hid (∀ p ∈ pathOf b, PtIn 1048576 p) := fun p hp => ptIn_iff.1 (List.all_eq_true.1 (path_near hok) p hp)
  have HL7 := Lib.hid (path_len (x := b))
  have HR : Hid (rptsOf b r k = (pathOf b).map fun p => padd (atK r k) (img r.tx r.ty p)) := rfl
  have hq : PtIn 4296015872 (atK r k) := by
    unfold atK
    split
    · rename_i h; exact (padd_bd ha (pstep_bd (hs h) hk0 hk1)).mono (by omega)
    · exact ha.mono (by omega)
  have HQ := Lib.hid hq
  have HT := Lib.hid (fun W (h : 0 < k) => times_any r.step k W ((pstep_bd (hs h) hk0 hk1).mono (by omega)))
  have HAT := Lib.hid (fun W (h : 0 < k) => rplus_any r.at_ (pmul k r.step) W (ha.mono (by omega)) ((pstep_bd (hs h) hk0 hk1).mono (by omega)))
  have HIM := Lib.hid (fun p (h : PtIn 1048576 p) W => rimage_any r.tx r.ty p W hx hy h)
  have HIB := Lib.hid (fun p (h : PtIn 1048576 p) => img_bd r.tx r.ty p hx hy h)
  have HQ0 : Hid (¬ 0 < k → atK r k = r.at_) := fun h => if_neg h
  have HQ1 : Hid (0 < k → atK r k = padd r.at_ (pmul k r.step)) := fun h => if_pos h
  clear hx hy ht ha hs hq
  generalize rptsOf b r k = R at *
  generalize pathOf b = P at *
  generalize atK r k = q at *
  obtain ⟨bm, bs, bc, bco, ds⟩ := b
  simp only at *
  obtain ⟨ao, cap, rfl, _⟩ := hd
  clear hok
  go_enter Tryz.func138, Tryz.ntmps138
  go_wp2_with fail
  refine (HPA.out _ (by go_grown)).mono ?_
  rintro e w1 ⟨lv, rfl, HLV, hb1⟩
  have hz1 : w.heap.size + 1 < w1.heap.size := by have := hb1.size; simp at this; omega
  have HRW : Hid (BlkIs w1 (w.heap.size + 1) 90 (runCellsA r)) := (BlkIs.new1 w _ _ _).below hb1
  have HB1 := Lib.hid (bstep (by go_grown) hb1 : Below w.heap.size w w1)
  have HF := Lib.hid (HLV.out.fl pt_len)
  have c3 := HRW.out.cell 3
  have c4 := HRW.out.cell 4
  have c5 := HRW.out.cell 5
  have HOLD : Hid (∀ b off n c, lv = .slice (some ⟨b, off, none⟩) n c → b < w1.heap.size) := fun b off n c e => by
    subst e
    rcases HLV.out.2 with ⟨h1, _⟩ | ⟨g, cap, cur, h1, _, hg, _⟩
    · cases h1
    · cases h1
      exact (Array.getElem?_eq_some_iff.1 hg).1
  obtain ⟨lo, lcap, rfl⟩ := HF.out.at_
  have HW0 : Hid (PtsW w w1.heap.size r r.at_ (.slice lo P.length lcap) P (.slice none 0 0) [] (w1.alloc (.cells #[.int .i64 r.at_.x, .int .i64 r.at_.y, .int .i64 r.at_.z] 88))) :=
    ⟨HB1.out.alloc HB1.out.size _, hz1, HRW.out.alloc _, BlkIs.new _ _ _, HF.out.below (below_new _ _), HOLD.out, OwnN.nil _ _ _ _ _⟩
  clear hb1 HLV HPA HB1 HF HRW HOLD
  go_upto_if 16 with fail
  obtain ⟨W0, hW0⟩ : ∃ W0, w1.alloc (.cells #[.int .i64 r.at_.x, .int .i64 r.at_.y, .int .i64 r.at_.z] 88) = W0 := ⟨_, rfl⟩
  rw [hW0] at HW0 ⊢
  clear hW0 c3 c4 c5
  go_cut [] (fun wc => Hid (PtsW w w1.heap.size r q (.slice lo P.length lcap) P (.slice none 0 0) [] wc))
  case first =>
    by_cases hk : 0 < k
    · have HW := Lib.hid HW0.out
      have HT1 := Lib.hid (fun W => HT.out W hk)
      have HT2 := Lib.hid (fun W => HAT.out W hk)
      have HQQ := Lib.hid (HQ1.out hk)
      clear HW0 HT HAT HQ1 HQ0
      obtain ⟨s0, s1, s2⟩ := HW.out.s4
      have c0 := fun d os => cell_regrown (HW.out.pos.cell 0) d os
      have c1 := fun d os => cell_regrown (HW.out.pos.cell 1) d os
      have c2 := fun d os => cell_regrown (HW.out.pos.cell 2) d os
      have c6 := fun d os => cell_regrown s0 d os
      have c7 := fun d os => cell_regrown s1 d os
      have c8 := fun d os => cell_regrown s2 d os
      clear s0 s1 s2
      go_upto_region 4 with fail
      refine wp_region_below_tail 6 (by kernel_rfl) (by kernel_rfl) ?_
      simp only [List.take_succ_cons, List.take_zero, List.drop_succ_cons, List.drop_zero]
      repeat (go_big_quiet_step ((first
        | (go_at_call 174; exact Calls.regrown_of (HT1.out _))
        | (go_at_call 173; exact Calls.regrown_of (HT2.out _)))))
      refine wpQuiet_nil ?_
      intro _ hw'
      obtain ⟨⟨nq, osq⟩, hw''⟩ := hw'
      subst hw''
      have HW2 := Lib.hid (HW.out.after (below_regrown _ nq osq))
      clear c0 c1 c2 c6 c7 c8 HW HT1 HT2
      generalize Go.Sort.grow (redrawn W0 nq) osq = W2 at *
      have c0 := HW2.out.pos.cell 0
      have c1 := HW2.out.pos.cell 1
      have c2 := HW2.out.pos.cell 2
      have f0 := HW2.out.pos.free
      have z0 := HW2.out.pos.lt
      go_wp2_with fail
      go_meet
      case rel => rw [HQQ.out]; exact HW2.out.move _
    · have HE := Lib.hid (HQ0.out (by omega))
      go_wp2_with fail
      go_meet
      case rel => rw [HE.out]; exact HW0.out
  case rest =>
    have HW1 := hcut
    have hIX : Hid (∀ (j : Nat) (p : Pt), P[j]? = some p → PtIn 1048576 p) := fun j p h => HNR.out p (List.mem_of_getElem? h)
    have hl7 := HL7.out
    clear hcut HW0 HT HAT HQ0 HQ1 HNR HL7
    go_wp2_with fail
    go_loopw [9, 10] (fun o i wr => ∃ j : Nat, j ≤ P.length ∧ i = .int .i64 j ∧ PtsW w w1.heap.size r q (.slice lo P.length lcap) P o ((P.take j).map fun p => padd q (img r.tx r.ty p)) wr) (fun _ i _ => P.length - (intOf i).toNat)
    case atStart => exact ⟨0, Nat.zero_le _, rfl, HW1.out⟩
    case round =>
      clear HW1
      obtain ⟨j, hj, rfl, hW⟩ := hrel
      by_cases hlt : j < P.length
      · obtain ⟨p, hp⟩ : ∃ y, P[j]? = some y := ⟨_, List.getElem?_eq_getElem hlt⟩
        obtain ⟨pb', poff, e, hpl, _, _, _⟩ := pts_get hW.pth hp
        cases e
        have HW := Lib.hid hW
        have HS := Lib.hid (snoc_map (fun p => padd q (img r.tx r.ty p)) hp)
        have HP := Lib.hid hp
        have hpn := hIX.out j p hp
        have HI := Lib.hid (fun W => HIM.out p hpn W)
        have HPL := Lib.hid (fun W => rplus_any q (img r.tx r.ty p) W (HQ.out.mono (by omega)) ((HIB.out p hpn).mono (by omega)))
        have hlen : ((P.take j).map fun p => padd q (img r.tx r.ty p)).length + 1 ≤ 1099511627776 := by simp; omega
        have i0 : (0 : Int) ≤ (j : Int) := by omega
        have i1 : (j : Int) < (P.length : Int) := by omega
        generalize hu : padd q (img r.tx r.ty p) = u at *
        generalize ((P.take j).map fun p => padd q (img r.tx r.ty p)) = D at *
        generalize img r.tx r.ty p = g at *
        clear hp hW hu hpn
        obtain ⟨wo, rfl⟩ : ∃ wo : World, wo = wr := ⟨_, rfl⟩
        obtain ⟨s0, s1, s2, s3, s4, s5, s6, s7⟩ := HW.out.s9 HP.out
        have c0 := fun d os => cell_regrown s0 d os
        have c1 := fun d os => cell_regrown s1 d os
        have c2 := fun d os => cell_regrown s2 d os
        have c3 := fun d os => cell_regrown s3 d os
        have c4 := fun d os => cell_regrown s4 d os
        have c5 := fun d os => cell_regrown s5 d os
        have c6 := fun d os => cell_regrown s6 d os
        have c7 := fun d os => cell_regrown s7 d os
        clear s0 s1 s2 s3 s4 s5 s6 s7
        go_upto_region 9 with fail
        refine wp_region_below_tail1 9 _ rfl rfl (by kernel_rfl) (by kernel_rfl) (fun _ _ _ h => h) ?_
        simp only [List.take_succ_cons, List.take_zero, List.drop_succ_cons, List.drop_zero, Act.put, List.setIfInBounds_toArray, List.set_cons_zero, List.set_cons_succ, go_sem]
        repeat (go_big_quiet_step ((first
          | (go_at_call 175; exact Calls.regrown_of (HI.out _))
          | (go_at_call 173; exact Calls.regrown_of (HPL.out _)))))
        refine wpQuiet_nil ?_
        intro _ hw'
        obtain ⟨⟨nq, osq⟩, hw''⟩ := hw'
        subst hw''
        have HW2 := Lib.hid (HW.out.after (below_regrown _ nq osq))
        clear c0 c1 c2 c3 c4 c5 c6 c7 HW HI HPL
        generalize Go.Sort.grow (redrawn wo nq) osq = W2 at *
        have hb2 : w1.heap.size + 1 ≤ W2.heap.size := by have := HW2.out.pos.lt; omega
        go_wp2_with (at_builtin; refine wpList_pushAt _ W2.heap.size rfl rfl _ _ 130 rfl 88 3 24 elemPt (w1.heap.size + 1) ptCells _ _ u _ rfl rfl (pt_one _) HW2.out.own rfl rfl hlen (by omega) hb2 ?_; intro v' w' hown' hg' hat'; have HN := Lib.hid (HW2.out.push hown' hg'); clear hown' hg' hat')
        go_roundw
        case rel => exact ⟨j + 1, by omega, by go_num, by rw [HS.out]; exact HN.out⟩
        case measure => simp [intOf]; omega
      · obtain rfl : j = P.length := by omega
        rw [List.take_length] at hW
        have HO := Lib.hid hW.own
        have HBW := Lib.hid hW.below
        have hz2 : w.heap.size ≤ w1.heap.size + 1 := by omega
        clear hW
        go_wp2
        go_ret
        exact ⟨_, rfl, by rw [HR.out]; exact HO.out.mono hz2, HBW.out⟩
end

section
open Go.RowKit
set_option linter.unusedVariables false
set_option linter.unusedSimpArgs false
attribute [local go_sem ↓] Go.wp_at_zero Go.wp_at_succ

theorem chk_rpts (b : BarD) (r : RunD) (m : Nat) : (rptsOf b r (kOf r.count m)).all (ptIn 1048576) = chkB (turnedOf b r) r m := by
  rw [rpts_eq, List.all_map]; rfl
def RunW (w W : World) (r : RunD) : Prop := Below w.heap.size w W ∧ BlkIs W w.heap.size 90 (runCellsA r)
abbrev RunS (g b o : Nat) (r : RunD) (x : BarD) (dv : Value) (W : World) : Prop :=
  W.cell? ⟨b, o, none⟩ = some (.string x.mark) ∧ W.cell? ⟨b, o + 1, none⟩ = some (.int .i64 x.size) ∧ W.cell? ⟨b, o + 2, none⟩ = some (.int .i64 x.count) ∧ W.cell? ⟨b, o + 3, none⟩ = some (.int .i64 x.code) ∧ W.cell? ⟨b, o + 4, none⟩ = some dv ∧
  W.cell? ⟨g, 0, none⟩ = some (.string r.mark) ∧ W.cell? ⟨g, 1, none⟩ = some (.int .i64 r.tx) ∧ W.cell? ⟨g, 2, none⟩ = some (.int .i64 r.ty) ∧ W.cell? ⟨g, 3, none⟩ = some (.int .i64 r.at_.x) ∧ W.cell? ⟨g, 4, none⟩ = some (.int .i64 r.at_.y) ∧ W.cell? ⟨g, 5, none⟩ = some (.int .i64 r.at_.z) ∧
  W.cell? ⟨g, 6, none⟩ = some (.int .i64 r.step.x) ∧ W.cell? ⟨g, 7, none⟩ = some (.int .i64 r.step.y) ∧ W.cell? ⟨g, 8, none⟩ = some (.int .i64 r.step.z) ∧ W.cell? ⟨g, 9, none⟩ = some (.int .i64 r.count)
def Bar5 (w : World) (b o : Nat) (x : BarD) (dv : Value) : Prop := b < w.heap.size ∧ w.cell? ⟨b, o, none⟩ = some (.string x.mark) ∧ w.cell? ⟨b, o + 1, none⟩ = some (.int .i64 x.size) ∧ w.cell? ⟨b, o + 2, none⟩ = some (.int .i64 x.count) ∧ w.cell? ⟨b, o + 3, none⟩ = some (.int .i64 x.code) ∧ w.cell? ⟨b, o + 4, none⟩ = some dv
section
variable {w W W' : World} {r : RunD} {b o : Nat} {x : BarD} {dv : Value}
theorem RunW.below (h : RunW w W r) : Below w.heap.size w W := h.1
theorem RunW.after (h : RunW w W r) (hb : Below W.heap.size W W') : RunW w W' r := ⟨bstep h.1 hb, h.2.below hb⟩
theorem RunW.drew (h : RunW w W r) : RunW w W.drew r := ⟨h.1.drew, h.2⟩
theorem RunW.s (h : RunW w W r) (h5 : Bar5 w b o x dv) : RunS w.heap.size b o r x dv W := by
  obtain ⟨hb, a0, a1, a2, a3, a4⟩ := h5
  exact ⟨(h.1.cell hb).trans a0, (h.1.cell hb).trans a1, (h.1.cell hb).trans a2, (h.1.cell hb).trans a3, (h.1.cell hb).trans a4, h.2.cell 0, h.2.cell 1, h.2.cell 2, h.2.cell 3, h.2.cell 4, h.2.cell 5, h.2.cell 6, h.2.cell 7, h.2.cell 8, h.2.cell 9⟩
end

set_option maxRecDepth 100000 in
set_option maxHeartbeats 4000000 in
theorem rrun_any (v : Value) (l : List BarD) (r : RunD) (w : World) (hp : Bars w v l) (hl : l.length ≤ 140737488355328) (hs : schedOk l = true) :
    Calls Tryz.prog 111 #[v, runv r] w fun e w' => e = .returned (.bool (rightB l r)) ∧ Below w.heap.size w w' := by
  obtain ⟨ao, cap, rfl⟩ := hp.at_
  have HP := Lib.hid hp
  have HIX := Lib.hid (fun W (hW : Below w.heap.size w W) => rfind_any (.slice ao l.length cap) l r.mark W (HP.out.below hW) hl)
  cases hln : lineOf l r.mark with
  | none =>
    rw [lineOf_none hln] at HIX
    have HF := Lib.hid (rightB_none hln)
    generalize rightB l r = ok at *
    clear hp hs hln
    go_enter Tryz.func111, Tryz.ntmps111
    go_wp2_with fail
    refine (HIX.out _ (by go_grown)).mono ?_
    rintro e w1 ⟨rfl, rfl⟩
    go_wp2
    go_ret
    exact ⟨ret_bool HF.out.symm, by go_grown⟩
  | some b =>
    obtain ⟨i, hi1, hi2, hi3⟩ := lineOf_some hln
    rw [hi1] at HIX
    have hok := (sched_line hs hi2).1
    have HO := Lib.hid (rightB_some hln)
    have HT := Lib.hid (fun W => rturn_any r.tx r.ty W)
    have HQ := Lib.hid (fun W => near_any r.at_ W)
    have HQ2 := Lib.hid (fun W => twice_any r.step W)
    have HOK := Lib.hid hok
    have HC0 := Lib.hid (chk_rpts b r 0)
    have HC1 := Lib.hid (chk_rpts b r 1)
    have HSE := Lib.hid (fun W => run_eq_pt r.step ⟨0, 0, 0⟩ W)
    have HSB : Hid (stepB r = (decide (r.count ≤ 1) || (!decide (r.step = ⟨0, 0, 0⟩) && ptIn 2097152 r.step))) := rfl
    obtain ⟨bb, boff, rfl, hbl, q0, q1, q2, q3, uo, uc, q4, hdx⟩ := bars_get hp hi2
    have H5 : Hid (Bar5 w bb (boff + i * 5) b (.slice uo b.dims.length uc)) := ⟨hbl, q0, q1, q2, q3, q4⟩
    have HPT := Lib.hid (fun (ht : turnB r.tx r.ty = true) (ha : ptIn 1048576 r.at_ = true) (k : Int) (hk0 : 0 ≤ k) (hk1 : k ≤ 999) (hs : 0 < k → ptIn 2097152 r.step = true) (W : World) (hW : Below w.heap.size w W) =>
      rpoints_any b (.slice uo b.dims.length uc) r k W (Sl.below hdx hW) hok ht (ptIn_iff.1 ha) hk0 hk1 (fun h => ptIn_iff.1 (hs h)))
    have hil : i < l.length := (List.getElem?_eq_some_iff.1 hi2).1
    have i0 : ¬ (i : Int) < 0 := by omega
    have i1 : (0 : Int) ≤ (i : Int) := by omega
    have i2 : (i : Int) < (l.length : Int) := by omega
    clear hp hs hln hi1 hi2 hi3 hok hbl q0 q1 q2 q3 q4 hdx
    cases htb : turnB r.tx r.ty with
    | false =>
      have HF := Lib.hid (show rightB l r = false by rw [HO.out, htb]; rfl)
      go_enter Tryz.func111, Tryz.ntmps111
      go_wp2_with fail
      refine (HIX.out _ (by go_grown)).mono ?_
      rintro e w1 ⟨rfl, rfl⟩
      go_wp2_with fail
      refine (HT.out _).mono ?_
      rintro e w2 ⟨rfl, hb2⟩
      have HW2 : Hid (RunW w w2 r) := ⟨bstep (by go_grown) hb2, (BlkIs.new w _ _).below hb2⟩
      clear hb2
      rw [htb]
      have k3 := HW2.out.2.cell 3
      have k4 := HW2.out.2.cell 4
      have k5 := HW2.out.2.cell 5
      have k9 := HW2.out.2.cell 9
      go_wp2
      go_ret
      exact ⟨ret_bool HF.out.symm, HW2.out.1⟩
    | true =>
      by_cases hc1 : r.count < 1
      · have HF := Lib.hid (show rightB l r = false by rw [HO.out, dec_no (p := 1 ≤ r.count) (by omega)]; simp)
        go_enter Tryz.func111, Tryz.ntmps111
        go_wp2_with fail
        refine (HIX.out _ (by go_grown)).mono ?_
        rintro e w1 ⟨rfl, rfl⟩
        go_wp2_with fail
        refine (HT.out _).mono ?_
        rintro e w2 ⟨rfl, hb2⟩
        have HW2 : Hid (RunW w w2 r) := ⟨bstep (by go_grown) hb2, (BlkIs.new w _ _).below hb2⟩
        clear hb2
        rw [htb]
        have k3 := HW2.out.2.cell 3
        have k4 := HW2.out.2.cell 4
        have k5 := HW2.out.2.cell 5
        have k9 := HW2.out.2.cell 9
        go_wp2
        go_ret
        exact ⟨ret_bool HF.out.symm, HW2.out.1⟩
      · by_cases hc2 : 1000 < r.count
        · have HF := Lib.hid (show rightB l r = false by rw [HO.out, dec_no (p := r.count ≤ 1000) (by omega)]; simp)
          go_enter Tryz.func111, Tryz.ntmps111
          go_wp2_with fail
          refine (HIX.out _ (by go_grown)).mono ?_
          rintro e w1 ⟨rfl, rfl⟩
          go_wp2_with fail
          refine (HT.out _).mono ?_
          rintro e w2 ⟨rfl, hb2⟩
          have HW2 : Hid (RunW w w2 r) := ⟨bstep (by go_grown) hb2, (BlkIs.new w _ _).below hb2⟩
          clear hb2
          rw [htb]
          have k3 := HW2.out.2.cell 3
          have k4 := HW2.out.2.cell 4
          have k5 := HW2.out.2.cell 5
          have k9 := HW2.out.2.cell 9
          go_wp2
          go_ret
          exact ⟨ret_bool HF.out.symm, HW2.out.1⟩
        · cases hpa : ptIn 1048576 r.at_ with
          | false =>
            have HF := Lib.hid (show rightB l r = false by rw [HO.out, hpa]; simp)
            go_enter Tryz.func111, Tryz.ntmps111
            go_wp2_with fail
            refine (HIX.out _ (by go_grown)).mono ?_
            rintro e w1 ⟨rfl, rfl⟩
            go_wp2_with fail
            refine (HT.out _).mono ?_
            rintro e w2 ⟨rfl, hb2⟩
            have HW2 : Hid (RunW w w2 r) := ⟨bstep (by go_grown) hb2, (BlkIs.new w _ _).below hb2⟩
            clear hb2
            rw [htb]
            have k3 := HW2.out.2.cell 3
            have k4 := HW2.out.2.cell 4
            have k5 := HW2.out.2.cell 5
            have k9 := HW2.out.2.cell 9
            go_wp2_with fail
            refine (HQ.out _).mono ?_
            rintro e w3 ⟨rfl, hb3⟩
            have HW3 := Lib.hid (HW2.out.after hb3)
            clear hb3 k3 k4 k5 k9
            rw [hpa]
            have k6 := HW3.out.2.cell 6
            have k7 := HW3.out.2.cell 7
            have k8 := HW3.out.2.cell 8
            have k9 := HW3.out.2.cell 9
            go_wp2
            go_ret
            exact ⟨ret_bool HF.out.symm, HW3.out.1⟩
          | true =>
            have HE : Hid (rightB l r = (stepB r && (chkB (turnedOf b r) r 0 && chkB (turnedOf b r) r 1))) := by
              unfold Hid
              rw [HO.out, htb, hpa, dec_yes (p := 1 ≤ r.count) (by omega), dec_yes (p := r.count ≤ 1000) (by omega)]; simp
            have HP9 := Lib.hid (fun k => HPT.out htb hpa k)
            have HN : Hid ((rptsOf b r 0).length ≤ 7 ∧ (rptsOf b r (r.count - 1)).length ≤ 7) := ⟨by unfold rptsOf; rw [List.length_map]; exact path_len, by unfold rptsOf; rw [List.length_map]; exact path_len⟩
            have HL7 : Hid ((rptsOf b r 0).length ≤ 1099511627776) := by have := HN.out.1; unfold Hid; omega
            have HL71 : Hid ((rptsOf b r (r.count - 1)).length ≤ 1099511627776) := by have := HN.out.2; unfold Hid; omega
            have HP0 := Lib.hid (HP9.out 0 (by omega) (by omega) (fun h => by omega))
            clear HPT HO
            by_cases hc3 : 1 < r.count
            · by_cases hse : r.step = ⟨0, 0, 0⟩
              · have HF := Lib.hid (show rightB l r = false by rw [HE.out, HSB.out, dec_no (p := r.count ≤ 1) (by omega), dec_yes hse]; rfl)
                have hq : ∀ W, (Op.equalIn 10000 88 (.agg #[.int .i64 r.step.x, .int .i64 r.step.y, .int .i64 r.step.z]) (.agg #[.int .i64 0, .int .i64 0, .int .i64 0])).run Tryz.prog W = .ok true W := fun W => by rw [← dec_yes hse]; exact HSE.out W
                clear hse
                go_enter Tryz.func111, Tryz.ntmps111
                go_wp2_with fail
                refine (HIX.out _ (by go_grown)).mono ?_
                rintro e w1 ⟨rfl, rfl⟩
                go_wp2_with fail
                refine (HT.out _).mono ?_
                rintro e w2 ⟨rfl, hb2⟩
                have HW2 : Hid (RunW w w2 r) := ⟨bstep (by go_grown) hb2, (BlkIs.new w _ _).below hb2⟩
                clear hb2
                rw [htb]
                have k3 := HW2.out.2.cell 3
                have k4 := HW2.out.2.cell 4
                have k5 := HW2.out.2.cell 5
                have k9 := HW2.out.2.cell 9
                go_wp2_with fail
                refine (HQ.out _).mono ?_
                rintro e w3 ⟨rfl, hb3⟩
                have HW3 := Lib.hid (HW2.out.after hb3)
                clear hb3 k3 k4 k5 k9
                rw [hpa]
                have k6 := HW3.out.2.cell 6
                have k7 := HW3.out.2.cell 7
                have k8 := HW3.out.2.cell 8
                have k9 := HW3.out.2.cell 9
                go_wp2
                go_ret
                exact ⟨ret_bool HF.out.symm, HW3.out.1⟩
              · have hq : ∀ W, (Op.equalIn 10000 88 (.agg #[.int .i64 r.step.x, .int .i64 r.step.y, .int .i64 r.step.z]) (.agg #[.int .i64 0, .int .i64 0, .int .i64 0])).run Tryz.prog W = .ok false W := fun W => by rw [← dec_no hse]; exact HSE.out W
                cases hps : ptIn 2097152 r.step with
                | false =>
                  have HF := Lib.hid (show rightB l r = false by rw [HE.out, HSB.out, dec_no (p := r.count ≤ 1) (by omega), hps]; simp)
                  clear hse
                  go_enter Tryz.func111, Tryz.ntmps111
                  go_wp2_with fail
                  refine (HIX.out _ (by go_grown)).mono ?_
                  rintro e w1 ⟨rfl, rfl⟩
                  go_wp2_with fail
                  refine (HT.out _).mono ?_
                  rintro e w2 ⟨rfl, hb2⟩
                  have HW2 : Hid (RunW w w2 r) := ⟨bstep (by go_grown) hb2, (BlkIs.new w _ _).below hb2⟩
                  clear hb2
                  rw [htb]
                  have k3 := HW2.out.2.cell 3
                  have k4 := HW2.out.2.cell 4
                  have k5 := HW2.out.2.cell 5
                  have k9 := HW2.out.2.cell 9
                  go_wp2_with fail
                  refine (HQ.out _).mono ?_
                  rintro e w3 ⟨rfl, hb3⟩
                  have HW3 := Lib.hid (HW2.out.after hb3)
                  clear hb3 k3 k4 k5 k9
                  rw [hpa]
                  have k6 := HW3.out.2.cell 6
                  have k7 := HW3.out.2.cell 7
                  have k8 := HW3.out.2.cell 8
                  have k9 := HW3.out.2.cell 9
                  go_wp2_with fail
                  refine (HQ2.out _).mono ?_
                  rintro e w4 ⟨rfl, hb4⟩
                  have HW4 := Lib.hid (HW3.out.after hb4)
                  clear hb4 k6 k7 k8 k9
                  rw [hps]
                  go_wp2
                  go_ret
                  exact ⟨ret_bool HF.out.symm, HW4.out.1⟩
                | true =>
                  have HE2 : Hid (stepB r = true) := by
                    unfold Hid
                    rw [HSB.out, dec_no (p := r.count ≤ 1) (by omega), dec_no hse, hps]; rfl
                  rw [HE2.out, Bool.true_and] at HE
                  have HP1 := Lib.hid (HP9.out (r.count - 1) (by omega) (by omega) (fun h => hps))
                  clear hse HE2
                  go_enter Tryz.func111, Tryz.ntmps111
                  go_wp2_with fail
                  refine (HIX.out _ (by go_grown)).mono ?_
                  rintro e w1 ⟨rfl, rfl⟩
                  go_wp2_with fail
                  refine (HT.out _).mono ?_
                  rintro e w2 ⟨rfl, hb2⟩
                  have HW2 : Hid (RunW w w2 r) := ⟨bstep (by go_grown) hb2, (BlkIs.new w _ _).below hb2⟩
                  clear hb2
                  rw [htb]
                  have k3 := HW2.out.2.cell 3
                  have k4 := HW2.out.2.cell 4
                  have k5 := HW2.out.2.cell 5
                  have k9 := HW2.out.2.cell 9
                  go_wp2_with fail
                  refine (HQ.out _).mono ?_
                  rintro e w3 ⟨rfl, hb3⟩
                  have HW3 := Lib.hid (HW2.out.after hb3)
                  clear hb3 k3 k4 k5 k9
                  rw [hpa]
                  have k6 := HW3.out.2.cell 6
                  have k7 := HW3.out.2.cell 7
                  have k8 := HW3.out.2.cell 8
                  have k9 := HW3.out.2.cell 9
                  go_wp2_with fail
                  refine (HQ2.out _).mono ?_
                  rintro e w4 ⟨rfl, hb4⟩
                  have HW4 := Lib.hid (HW3.out.after hb4)
                  clear hb4 k6 k7 k8 k9
                  rw [hps]
                  go_upto_region 6 with fail
                  have HW := Lib.hid HW4.out
                  clear HSB HSE HP9 HQ HQ2 HT HIX HW4 HW3 HW2 hq htb hpa hps
                  cases hc0 : chkB (turnedOf b r) r 0 with
                  | false =>
                    have HF := Lib.hid (show rightB l r = false by rw [HE.out, hc0]; simp)
                    have HN0 : Hid (∀ W o B, OwnPts W B o (rptsOf b r 0) → Calls Tryz.prog 137 #[o] W fun e w' => e = .returned (.bool false) ∧ Below W.heap.size W w') := fun W o B h => by
                      have h2 := rnear_any o (rptsOf b r 0) W (OwnN.fl pt_len h) HL7.out
                      rw [show (rptsOf b r 0).all (ptIn 1048576) = false from HC0.out.trans hc0] at h2
                      exact h2
                    clear hc0 HC0 HC1 HE HN
                    obtain ⟨s0, s1, s2, s3, s4, s5, s6, s7, s8, s9, t0, t1, t2, t3, t4⟩ := HW.out.s H5.out
                    have c0 := fun d os => cell_regrown s0 d os
                    have c1 := fun d os => cell_regrown s1 d os
                    have c2 := fun d os => cell_regrown s2 d os
                    have c3 := fun d os => cell_regrown s3 d os
                    have c4 := fun d os => cell_regrown s4 d os
                    have c5 := fun d os => cell_regrown s5 d os
                    have c6 := fun d os => cell_regrown s6 d os
                    have c7 := fun d os => cell_regrown s7 d os
                    have c8 := fun d os => cell_regrown s8 d os
                    have c9 := fun d os => cell_regrown s9 d os
                    have d0 := fun d os => cell_regrown t0 d os
                    have d1 := fun d os => cell_regrown t1 d os
                    have d2 := fun d os => cell_regrown t2 d os
                    have d3 := fun d os => cell_regrown t3 d os
                    have d4 := fun d os => cell_regrown t4 d os
                    clear s0 s1 s2 s3 s4 s5 s6 s7 s8 s9 t0 t1 t2 t3 t4
                    refine wp_region_below_mid 5 3 (by kernel_rfl) (by kernel_rfl) ?_
                    simp only [List.take_succ_cons, List.take_zero, List.drop_succ_cons, List.drop_zero]
                    repeat (go_big_quiet_step (fail))
                    refine wpQuiet_nil ?_
                    intro _ hw'
                    obtain ⟨⟨nq, osq⟩, hw''⟩ := hw'
                    subst hw''
                    have HW5 := Lib.hid (HW.out.after (below_regrown _ nq osq))
                    clear c0 c1 c2 c3 c4 c5 c6 c7 c8 c9 d0 d1 d2 d3 d4 HW
                    generalize Go.Sort.grow (redrawn _ nq) osq = w5 at *
                    go_wp2_with fail
                    refine (HP0.out _ HW5.out.below).mono ?_
                    rintro e w7 ⟨o7, rfl, HO7, hb7⟩
                    have HW7 := Lib.hid (HW5.out.after hb7)
                    clear hb7
                    go_wp2_with fail
                    refine (HN0.out _ _ _ HO7.out).mono ?_
                    rintro e w8 ⟨rfl, hb8⟩
                    have HW8 := Lib.hid (HW7.out.after hb8)
                    clear hb8
                    go_wp2_with fail
                    with_reducible refine WithK.of ?_
                    with_reducible refine Lib.hid ?_
                    repeat (go_big_quiet_step (fail))
                    refine wpQuiet_nil ?_
                    intro _ hw'
                    obtain ⟨⟨nq, osq⟩, hw''⟩ := hw'
                    subst hw''
                    have HW9 := Lib.hid (HW8.out.after (below_regrown _ nq osq))
                    go_wp2
                    go_ret
                    exact ⟨ret_bool HF.out.symm, HW9.out.1⟩
                  | true =>
                    have HF := Lib.hid (show rightB l r = chkB (turnedOf b r) r 1 by rw [HE.out, hc0]; simp)
                    have HN0 : Hid (∀ W o B, OwnPts W B o (rptsOf b r 0) → Calls Tryz.prog 137 #[o] W fun e w' => e = .returned (.bool true) ∧ Below W.heap.size W w') := fun W o B h => by
                      have h2 := rnear_any o (rptsOf b r 0) W (OwnN.fl pt_len h) HL7.out
                      rw [show (rptsOf b r 0).all (ptIn 1048576) = true from HC0.out.trans hc0] at h2
                      exact h2
                    have HN1 : Hid (∀ W o B, OwnPts W B o (rptsOf b r (r.count - 1)) → Calls Tryz.prog 137 #[o] W fun e w' => e = .returned (.bool (chkB (turnedOf b r) r 1)) ∧ Below W.heap.size W w') := fun W o B h => by
                      have h2 := rnear_any o (rptsOf b r (r.count - 1)) W (OwnN.fl pt_len h) HL71.out
                      rw [show (rptsOf b r (r.count - 1)).all (ptIn 1048576) = chkB (turnedOf b r) r 1 from HC1.out] at h2
                      exact h2
                    generalize hc1 : chkB (turnedOf b r) r 1 = ch1 at *
                    clear hc0 HC0 HC1 HE HN hc1
                    have hw1 : IntKind.i64.wrap (r.count - 1) = r.count - 1 := IntWalk.i64_in _ (by omega)
                    go_region_held3 (fun w' => w'.cell? ⟨bb, boff + i * 5, none⟩ = some (.string b.mark) ∧ w'.cell? ⟨bb, boff + i * 5 + 1, none⟩ = some (.int .i64 b.size) ∧ w'.cell? ⟨bb, boff + i * 5 + 2, none⟩ = some (.int .i64 b.count) ∧ w'.cell? ⟨bb, boff + i * 5 + 3, none⟩ = some (.int .i64 b.code) ∧ w'.cell? ⟨bb, boff + i * 5 + 4, none⟩ = some (.slice uo b.dims.length uc) ∧ w'.cell? ⟨w.heap.size, 0, none⟩ = some (.string r.mark) ∧ w'.cell? ⟨w.heap.size, 1, none⟩ = some (.int .i64 r.tx) ∧ w'.cell? ⟨w.heap.size, 2, none⟩ = some (.int .i64 r.ty) ∧ w'.cell? ⟨w.heap.size, 3, none⟩ = some (.int .i64 r.at_.x) ∧ w'.cell? ⟨w.heap.size, 4, none⟩ = some (.int .i64 r.at_.y) ∧ w'.cell? ⟨w.heap.size, 5, none⟩ = some (.int .i64 r.at_.z) ∧ w'.cell? ⟨w.heap.size, 6, none⟩ = some (.int .i64 r.step.x) ∧ w'.cell? ⟨w.heap.size, 7, none⟩ = some (.int .i64 r.step.y) ∧ w'.cell? ⟨w.heap.size, 8, none⟩ = some (.int .i64 r.step.z) ∧ w'.cell? ⟨w.heap.size, 9, none⟩ = some (.int .i64 r.count))
                      ((first
                        | (with_reducible exact HW.out.s H5.out)
                        | (with_reducible exact HW.out.drew.s H5.out)
                        | fail))
                      ((first
                        | (go_at_call 138; (first | (with_reducible refine (HP0.out _ HW.out.below.drew).mono ?_) | (with_reducible refine (HP0.out _ HW.out.below).mono ?_) | (with_reducible refine (HP1.out _ HW.out.below).mono ?_) | (with_reducible refine (HP1.out _ HW.out.below.drew).mono ?_)); rintro e w7 ⟨o7, rfl, HO7, hb7⟩; (first | replace HW := Lib.hid (HW.out.after hb7) | replace HW := Lib.hid (HW.out.after (below_drawn hb7))); clear hb7)
                        | (go_at_call 137; (first | (with_reducible refine (HN0.out _ _ _ HO7.out).mono ?_) | (with_reducible refine (HN1.out _ _ _ HO7.out).mono ?_)); rintro e w7 ⟨rfl, hb7⟩; (first | replace HW := Lib.hid (HW.out.after hb7) | replace HW := Lib.hid (HW.out.after (below_drawn hb7))); clear hb7 HO7)
                        | fail))
                    all_goals
                      go_wp2
                      go_ret
                      exact ⟨ret_bool HF.out.symm, by first | exact HW.out.1 | exact HW.out.1.drew⟩
            · have HE2 : Hid (stepB r = true) := by
                unfold Hid
                rw [HSB.out, dec_yes (p := r.count ≤ 1) (by omega)]; rfl
              rw [HE2.out, Bool.true_and] at HE
              have HP1 := Lib.hid (HP9.out (r.count - 1) (by omega) (by omega) (fun h => by omega))
              clear HE2
              go_enter Tryz.func111, Tryz.ntmps111
              go_wp2_with fail
              refine (HIX.out _ (by go_grown)).mono ?_
              rintro e w1 ⟨rfl, rfl⟩
              go_wp2_with fail
              refine (HT.out _).mono ?_
              rintro e w2 ⟨rfl, hb2⟩
              have HW2 : Hid (RunW w w2 r) := ⟨bstep (by go_grown) hb2, (BlkIs.new w _ _).below hb2⟩
              clear hb2
              rw [htb]
              have k3 := HW2.out.2.cell 3
              have k4 := HW2.out.2.cell 4
              have k5 := HW2.out.2.cell 5
              have k9 := HW2.out.2.cell 9
              go_wp2_with fail
              refine (HQ.out _).mono ?_
              rintro e w3 ⟨rfl, hb3⟩
              have HW3 := Lib.hid (HW2.out.after hb3)
              clear hb3 k3 k4 k5 k9
              rw [hpa]
              have k6 := HW3.out.2.cell 6
              have k7 := HW3.out.2.cell 7
              have k8 := HW3.out.2.cell 8
              have k9 := HW3.out.2.cell 9
              go_upto_region 6 with fail
              have HW := Lib.hid HW3.out
              clear HSB HSE HP9 HQ HQ2 HT HIX HW3 HW2 htb hpa k6 k7 k8 k9
              cases hc0 : chkB (turnedOf b r) r 0 with
              | false =>
                have HF := Lib.hid (show rightB l r = false by rw [HE.out, hc0]; simp)
                have HN0 : Hid (∀ W o B, OwnPts W B o (rptsOf b r 0) → Calls Tryz.prog 137 #[o] W fun e w' => e = .returned (.bool false) ∧ Below W.heap.size W w') := fun W o B h => by
                  have h2 := rnear_any o (rptsOf b r 0) W (OwnN.fl pt_len h) HL7.out
                  rw [show (rptsOf b r 0).all (ptIn 1048576) = false from HC0.out.trans hc0] at h2
                  exact h2
                clear hc0 HC0 HC1 HE HN
                obtain ⟨s0, s1, s2, s3, s4, s5, s6, s7, s8, s9, t0, t1, t2, t3, t4⟩ := HW.out.s H5.out
                have c0 := fun d os => cell_regrown s0 d os
                have c1 := fun d os => cell_regrown s1 d os
                have c2 := fun d os => cell_regrown s2 d os
                have c3 := fun d os => cell_regrown s3 d os
                have c4 := fun d os => cell_regrown s4 d os
                have c5 := fun d os => cell_regrown s5 d os
                have c6 := fun d os => cell_regrown s6 d os
                have c7 := fun d os => cell_regrown s7 d os
                have c8 := fun d os => cell_regrown s8 d os
                have c9 := fun d os => cell_regrown s9 d os
                have d0 := fun d os => cell_regrown t0 d os
                have d1 := fun d os => cell_regrown t1 d os
                have d2 := fun d os => cell_regrown t2 d os
                have d3 := fun d os => cell_regrown t3 d os
                have d4 := fun d os => cell_regrown t4 d os
                clear s0 s1 s2 s3 s4 s5 s6 s7 s8 s9 t0 t1 t2 t3 t4
                refine wp_region_below_mid 5 3 (by kernel_rfl) (by kernel_rfl) ?_
                simp only [List.take_succ_cons, List.take_zero, List.drop_succ_cons, List.drop_zero]
                repeat (go_big_quiet_step (fail))
                refine wpQuiet_nil ?_
                intro _ hw'
                obtain ⟨⟨nq, osq⟩, hw''⟩ := hw'
                subst hw''
                have HW5 := Lib.hid (HW.out.after (below_regrown _ nq osq))
                clear c0 c1 c2 c3 c4 c5 c6 c7 c8 c9 d0 d1 d2 d3 d4 HW
                generalize Go.Sort.grow (redrawn _ nq) osq = w5 at *
                go_wp2_with fail
                refine (HP0.out _ HW5.out.below).mono ?_
                rintro e w7 ⟨o7, rfl, HO7, hb7⟩
                have HW7 := Lib.hid (HW5.out.after hb7)
                clear hb7
                go_wp2_with fail
                refine (HN0.out _ _ _ HO7.out).mono ?_
                rintro e w8 ⟨rfl, hb8⟩
                have HW8 := Lib.hid (HW7.out.after hb8)
                clear hb8
                go_wp2_with fail
                with_reducible refine WithK.of ?_
                with_reducible refine Lib.hid ?_
                repeat (go_big_quiet_step (fail))
                refine wpQuiet_nil ?_
                intro _ hw'
                obtain ⟨⟨nq, osq⟩, hw''⟩ := hw'
                subst hw''
                have HW9 := Lib.hid (HW8.out.after (below_regrown _ nq osq))
                go_wp2
                go_ret
                exact ⟨ret_bool HF.out.symm, HW9.out.1⟩
              | true =>
                have HF := Lib.hid (show rightB l r = chkB (turnedOf b r) r 1 by rw [HE.out, hc0]; simp)
                have HN0 : Hid (∀ W o B, OwnPts W B o (rptsOf b r 0) → Calls Tryz.prog 137 #[o] W fun e w' => e = .returned (.bool true) ∧ Below W.heap.size W w') := fun W o B h => by
                  have h2 := rnear_any o (rptsOf b r 0) W (OwnN.fl pt_len h) HL7.out
                  rw [show (rptsOf b r 0).all (ptIn 1048576) = true from HC0.out.trans hc0] at h2
                  exact h2
                have HN1 : Hid (∀ W o B, OwnPts W B o (rptsOf b r (r.count - 1)) → Calls Tryz.prog 137 #[o] W fun e w' => e = .returned (.bool (chkB (turnedOf b r) r 1)) ∧ Below W.heap.size W w') := fun W o B h => by
                  have h2 := rnear_any o (rptsOf b r (r.count - 1)) W (OwnN.fl pt_len h) HL71.out
                  rw [show (rptsOf b r (r.count - 1)).all (ptIn 1048576) = chkB (turnedOf b r) r 1 from HC1.out] at h2
                  exact h2
                generalize hc1 : chkB (turnedOf b r) r 1 = ch1 at *
                clear hc0 HC0 HC1 HE HN hc1
                have hw1 : IntKind.i64.wrap (r.count - 1) = r.count - 1 := IntWalk.i64_in _ (by omega)
                go_region_held3 (fun w' => w'.cell? ⟨bb, boff + i * 5, none⟩ = some (.string b.mark) ∧ w'.cell? ⟨bb, boff + i * 5 + 1, none⟩ = some (.int .i64 b.size) ∧ w'.cell? ⟨bb, boff + i * 5 + 2, none⟩ = some (.int .i64 b.count) ∧ w'.cell? ⟨bb, boff + i * 5 + 3, none⟩ = some (.int .i64 b.code) ∧ w'.cell? ⟨bb, boff + i * 5 + 4, none⟩ = some (.slice uo b.dims.length uc) ∧ w'.cell? ⟨w.heap.size, 0, none⟩ = some (.string r.mark) ∧ w'.cell? ⟨w.heap.size, 1, none⟩ = some (.int .i64 r.tx) ∧ w'.cell? ⟨w.heap.size, 2, none⟩ = some (.int .i64 r.ty) ∧ w'.cell? ⟨w.heap.size, 3, none⟩ = some (.int .i64 r.at_.x) ∧ w'.cell? ⟨w.heap.size, 4, none⟩ = some (.int .i64 r.at_.y) ∧ w'.cell? ⟨w.heap.size, 5, none⟩ = some (.int .i64 r.at_.z) ∧ w'.cell? ⟨w.heap.size, 6, none⟩ = some (.int .i64 r.step.x) ∧ w'.cell? ⟨w.heap.size, 7, none⟩ = some (.int .i64 r.step.y) ∧ w'.cell? ⟨w.heap.size, 8, none⟩ = some (.int .i64 r.step.z) ∧ w'.cell? ⟨w.heap.size, 9, none⟩ = some (.int .i64 r.count))
                  ((first
                    | (with_reducible exact HW.out.s H5.out)
                    | (with_reducible exact HW.out.drew.s H5.out)
                    | fail))
                  ((first
                    | (go_at_call 138; (first | (with_reducible refine (HP0.out _ HW.out.below.drew).mono ?_) | (with_reducible refine (HP0.out _ HW.out.below).mono ?_) | (with_reducible refine (HP1.out _ HW.out.below).mono ?_) | (with_reducible refine (HP1.out _ HW.out.below.drew).mono ?_)); rintro e w7 ⟨o7, rfl, HO7, hb7⟩; (first | replace HW := Lib.hid (HW.out.after hb7) | replace HW := Lib.hid (HW.out.after (below_drawn hb7))); clear hb7)
                    | (go_at_call 137; (first | (with_reducible refine (HN0.out _ _ _ HO7.out).mono ?_) | (with_reducible refine (HN1.out _ _ _ HO7.out).mono ?_)); rintro e w7 ⟨rfl, hb7⟩; (first | replace HW := Lib.hid (HW.out.after hb7) | replace HW := Lib.hid (HW.out.after (below_drawn hb7))); clear hb7 HO7)
                    | fail))
                all_goals
                  go_wp2
                  go_ret
                  exact ⟨ret_bool HF.out.symm, by first | exact HW.out.1 | exact HW.out.1.drew⟩
end

section
open Go.RowKit
set_option linter.unusedVariables false
set_option linter.unusedSimpArgs false

/-- Counts that add up to no great number. -/
def SmallC (rs : List RunD) : Prop := ∀ k, k ≤ rs.length → 0 ≤ sumC (rs.take k) ∧ sumC (rs.take k) ≤ 1000000
theorem smallC_of {rs : List RunD} (hl : rs.length ≤ 60) (h : ∀ r ∈ rs, 1 ≤ r.count ∧ r.count ≤ 1000) : SmallC rs := by
  have key : ∀ k, k ≤ rs.length → 0 ≤ sumC (rs.take k) ∧ sumC (rs.take k) ≤ k * 1000 := by
    intro k
    induction k with
    | zero => intro _; rw [List.take_zero]; exact ⟨by decide, by decide⟩
    | succ k ih =>
      intro hk
      obtain ⟨r, hr⟩ : ∃ y, rs[k]? = some y := ⟨_, List.getElem?_eq_getElem hk⟩
      obtain ⟨h1, h2⟩ := h r (List.mem_of_getElem? hr)
      obtain ⟨i1, i2⟩ := ih (by omega)
      rw [sumC_snoc hr]
      omega
  intro k hk
  have := key k hk
  omega

set_option maxHeartbeats 1000000 in
theorem rcount_any (v : Value) (rs : List RunD) (w : World) (hr : Runs w v rs) (hl : rs.length ≤ 1000000) (hs : SmallC rs) :
    Calls Tryz.prog 53 #[v] w fun e w' => e = .returned (.int .i64 (sumC rs)) ∧ w = w' := by
  obtain ⟨ao, cap, rfl⟩ := hr.at_
  have HR := Lib.hid hr
  have HS := Lib.hid hs
  clear hr hs
  go_enter Tryz.func53, Tryz.ntmps53
  go_wp2
  go_loop [3, 4] (fun t i => ∃ k : Nat, k ≤ rs.length ∧ i = .int .i64 k ∧ t = .int .i64 (sumC (rs.take k))) (fun _ i => rs.length - (intOf i).toNat)
  case atStart => exact ⟨0, Nat.zero_le _, rfl, by rw [List.take_zero]; rfl⟩
  case round =>
    obtain ⟨k, hk, rfl, rfl⟩ := hrel
    by_cases hk2 : k < rs.length
    · obtain ⟨r, hy⟩ : ∃ y, rs[k]? = some y := ⟨_, List.getElem?_eq_getElem hk2⟩
      obtain ⟨b, off, rfl, hbl, c0, c1, c2, c3, c4, c5, c6, c7, c8, c9⟩ := runs_get HR.out hy
      have HSN := Lib.hid (sumC_snoc hy)
      obtain ⟨b1, b2⟩ := HS.out k hk
      obtain ⟨b3, b4⟩ := HS.out (k + 1) hk2
      rw [HSN.out] at b3 b4
      clear hy c0 c1 c2 c3 c4 c5 c6 c7 c8
      generalize sumC (rs.take k) = q at *
      go_wp2
      go_round
      case rel => exact ⟨k + 1, by omega, by go_num, by rw [HSN.out]⟩
      case measure => simp [intOf]; omega
    · obtain rfl : k = rs.length := by omega
      rw [List.take_length]
      go_wp2
      go_ret
      exact ⟨rfl, rfl⟩

set_option maxHeartbeats 2000000 in
theorem rlaid_any (v vr : Value) (l : List BarD) (rs : List RunD) (w : World) (hp : Bars w v l) (hr : Runs w vr rs) (hl : l.length ≤ 140737488355328) (hlr : rs.length ≤ 140737488355328) (hf : FitB l) :
    Calls Tryz.prog 84 #[v, vr] w fun e w' => e = .returned (.bool (laidOk l rs)) ∧ Below w.heap.size w w' := by
  obtain ⟨ao, cap, rfl⟩ := hp.at_
  obtain ⟨ro, rcap, rfl⟩ := hr.at_
  have HP := Lib.hid hp
  have HRS := Lib.hid hr
  have HV := Lib.hid (rsched_any _ l w hp hl hf)
  have HRT := Lib.hid (fun (h : schedOk l = true) r W (hW : Below w.heap.size w W) => rrun_any _ l r W (HP.out.below hW) hl h)
  clear hp hr hf
  cases hso : schedOk l with
  | false =>
    have HF := Lib.hid (laid_no1 (rs := rs) hso)
    rw [hso] at HV
    go_enter Tryz.func84, Tryz.ntmps84
    go_wp2_with fail
    refine HV.out.mono ?_
    rintro e w1 ⟨rfl, hb1⟩
    have HB1 := Lib.hid hb1
    clear hb1
    go_wp2
    go_ret
    exact ⟨ret_bool HF.out.symm, HB1.out⟩
  | true =>
    have HSO := Lib.hid hso
    have HRT2 := Lib.hid (HRT.out hso)
    rw [hso] at HV
    clear HRT
    rcases Nat.lt_or_ge 60 rs.length with h60 | h60
    · have HF := Lib.hid (laid_no2 (l := l) h60)
      have h61 : (60 : Int) < (rs.length : Int) := by omega
      go_enter Tryz.func84, Tryz.ntmps84
      go_wp2_with fail
      refine HV.out.mono ?_
      rintro e w1 ⟨rfl, hb1⟩
      have HB1 := Lib.hid hb1
      clear hb1
      go_wp2
      go_ret
      exact ⟨ret_bool HF.out.symm, HB1.out⟩
    · have h61 : ¬ (60 : Int) < (rs.length : Int) := by omega
      have h62 : decide ((60 : Int) < (rs.length : Int)) = false := dec_no h61
      have H60 := Lib.hid h60
      go_enter Tryz.func84, Tryz.ntmps84
      go_wp2_with fail
      refine HV.out.mono ?_
      rintro e w1 ⟨rfl, hb1⟩
      have HB1 := Lib.hid hb1
      clear hb1
      go_wp2_with fail
      go_loopw [5] (fun i wr => ∃ k : Nat, k ≤ rs.length ∧ i = .int .i64 k ∧ Below w.heap.size w wr ∧ Hid (∀ (j : Nat) r, j < k → rs[j]? = some r → rightB l r = true)) (fun i _ => rs.length - (intOf i).toNat)
      case atStart => exact ⟨0, Nat.zero_le _, rfl, HB1.out, fun j r hj => by omega⟩
      case round =>
        obtain ⟨k, hk, rfl, hBr, hR⟩ := hrel
        by_cases hk2 : k < rs.length
        · obtain ⟨r, hy⟩ : ∃ y, rs[k]? = some y := ⟨_, List.getElem?_eq_getElem hk2⟩
          obtain ⟨b, off, rfl, hbl, c0, c1, c2, c3, c4, c5, c6, c7, c8, c9⟩ := runs_get (HRS.out.below hBr) hy
          have HY := Lib.hid hy
          have HB := Lib.hid hBr
          have HRX := Lib.hid (HRT2.out r _ hBr)
          clear hy hBr
          cases hrb : rightB l r with
          | false =>
            have HF := Lib.hid (laid_no3 HY.out hrb)
            rw [hrb] at HRX
            go_wp2_with fail
            refine HRX.out.mono ?_
            rintro e w9 ⟨rfl, hb9⟩
            have HB9 := Lib.hid (bstep HB.out hb9)
            clear hb9
            go_wp2
            go_ret
            exact ⟨ret_bool HF.out.symm, HB9.out⟩
          | true =>
            have HRB := Lib.hid hrb
            rw [hrb] at HRX
            go_wp2_with fail
            refine HRX.out.mono ?_
            rintro e w9 ⟨rfl, hb9⟩
            have HB9 := Lib.hid (bstep HB.out hb9)
            clear hb9 c0 c1 c2 c3 c4 c5 c6 c7 c8 c9
            go_wp2
            go_roundw
            case rel => exact ⟨k + 1, by omega, by go_num, HB9.out, fun j z hj hz => by
              by_cases e : j = k
              · subst e; rw [HY.out] at hz; cases hz; exact HRB.out
              · exact hR.out j z (by omega) hz⟩
            case measure => simp [intOf]; omega
        · obtain rfl : k = rs.length := by omega
          have hall : ∀ r ∈ rs, 1 ≤ r.count ∧ r.count ≤ 1000 := fun r hm => by
            obtain ⟨j, hj, rfl⟩ := List.getElem_of_mem hm
            exact right_count (hR.out j _ hj (List.getElem?_eq_getElem hj))
          have HC := Lib.hid (rcount_any _ rs wr (HRS.out.below hBr) (by omega) (smallC_of H60.out hall))
          have HT : Hid (laidOk l rs = decide (sumC rs ≤ 2000)) := by
            unfold Hid
            by_cases h5 : sumC rs ≤ 2000
            · rw [dec_yes h5]; exact laid_yes HSO.out H60.out hR.out (by rw [List.take_length]; exact h5)
            · rw [dec_no h5]
              unfold laidOk
              rw [dec_no (p := sumC rs ≤ 2000) h5]; simp
          have HB := Lib.hid hBr
          clear hBr hall
          go_wp2_with fail
          refine HC.out.mono ?_
          rintro e w9 ⟨rfl, rfl⟩
          go_wp2
          go_ret
          exact ⟨ret_bool HT.out.symm, HB.out⟩

def PlacePost (rs : List RunD) (i : Nat) (w : World) (e : Ending) (w' : World) : Prop :=
  ∃ (k j : Nat) (r : RunD), e = .returned (.tuple #[.int .i64 (k : Int), .int .i64 (j : Int)]) ∧ rs[k]? = some r ∧ j < r.count.toNat ∧ i = cumN (rs.take k) + j ∧ w = w'
set_option maxHeartbeats 1000000 in
theorem rplace_any (v : Value) (rs : List RunD) (i : Nat) (w : World) (hr : Runs w v rs) (hl : rs.length ≤ 1000000) (hs : ∀ r ∈ rs, 1 ≤ r.count ∧ r.count ≤ 1000) (hi : i < cumN rs) (hi2 : i ≤ 1000000) :
    Calls Tryz.prog 179 #[v, .int .i64 (i : Int)] w (PlacePost rs i w) := by
  obtain ⟨ao, cap, rfl⟩ := hr.at_
  have HR := Lib.hid hr
  have HS := Lib.hid hs
  have HI := Lib.hid hi
  have HCL := Lib.hid (fun k => cumN_take_le rs k)
  clear hr hs hi
  go_enter Tryz.func179, Tryz.ntmps179
  go_wp2
  go_loop [1, 6] (fun t i' => ∃ k m : Nat, k < rs.length ∧ m ≤ 1000000 ∧ i' = .int .i64 (k : Int) ∧ t = .int .i64 (m : Int) ∧ Hid (m + cumN (rs.take k) = i)) (fun _ i' => rs.length - (intOf i').toNat)
  case atStart => exact ⟨0, i, by
    rcases Nat.eq_zero_or_pos rs.length with h | h
    · have := HI.out
      rw [List.length_eq_zero_iff.1 h] at this
      simp [cumN] at this
    · exact h, hi2, rfl, rfl, by unfold Hid; rw [List.take_zero]; simp [cumN]⟩
  case round =>
    obtain ⟨k, m, hk, hm, rfl, rfl, HE⟩ := hrel
    obtain ⟨r, hy⟩ : ∃ y, rs[k]? = some y := ⟨_, List.getElem?_eq_getElem hk⟩
    obtain ⟨b, off, rfl, hbl, c0, c1, c2, c3, c4, c5, c6, c7, c8, c9⟩ := runs_get HR.out hy
    have HSN := Lib.hid (cumN_snoc hy)
    obtain ⟨n1, n2⟩ := HS.out r (List.mem_of_getElem? hy)
    have HY := Lib.hid hy
    clear hy c0 c1 c2 c3 c4 c5 c6 c7 c8
    by_cases hc : (m : Int) < r.count
    · have d1 : decide (r.count ≤ (m : Int)) = false := dec_no (by omega)
      have hc' : ¬ r.count ≤ (m : Int) := by omega
      clear hc
      go_wp2
      go_ret2
      exact ⟨k, m, r, rfl, HY.out, by omega, by have := HE.out; omega, rfl⟩
    · have hc' : r.count ≤ (m : Int) := by omega
      have e1 : ((m - r.count.toNat : Nat) : Int) = (m : Int) - r.count := by omega
      have HE1 := Lib.hid e1
      have HK : Hid (k + 1 < rs.length) := by
        unfold Hid
        rcases Nat.lt_or_ge (k + 1) rs.length with h | h
        · exact h
        · have h1 : rs.take (k + 1) = rs := List.take_of_length_le h
          have h2 := HSN.out
          rw [h1] at h2
          have h3 := HI.out
          have h4 := HE.out
          omega
      clear hc e1
      go_wp2
      go_round
      case rel => exact ⟨k + 1, m - r.count.toNat, HK.out, by omega, by go_num, by rw [HE1.out], by have h2 := HSN.out; have h4 := HE.out; unfold Hid; omega⟩
      case measure => simp [intOf]; omega

/-- The place of a laid bar: its run, its line, and its points. -/
theorem laid_place {l : List BarD} {rs : List RunD} (h : laidOk l rs = true) {k j : Nat} {r : RunD} (hk : rs[k]? = some r) (hj : j < r.count.toNat) :
    ∃ b, lineOf l r.mark = some b ∧ barOk b = true ∧ turnB r.tx r.ty = true ∧ PtIn 1048576 r.at_ ∧ 1 ≤ r.count ∧ r.count ≤ 1000 ∧ (1 < r.count → PtIn 2097152 r.step) ∧ (laidPts l rs)[cumN (rs.take k) + j]? = some (rptsOf b r j) := by
  obtain ⟨q1, q2, q3, q4⟩ := laidOk_parts h
  obtain ⟨b, h1, h2, h3, h4, h5, h6, h7, h8, h9⟩ := right_parts q1 (q3 r (List.mem_of_getElem? hk))
  refine ⟨b, h1, h2, h3, ptIn_iff.1 h4, h5, h6, fun h => ptIn_iff.1 (h7 h), ?_⟩
  rw [laidPts_at hk hj, rpts_eq]
  unfold barPts ptsOf
  rw [h1]
end

section
section
open Go.RowKit
set_option linter.unusedVariables false
set_option linter.unusedSimpArgs false
attribute [local go_sem ↓] Go.wp_at_zero Go.wp_at_succ

theorem cumN_mono (rs : List RunD) {a b : Nat} (h : a ≤ b) : cumN (rs.take a) ≤ cumN (rs.take b) := by
  have e : (rs.take b).take a = rs.take a := by rw [List.take_take, Nat.min_eq_left h]
  rw [← e]
  exact cumN_take_le _ _
theorem place_one {rs : List RunD} {i k j k' j' : Nat} {r r' : RunD} (h1 : rs[k]? = some r) (h2 : j < r.count.toNat) (h3 : i = cumN (rs.take k) + j) (h1' : rs[k']? = some r') (h2' : j' < r'.count.toNat) (h3' : i = cumN (rs.take k') + j') : k' = k ∧ j' = j := by
  have key : ∀ {k j k' j' : Nat} {r r' : RunD}, rs[k]? = some r → j < r.count.toNat → i = cumN (rs.take k) + j → i = cumN (rs.take k') + j' → ¬ k < k' := by
    intro k j k' j' r r' h1 h2 h3 h4 hlt
    have h5 := cumN_mono rs (show k + 1 ≤ k' from hlt)
    rw [cumN_snoc h1] at h5
    omega
  have e : k' = k := by
    have a := key (r' := r') h1 h2 h3 h3'
    have b := key (r' := r) h1' h2' h3' h3
    omega
  subst e
  exact ⟨rfl, by omega⟩

set_option maxHeartbeats 2000000 in
theorem rbar_any (bb off cap : Nat) (vr : Value) (l : List BarD) (rs : List RunD) (i k j : Nat) (r : RunD) (b : BarD) (uo : Option Addr) (uc : Nat) (t : Nat) (w : World) (hp : Bars w (.slice (some ⟨bb, off, none⟩) l.length cap) l) (hr : Runs w vr rs) (hl : l.length ≤ 140737488355328) (hlr : rs.length ≤ 60) (hs : ∀ r ∈ rs, 1 ≤ r.count ∧ r.count ≤ 1000)
    (hi : i < cumN rs) (hi2 : i ≤ 1000000) (hk : rs[k]? = some r) (hj : j < r.count.toNat) (hij : i = cumN (rs.take k) + j) (ht : findZ l r.mark = (t : Int)) (hb : l[t]? = some b)
    (hc : w.cell? ⟨bb, off + t * 5 + 4, none⟩ = some (.slice uo b.dims.length uc)) :
    Calls Tryz.prog 141 #[.slice (some ⟨bb, off, none⟩) l.length cap, vr, .int .i64 (i : Int)] w fun e w' => e = .returned (barv b (.slice uo b.dims.length uc)) ∧ Below w.heap.size w w' := by
  obtain ⟨ro, rcap, rfl⟩ := hr.at_
  have hb0 := below_new w (.cells #[.string ⟨#[]⟩, .int .i64 0, .int .i64 0, .int .i64 0, .slice none 0 0] 104)
  have HPL := Lib.hid (rplace_any (.slice ro rs.length rcap) rs i _ (hr.below hb0) (by omega) hs hi hi2)
  have HFI := Lib.hid (rfind_any (.slice (some ⟨bb, off, none⟩) l.length cap) l r.mark _ (hp.below hb0) hl)
  have HU : Hid (∀ (k' j' : Nat) (r' : RunD), rs[k']? = some r' → j' < r'.count.toNat → i = cumN (rs.take k') + j' → k' = k) := fun k' j' r' a1 a2 a3 => (place_one hk hj hij a1 a2 a3).1
  obtain ⟨b', off', e, hbl, q0, q1, q2, q3, uo', uc', q4, hdx⟩ := bars_get hp hb
  cases e
  rw [q4] at hc
  cases hc
  obtain ⟨rb, roff, rfl, hrl, g0, g1, g2, g3, g4, g5, g6, g7, g8, g9⟩ := runs_get hr hk
  have htl := (List.getElem?_eq_some_iff.1 hb).1
  have hkl := (List.getElem?_eq_some_iff.1 hk).1
  have i0 : (0 : Int) ≤ (k : Int) := by omega
  have i1 : (k : Int) < (rs.length : Int) := by omega
  have j0 : (0 : Int) ≤ (t : Int) := by omega
  have j1 : (t : Int) < (l.length : Int) := by omega
  rw [ht] at HFI
  clear hp hr hs hi hij hk ht hb hdx g1 g2 g3 g4 g5 g6 g7 g8 g9 hb0 hj
  go_enter Tryz.func141, Tryz.ntmps141
  go_wp2_with fail
  refine HPL.out.mono ?_
  rintro e w1 ⟨k', j', r', rfl, hk', hj', hi', rfl⟩
  obtain rfl : k' = k := HU.out k' j' r' hk' hj' hi'
  clear hk' hj' hi'
  go_wp2_with fail
  refine HFI.out.mono ?_
  rintro e w2 ⟨rfl, rfl⟩
  go_wp2
  exact bodyPost_ret (v := barv b (.slice uo b.dims.length uc)) (by simp [results, Tryz.results141, go_sem]) rfl ⟨rfl, by go_grown⟩

set_option maxHeartbeats 4000000 in
theorem rlpts_any (v vr : Value) (l : List BarD) (rs : List RunD) (i : Nat) (w : World) (hp : Bars w v l) (hr : Runs w vr rs) (hl : l.length ≤ 140737488355328) (h : laidOk l rs = true) (hi : i < cumN rs) :
    Calls Tryz.prog 177 #[v, vr, .int .i64 (i : Int)] w fun e w' => ∃ o q, e = .returned o ∧ Hid ((laidPts l rs)[i]? = some q ∧ OwnPts w' w.heap.size o q) ∧ Below w.heap.size w w' := by
  obtain ⟨q1, q2, q3, q4⟩ := laidOk_parts h
  have hs : ∀ r ∈ rs, 1 ≤ r.count ∧ r.count ≤ 1000 := fun r hm => right_count (q3 r hm)
  have hi2 : i ≤ 1000000 := by
    have := cumN_sum (fun r hm => (hs r hm).1)
    omega
  obtain ⟨ao, cap, rfl⟩ := hp.at_
  obtain ⟨ro, rcap, rfl⟩ := hr.at_
  have HPL := Lib.hid (rplace_any (.slice ro rs.length rcap) rs i w hr (by omega) hs hi hi2)
  have HH := Lib.hid h
  have HPP := Lib.hid hp
  have HRR := Lib.hid hr
  have HS := Lib.hid hs
  have HI := Lib.hid hi
  clear hp hr h hs hi q1 q3 q4
  go_enter Tryz.func177, Tryz.ntmps177
  go_wp2_with fail
  refine HPL.out.mono ?_
  rintro e w1 ⟨k, j, r, rfl, hk, hj, hij, rfl⟩
  obtain ⟨b, line, ok, turn, hat, c1, c2, hst, hpts⟩ := laid_place HH.out hk hj
  obtain ⟨t, ht, hb, _⟩ := lineOf_some line
  obtain ⟨bb, off, rfl, hbl, x0, x1, x2, x3, uo, uc, x4, hdx⟩ := bars_get HPP.out hb
  obtain ⟨rb, roff, rfl, hrl, g0, g1, g2, g3, g4, g5, g6, g7, g8, g9⟩ := runs_get HRR.out hk
  have HB := Lib.hid (fun W (hW : Below w.heap.size w W) => rbar_any bb off cap _ l rs i k j r b uo uc t W (HPP.out.below hW) (HRR.out.below hW) hl q2 HS.out HI.out hi2 hk hj hij ht hb ((hW.cell hbl).trans x4))
  have HPT := Lib.hid (fun W (hW : Below w.heap.size w W) => rpoints_any b (.slice uo b.dims.length uc) r (j : Int) W (Sl.below hdx hW) ok turn hat (by omega) (by omega) (fun h => hst (by omega)))
  have HQ : Hid ((laidPts l rs)[i]? = some (rptsOf b r j)) := by rw [hij]; exact hpts
  have d0 := fun d os => cell_regrown g0 d os
  have d1 := fun d os => cell_regrown g1 d os
  have d2 := fun d os => cell_regrown g2 d os
  have d3 := fun d os => cell_regrown g3 d os
  have d4 := fun d os => cell_regrown g4 d os
  have d5 := fun d os => cell_regrown g5 d os
  have d6 := fun d os => cell_regrown g6 d os
  have d7 := fun d os => cell_regrown g7 d os
  have d8 := fun d os => cell_regrown g8 d os
  have d9 := fun d os => cell_regrown g9 d os
  have hkl := (List.getElem?_eq_some_iff.1 hk).1
  have i0 : (0 : Int) ≤ (k : Int) := by omega
  have i1 : (k : Int) < (rs.length : Int) := by omega
  clear hk hj hij line ok turn hat c1 c2 hst hpts ht hb x0 x1 x2 x3 x4 hdx g0 g1 g2 g3 g4 g5 g6 g7 g8 g9 HPL HH HPP HRR HS HI
  go_upto_region 2 with fail
  refine wp_region_below_tail 9 (by kernel_rfl) (by kernel_rfl) ?_
  simp only [List.take_succ_cons, List.take_zero, List.drop_succ_cons, List.drop_zero]
  repeat (go_big_quiet_step ((first
    | (go_at_call 141; exact Calls.regrown_of (HB.out _ (below_regrown _ _ _))))))
  refine wpQuiet_nil ?_
  intro _ hw'
  obtain ⟨⟨nq, osq⟩, hw''⟩ := hw'
  subst hw''
  have HB2 : Hid (Below w.heap.size w (Go.Sort.grow (redrawn w nq) osq)) := below_regrown w nq osq
  clear d0 d1 d2 d3 d4 d5 d6 d7 d8 d9 HB
  generalize Go.Sort.grow (redrawn w nq) osq = W2 at *
  go_wp2_with fail
  refine (HPT.out _ HB2.out).mono ?_
  rintro e w3 ⟨o, rfl, HO, hb3⟩
  have HB3 := Lib.hid (bstep HB2.out hb3)
  have hz := HB2.out.size
  clear hb3
  go_wp2
  go_ret
  exact ⟨_, _, rfl, ⟨HQ.out, HO.out.mono hz⟩, HB3.out⟩
end

section
open Go.RowKit
set_option linter.unusedVariables false
set_option linter.unusedSimpArgs false
attribute [local go_sem ↓] Go.wp_at_zero Go.wp_at_succ

set_option maxRecDepth 100000 in
set_option maxHeartbeats 4000000 in
theorem rlegs_any (v vr : Value) (l : List BarD) (rs : List RunD) (i : Nat) (q : List Pt) (w : World) (hp : Bars w v l) (hr : Runs w vr rs) (hl : l.length ≤ 140737488355328) (h : laidOk l rs = true) (hi : i < cumN rs) (hq : (laidPts l rs)[i]? = some q) :
    Calls Tryz.prog 140 #[v, vr, .int .i64 (i : Int)] w fun e w' => ∃ o, e = .returned o ∧ Hid (OwnBxs w' w.heap.size o (legsN q (q.length - 1))) ∧ Below w.heap.size w w' := by
  have HP := Lib.hid (rlpts_any v vr l rs i w hp hr hl h hi)
  obtain ⟨n1, n2, n3⟩ := laid_near h hq
  have HQ := Lib.hid hq
  clear hp hr h hi hq n1
  go_enter Tryz.func140, Tryz.ntmps140
  go_wp2_with fail
  refine HP.out.mono ?_
  rintro e w1 ⟨o, q', rfl, HO1, hb1⟩
  obtain rfl : q' = q := Option.some.inj (HO1.out.1.symm.trans HQ.out)
  have HO := Lib.hid HO1.out.2
  obtain ⟨oo, oc, rfl⟩ := OwnN.shape HO1.out.2
  have HB1 := Lib.hid hb1
  clear hb1 HQ HO1
  go_wp2_with fail
  go_loopw [8, 9] (fun o i wr => ∃ t : Nat, t + 1 ≤ q'.length ∧ i = .int .i64 ((t : Int) + 1) ∧ Below w1.heap.size w1 wr ∧ OwnBxs wr w1.heap.size o (legsN q' t)) (fun _ i _ => q'.length - (intOf i).toNat)
  case atStart => exact ⟨0, by omega, rfl, Below.refl _ _, OwnN.nil _ _ _ _ _⟩
  case round =>
    obtain ⟨t, ht, rfl, hBr, hown⟩ := hrel
    by_cases hlt : t + 1 < q'.length
    · obtain ⟨g, gcap, hv, hlt2, hbg⟩ : ∃ g cap, (Value.slice oo q'.length oc) = .slice (some ⟨g, 0, none⟩) q'.length cap ∧ q'.length ≤ cap ∧ g < w1.heap.size := by
        rcases HO.out.2 with ⟨h', h0⟩ | ⟨g, cap', cur, h', hb, hg, hcap, _⟩
        · omega
        · exact ⟨g, cap', h', hcap, (Array.getElem?_eq_some_iff.1 hg).1⟩
      cases hv
      have t0 : (0 : Int) ≤ (t : Int) := Int.natCast_nonneg _
      have t1 : (t : Int) + 1 < (q'.length : Int) := by omega
      have t2 : (t : Int) + 1 + 1 ≤ (oc : Int) := by omega
      have tt1 : decide ((t : Int) + 1 < (q'.length : Int)) = true := dec_yes t1
      have HBr := Lib.hid hBr
      have HOr := Lib.hid hown
      obtain ⟨a, ha⟩ : ∃ y, q'[t]? = some y := ⟨_, List.getElem?_eq_getElem (by omega)⟩
      obtain ⟨b, hb⟩ : ∃ y, q'[t + 1]? = some y := ⟨_, List.getElem?_eq_getElem hlt⟩
      have PS : Hid (Pts wr (.slice (some ⟨g, t * 3, none⟩) (t + 1 + 1 - t) (oc - t)) [a, b]) := by
        have h1 := Fl.drop_ ((OwnN.fl pt_len HO.out).below hBr) t (oc - t) (by omega)
        have h2 := h1.take_ 2 (oc - t) (by omega)
        rw [show (q'.drop t).take 2 = [a, b] from take2 ha hb, Nat.zero_add] at h2
        rw [show t + 1 + 1 - t = 2 by omega]
        exact h2
      have HST : Hid (legsN q' (t + 1) = legsN q' t ++ [legB a b]) := by
        show legsN q' (t + 1) = _
        rw [legsN_succ, List.getD_eq_getElem?_getD, List.getD_eq_getElem?_getD, ha, hb]; rfl
      have HHU := Lib.hid (rhull_any _ [a, b] a wr PS.out (by simp) rfl)
      have HLB : Hid (hullP [a, b] = legB a b) := rfl
      rw [HLB.out] at HHU
      clear hBr hown ha hb
      go_wp2_with fail
      refine HHU.out.mono ?_
      rintro e w6 ⟨rfl, hb6⟩
      generalize legB a b = lg at *
      have HB6 := Lib.hid ((bstep HBr.out hb6).alloc (bstep HBr.out hb6).size (.cells (bxCellsA lg) 134))
      have HOR6 := Lib.hid (OwnN.alloc (OwnN.below HOr.out hb6) (.cells (bxCellsA lg) 134))
      have hl2 : (legsN q' t).length + 1 ≤ 1099511627776 := by rw [legsN_len]; omega
      have hbase : w1.heap.size ≤ w6.heap.size := (bstep HBr.out hb6).size
      have HOR7 := Lib.hid (OwnN.below HOr.out hb6)
      have HB7 := Lib.hid (bstep HBr.out hb6)
      clear hb6 HB6 HOR6
      go_wp2_with (at_builtin; refine wpList_pushAt _ w6.heap.size rfl rfl _ _ 71 rfl 134 6 48 elemBx w1.heap.size bxCells _ _ lg _ rfl rfl (bx_one _) HOR7.out rfl rfl hl2 (by omega) hbase ?_; intro v' w' hown' hg' hat'; have HO9 := Lib.hid hown'; have HB9 := Lib.hid (HB7.out.grown hg' HB7.out.size (fun j hj => (HOR7.out.lt j hj).1)); clear hown' hg' hat')
      go_roundw
      case rel => exact ⟨t + 1, by omega, by go_num, HB9.out, by rw [HST.out]; exact HO9.out⟩
      case measure => simp [intOf]; omega
    · have e : t = q'.length - 1 := by omega
      have hi1 : ¬ (t : Int) + 1 < (q'.length : Int) := by omega
      subst e
      have HOr := Lib.hid hown
      have HBZ := Lib.hid (bstep HB1.out hBr)
      have hz := HB1.out.size
      clear hown hBr
      go_wp2
      go_ret
      exact ⟨_, rfl, OwnN.mono HOr.out hz, HBZ.out⟩
end
end

section
open Go.RowKit
set_option linter.unusedVariables false
set_option linter.unusedSimpArgs false

end

section
open Go.RowKit
set_option linter.unusedVariables false
set_option linter.unusedSimpArgs false

/-- Some Bool, and nothing that was there has turned. -/
def SomeB (w : World) (e : Ending) (w' : World) : Prop := ∃ q : Bool, e = .returned (.bool q) ∧ Below w.heap.size w w'

theorem rshort_any (x : BarD) (dv : Value) (w : World) (hd : Ints w dv x.dims) :
    Calls Tryz.prog 90 #[barv x dv] w (SomeB w) := by
  obtain ⟨ao, cap, rfl, hdx⟩ := hd
  clear hdx
  by_cases h1 : x.dims.length ≤ 8
  · have d1 : decide ((x.dims.length : Int) ≤ 8) = true := dec_yes (by omega)
    have h2 : (x.dims.length : Int) ≤ 8 := by omega
    clear h1
    go_enter Tryz.func90, Tryz.ntmps90
    go_wp2
    all_goals
      go_ret
      exact ⟨_, rfl, by go_grown⟩
  · have d1 : decide ((x.dims.length : Int) ≤ 8) = false := dec_no (by omega)
    have h2 : ¬ (x.dims.length : Int) ≤ 8 := by omega
    clear h1
    go_enter Tryz.func90, Tryz.ntmps90
    go_wp2
    all_goals
      go_ret
      exact ⟨_, rfl, by go_grown⟩

end

section
open Go.RowKit
set_option linter.unusedVariables false
set_option linter.unusedSimpArgs false

/-- Some Bool; true only where valid runs have 14 laid bars at most. -/
def SmB (rs : List RunD) (w : World) (e : Ending) (w' : World) : Prop := ∃ q : Bool, e = .returned (.bool q) ∧ Below w.heap.size w w' ∧ (q = true → (∀ r ∈ rs, 1 ≤ r.count ∧ r.count ≤ 2000) → rs.length ≤ 60 → sumC rs ≤ 14)
theorem take_mem {rs : List RunD} {k : Nat} {r : RunD} (h : rs[k]? = some r) : r ∈ rs.take (k + 1) := by
  have hk := (List.getElem?_eq_some_iff.1 h).1
  rw [List.take_succ_eq_append_getElem hk, (List.getElem?_eq_some_iff.1 h).2]
  exact List.mem_append_right _ (List.mem_singleton.2 rfl)
theorem take_sub {rs : List RunD} {k : Nat} {r x : RunD} (h : rs[k]? = some r) (hx : x ∈ rs.take k) : x ∈ rs.take (k + 1) := by
  have hk := (List.getElem?_eq_some_iff.1 h).1
  rw [List.take_succ_eq_append_getElem hk]
  exact List.mem_append_left _ hx
theorem sm_no {rs : List RunD} {k : Nat} {r : RunD} {q : Int} (h : rs[k]? = some r) (hn : ¬ (1 ≤ r.count ∧ r.count ≤ 2000)) : (∀ r ∈ rs.take (k + 1), 1 ≤ r.count ∧ r.count ≤ 2000) → q = sumC (rs.take (k + 1)) := fun ha => absurd (ha r (take_mem h)) hn
theorem sm_add {rs : List RunD} {k : Nat} {r : RunD} {q : Int} (h : rs[k]? = some r) (hq : (∀ r ∈ rs.take k, 1 ≤ r.count ∧ r.count ≤ 2000) → q = sumC (rs.take k)) : (∀ r ∈ rs.take (k + 1), 1 ≤ r.count ∧ r.count ≤ 2000) → q + r.count = sumC (rs.take (k + 1)) := fun ha => by
  rw [sumC_snoc h, hq fun x hx => ha x (take_sub h hx)]

set_option maxHeartbeats 4000000 in
theorem small6_any (v vr : Value) (l : List BarD) (rs : List RunD) (w : World) (hp : Bars w v l) (hr : Runs w vr rs) (hl : l.length ≤ 140737488355328) (hlr : rs.length ≤ 140737488355328) :
    Calls Tryz.prog 64 #[v, vr, .int .i64 6, .int .i64 14] w (SmB rs w) := by
  obtain ⟨ao, cap, rfl⟩ := hp.at_
  obtain ⟨ro, rcap, rfl⟩ := hr.at_
  have HP := Lib.hid hp
  have HR := Lib.hid hr
  clear hp hr
  go_enter Tryz.func64, Tryz.ntmps64
  go_wp2_with fail
  all_goals try
    (go_ret; exact ⟨false, rfl, Below.refl _ _, fun h => by cases h⟩)
  all_goals
    go_loopw [9] (fun i wr => ∃ k : Nat, k ≤ l.length ∧ i = .int .i64 k ∧ Below w.heap.size w wr) (fun i _ => l.length - (intOf i).toNat)
    case atStart => exact ⟨0, Nat.zero_le _, rfl, Below.refl _ _⟩
    case round =>
      obtain ⟨k, hk, rfl, hBr⟩ := hrel
      by_cases hk2 : k < l.length
      · obtain ⟨x, hy⟩ : ∃ y, l[k]? = some y := ⟨_, List.getElem?_eq_getElem hk2⟩
        have HPr := Lib.hid (HP.out.below hBr)
        obtain ⟨b, off, rfl, hbl, c0, c1, c2, c3, uo, uc, c4, hdim⟩ := bars_get HPr.out hy
        have HSH := Lib.hid (rshort_any x (.slice uo x.dims.length uc) wr hdim)
        have HB := Lib.hid hBr
        clear hy hdim hBr
        go_wp2_with fail
        refine HSH.out.mono ?_
        rintro e w9 ⟨q, rfl, hb9⟩
        have HB9 := Lib.hid (bstep HB.out hb9)
        clear hb9 c0 c1 c2 c3 c4
        cases q
        · go_wp2
          go_ret
          exact ⟨false, rfl, HB9.out, fun h => by cases h⟩
        · go_wp2
          go_roundw
          case rel => exact ⟨k + 1, by omega, by go_num, HB9.out⟩
          case measure => simp [intOf]; omega
      · obtain rfl : k = l.length := by omega
        have HB := Lib.hid hBr
        clear hBr
        obtain ⟨wo, rfl⟩ : ∃ wo : World, wo = wr := ⟨_, rfl⟩
        go_wp2_with fail
        go_loop [10, 11] (fun t i => ∃ (k : Nat) (q : Int), k ≤ rs.length ∧ i = .int .i64 k ∧ t = .int .i64 q ∧ 0 ≤ q ∧ q ≤ k * 60 ∧ Hid ((∀ r ∈ rs.take k, 1 ≤ r.count ∧ r.count ≤ 2000) → q = sumC (rs.take k))) (fun _ i => rs.length - (intOf i).toNat)
        case atStart => exact ⟨0, 0, Nat.zero_le _, rfl, rfl, by omega, by omega, fun _ => rfl⟩
        case round =>
          obtain ⟨k, q, hk, rfl, rfl, q0, q1, HQ⟩ := hrel
          by_cases hk2 : k < rs.length
          · obtain ⟨r, hy⟩ : ∃ y, rs[k]? = some y := ⟨_, List.getElem?_eq_getElem hk2⟩
            obtain ⟨b, off, rfl, hbl, c0, c1, c2, c3, c4, c5, c6, c7, c8, c9⟩ := runs_get (HR.out.below HB.out) hy
            have HY := Lib.hid hy
            clear hy c1 c2 c3 c4 c5 c6 c7 c8
            by_cases h1 : (60 : Int) < (r.mark.size : Int)
            · go_wp2
              go_ret
              exact ⟨false, rfl, HB.out, fun h => by cases h⟩
            · by_cases h2 : 14 < r.count
              · by_cases h3 : r.count ≤ 2000
                · have d1 : decide (14 < r.count) = true := dec_yes h2
                  have d2 : decide (r.count ≤ 2000) = true := dec_yes h3
                  go_wp2
                  go_ret
                  exact ⟨false, rfl, HB.out, fun h => by cases h⟩
                · have d1 : decide (14 < r.count) = true := dec_yes h2
                  have d2 : decide (r.count ≤ 2000) = false := dec_no h3
                  have d3 : decide (0 < r.count) = true := dec_yes (by omega)
                  have d4 : decide (r.count ≤ 14) = false := dec_no (by omega)
                  have h4 : 0 < r.count := by omega
                  have h5 : ¬ r.count ≤ 14 := by omega
                  go_wp2
                  go_round
                  case rel => exact ⟨k + 1, q, by omega, by go_num, rfl, q0, by omega, sm_no HY.out (by omega)⟩
                  case measure => simp [intOf]; omega
              · have d1 : decide (14 < r.count) = false := dec_no h2
                by_cases h4 : 0 < r.count
                · have d3 : decide (0 < r.count) = true := dec_yes h4
                  have d4 : decide (r.count ≤ 14) = true := dec_yes (by omega)
                  have h5 : r.count ≤ 14 := by omega
                  go_wp2
                  go_round
                  case rel => exact ⟨k + 1, q + r.count, by omega, by go_num, rfl, by omega, by omega, sm_add HY.out HQ.out⟩
                  case measure => simp [intOf]; omega
                · have d3 : decide (0 < r.count) = false := dec_no h4
                  go_wp2
                  go_round
                  case rel => exact ⟨k + 1, q, by omega, by go_num, rfl, q0, by omega, sm_no HY.out (by omega)⟩
                  case measure => simp [intOf]; omega
          · obtain rfl : k = rs.length := by omega
            have HQ2 : Hid ((∀ r ∈ rs, 1 ≤ r.count ∧ r.count ≤ 2000) → q = sumC rs) := by have := HQ.out; rw [List.take_length] at this; exact this
            by_cases h1 : q ≤ 14
            · have d1 : decide (q ≤ 14) = true := dec_yes h1
              go_wp2
              go_ret
              exact ⟨true, rfl, HB.out, fun _ h _ => by have := HQ2.out h; omega⟩
            · have d1 : decide (q ≤ 14) = false := dec_no h1
              by_cases h6 : 6 < rs.length
              · first
                  | (exfalso; omega)
                  | (have h60 : 60 < rs.length := by omega
                     have d6 : decide (6 < (rs.length : Int)) = true := dec_yes (by omega)
                     go_wp2
                     go_ret
                     exact ⟨true, rfl, HB.out, fun _ _ h => by omega⟩)
              · first
                  | (exfalso; omega)
                  | (have d6 : decide (6 < (rs.length : Int)) = false := dec_no (by omega)
                     go_wp2
                     go_ret
                     exact ⟨false, rfl, HB.out, fun h => by cases h⟩)
end
end
end Go.Proofs.YtamogedpgkofjaaGreat
