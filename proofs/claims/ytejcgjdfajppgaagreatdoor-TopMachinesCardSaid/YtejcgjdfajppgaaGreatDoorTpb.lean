/-
  bundle.Make at the example of the yard.
-/
import Derived.Test.YtejcgjdfajppgaaGreatDoorTpa
import Derived.Test.YtejcgjdfajppgaaGreatDoorTsi
import Derived.Test.YtejcgjdfajppgaaGreatDoorKsc
import Derived.Test.YtejcgjdfajppgaaGreatDoorShelf
import Derived.Laws.Concat
namespace Go.Proofs.YtejcgjdfajppgaaGreatDoor
section
open Go.RowKit
set_option linter.unusedVariables false
set_option linter.unusedSimpArgs false
attribute [local go_sem ↓] Go.wp_at_zero Go.wp_at_succ

def NoBar (F : Nat) (caps : Array Value) (l : List BarD) (w : World) : Prop :=
  (∀ (xs : Array Value) (W : World), (callFunc F xs).run Tryz.prog W = .ok (.enter F xs) W) ∧
  ∀ (k : Nat) (x : BarD) (uo : Option Addr) (uc : Nat) (W : World), l[k]? = some x → Below w.heap.size w W → Ints W (.slice uo x.dims.length uc) x.dims → Calls Tryz.prog F (#[barv x (.slice uo x.dims.length uc)] ++ caps) W fun e w1 => e = .returned (.bool false) ∧ Below W.heap.size W w1
set_option maxHeartbeats 1000000 in
theorem noBars_any (F : Nat) (caps : Array Value) (v : Value) (l : List BarD) (w : World) (hp : Bars w v l) (hl : l.length ≤ 140737488355328) (hC : NoBar F caps l w) :
    Calls Tryz.prog 55 #[v, .func (.func F) #[] caps] w fun e w' => e = .returned (.int .i64 (-1)) ∧ Below w.heap.size w w' := by
  obtain ⟨hF, hC⟩ := hC
  obtain ⟨ao, cap, rfl⟩ := hp.at_
  have HC := Lib.hid hC
  have HP := Lib.hid hp
  clear hC hp
  go_enter Tryz.func55, Tryz.ntmps55
  go_wp2
  go_loopw [5, 8] (fun _ i wr => ∃ k : Nat, k ≤ l.length ∧ i = .int .i64 k ∧ Below w.heap.size w wr) (fun _ i _ => l.length - (intOf i).toNat)
  case atStart => exact ⟨0, Nat.zero_le _, rfl, Below.refl _ _⟩
  case round =>
    obtain ⟨k, hk, rfl, hBr⟩ := hrel
    by_cases hk2 : k < l.length
    · obtain ⟨x, hy⟩ : ∃ y, l[k]? = some y := ⟨_, List.getElem?_eq_getElem hk2⟩
      obtain ⟨b, off, rfl, hbl, c0, c1, c2, c3, uo, uc, c4, hd⟩ := bars_get (HP.out.below hBr) hy
      have HK := Lib.hid (HC.out k x uo uc wr hy hBr hd)
      clear hy hd
      go_wp2_with fail
      refine HK.out.mono ?_
      rintro e w9 ⟨rfl, hb9⟩
      have hB9 := bstep hBr hb9
      go_wp2
      go_roundw
      case rel => exact ⟨k + 1, by omega, by go_num, hB9⟩
      case measure => simp [intOf]; omega
    · go_wp2
      go_ret
      exact ⟨rfl, hBr⟩
theorem noBars2_any (F : Nat) (caps : Array Value) (v : Value) (l : List BarD) (w : World) (hp : Bars w v l) (hl : l.length ≤ 140737488355328) (hC : NoBar F caps l w) :
    Calls Tryz.prog 33 #[v, .func (.func F) #[] caps] w fun e w' => e = .returned (.bool false) ∧ Below w.heap.size w w' := by
  have HI := Lib.hid (noBars_any F caps v l w hp hl hC)
  clear hC hp
  go_enter Tryz.func33, Tryz.ntmps33
  go_wp2_with fail
  refine HI.out.mono ?_
  rintro e w9 ⟨rfl, hb1⟩
  go_wp2
  go_ret
  exact ⟨rfl, hb1⟩

def yardL : List BunD := [⟨⟨#[116, 49]⟩, ⟨#[97]⟩, 2, 1776⟩, ⟨⟨#[116, 50]⟩, ⟨#[97]⟩, 2, 1776⟩, ⟨⟨#[116, 51]⟩, ⟨#[97]⟩, 1, 888⟩]
def leftA (j : Nat) : Int := [5, 3, 1, 0].getD j 0
theorem elemBun : ElemN Tryz.prog 44 73 4 48 := elemN_of (z := .agg #[.string ⟨#[]⟩, .string ⟨#[]⟩, .int .i64 0, .int .i64 0]) Tryz.underlying44 (by kernel_rfl) rfl (by omega)
theorem bun_one (x : BunD) : ∀ u ∈ bunCells x, u.oneCell' = true := by
  intro u hu
  unfold bunCells at hu
  simp at hu
  rcases hu with rfl | rfl | rfl | rfl <;> rfl
theorem yard_sched : schedOk [yardBar] = true := by
  refine sched_yes (by decide) fun i b hi hb => ?_
  obtain rfl : i = 0 := by simpa using hi
  cases hb
  rw [yard_ok]
  decide
theorem yard_step {j : Nat} (hj : j < 3) {x : BunD} (hx : yardL[j]? = some x) : 0 < leftA j ∧ leftA j ≤ 5 ∧ min (leftA j) 2 = x.count ∧ 1 ≤ x.count ∧ x.count ≤ 2 ∧ x.count * 888 = x.mass ∧ leftA j - x.count = leftA (j + 1) ∧ x.mark = ⟨#[97]⟩ ∧ x.tag = (⟨#[116]⟩ : ByteArray) ++ ⟨(Lib.decDigits (j + 1)).toArray⟩ := by
  rcases (by omega : j = 0 ∨ j = 1 ∨ j = 2) with rfl | rfl | rfl
  · cases hx; refine ⟨by decide, by decide, by decide, by decide, by decide, by decide, by decide, rfl, by decide +kernel⟩
  · cases hx; refine ⟨by decide, by decide, by decide, by decide, by decide, by decide, by decide, rfl, by decide +kernel⟩
  · cases hx; refine ⟨by decide, by decide, by decide, by decide, by decide, by decide, by decide, rfl, by decide +kernel⟩
theorem itoa_succ (j : Nat) (hj : j + 1 < 100) (w : World) : Calls Tryz.prog 36 #[.int .i64 ((j : Int) + 1)] w fun e w' => e = .returned (.string ⟨(Lib.decDigits (j + 1)).toArray⟩) ∧ w = w' :=
  (Tryz.strconv_Itoa_small (j + 1) hj w).mono fun e w' h => ⟨h.1, h.2.symm⟩
set_option maxHeartbeats 2000000 in
set_option maxRecDepth 100000 in
theorem bmake_yard (v : Value) (w : World) (hp : Bars w v [yardBar]) :
    Calls Tryz.prog 13 #[v, .int .i64 2000] w fun e w' => ∃ o, e = .returned (.tuple #[o, .int .i64 0]) ∧ OwnN w' w.heap.size 73 4 bunCells o yardL ∧ Below w.heap.size w w' := by
  obtain ⟨ao, cap, rfl⟩ := hp.at_
  have hp1 : Bars w (.slice ao 1 cap) [yardBar] := hp
  obtain ⟨w0, hw0⟩ : ∃ w0, w.alloc (.cells #[.int .i64 2000] 3) = w0 := ⟨_, rfl⟩
  have hb0 : Below w.heap.size w w0 := by rw [← hw0]; exact below_new _ _
  obtain ⟨B, hB⟩ : ∃ B, w.heap.size = B := ⟨_, rfl⟩
  have BX : BlkIs w0 B 3 #[.int .i64 2000] := by rw [← hw0, ← hB]; exact BlkIs.new _ _ _
  have HBX := Lib.hid BX
  have HP := Lib.hid hp1
  have HB0 := Lib.hid hb0
  have HV := Lib.hid (cvalid_any _ [yardBar] w0 (hp1.below hb0) (by decide) (by intro b hb; rw [List.mem_singleton] at hb; subst hb; decide))
  rw [yard_sched] at HV
  clear hp hp1 hb0
  go_enter Tryz.func13, Tryz.ntmps13
  go_wp2_with fail
  refine HV.out.mono ?_
  rintro e w1 ⟨rfl, hb1⟩
  have HB1 := Lib.hid (bstep HB0.out hb1)
  have hx1 := HBX.out.below hb1
  have HX1 := Lib.hid hx1
  have c0 := hx1.cell 0
  have l0 := hx1.lt
  clear hb1 HV BX HBX hw0 HB0 hx1
  have HN := Lib.hid (noBars2_any 34 #[.pointer (some ⟨B, 0, none⟩)] _ [yardBar] w1 (HP.out.below HB1.out) (by decide) ⟨fun xs W => by go_simp, fun k x uo uc W hx hW hd => by
    obtain rfl : k = 0 := by have := (List.getElem?_eq_some_iff.1 hx).1; simpa using this
    cases hx
    exact make1_yard uo uc B W hd (Nat.lt_of_lt_of_le HX1.out.lt hW.size) ((hW.cell (p := ⟨B, 0, none⟩) HX1.out.lt).trans (HX1.out.cell 0))⟩)
  go_wp2_with fail
  refine HN.out.mono ?_
  rintro e w2 ⟨rfl, hb2⟩
  have HB2 := Lib.hid (bstep HB1.out hb2)
  have HX2 := Lib.hid (HX1.out.below hb2)
  clear hb2 HN HB1 HX1 c0 l0
  go_wp2_with fail
  go_loopw [6, 30] (fun o i wr => (i = .int .i64 0 ∧ o = .slice none 0 0 ∧ wr = w2) ∨ (i = .int .i64 1 ∧ Hid (Below w.heap.size w wr ∧ OwnN wr w.heap.size 73 4 bunCells o yardL))) (fun _ i _ => 1 - (intOf i).toNat)
  case atStart => exact .inl ⟨rfl, rfl, rfl⟩
  case round =>
    rcases hrel with ⟨rfl, rfl, rfl⟩ | ⟨rfl, HR⟩
    · obtain ⟨b, off, rfl, hbl, d0, d1, d2, d3, uo, uc, d4, hd⟩ := bars_get (k := 0) (HP.out.below HB2.out) rfl
      unfold yardBar at d0 d1 d2 d3 d4 hd
      simp only [Nat.zero_mul, Nat.add_zero] at d0 d1 d2 d3 d4 hd
      have d4' : wr.cell? ⟨b, off + 4, none⟩ = some (.slice uo 1 uc) := d4
      have hd' : Ints wr (.slice uo 1 uc) [1000] := hd
      obtain ⟨w3, hw3⟩ : ∃ w3, wr.alloc (.cells #[.string ⟨#[97]⟩, .int .i64 12, .int .i64 5, .int .i64 0, .slice uo 1 uc] 42) = w3 := ⟨_, rfl⟩
      have hb3 : Below wr.heap.size wr w3 := by rw [← hw3]; exact below_new _ _
      have BY : BlkIs w3 wr.heap.size 42 #[.string ⟨#[97]⟩, .int .i64 12, .int .i64 5, .int .i64 0, .slice uo 1 uc] := by rw [← hw3]; exact BlkIs.new _ _ _
      have HO1 := Lib.hid (one_yard uo uc w3 (Sl.below hd' hb3))
      have HB3 := Lib.hid (bstep HB2.out hb3)
      have HX3 := Lib.hid (HX2.out.below hb3)
      have HY := Lib.hid BY
      obtain ⟨g, hg⟩ : ∃ g, wr.heap.size = g := ⟨_, rfl⟩
      rw [hg] at HY BY
      have x0 := BY.cell 0
      have x1 := BY.cell 1
      have x2 := BY.cell 2
      have x3 := BY.cell 3
      have x4 := BY.cell 4
      have lx := BY.lt
      unfold barv yardBar at HO1
      clear d4 hd hd' hb3 BY
      go_wp2_with fail
      clear x0 x1 x2 x3 x4 lx
      refine HO1.out.mono ?_
      rintro e w4 ⟨rfl, hb4⟩
      have HB4 := Lib.hid (bstep HB3.out hb4)
      have HX4 := Lib.hid (HX3.out.below hb4)
      have HY4 := Lib.hid (HY.out.below hb4)
      have c0 := HX4.out.cell 0
      have l0 := HX4.out.lt
      have x0 := HY4.out.cell 0
      have x2 := HY4.out.cell 2
      have lx := HY4.out.lt
      clear hb4 HO1 HX3 HB3 HY d0 d1 d2 d3 d4' hw3
      go_wp2_with fail
      clear c0 l0 x0 x2 lx HX4 HX2
      simp only [show (2000 : Int) / max 1 888 = 2 by decide]
      go_loopw [6, 11] (fun o i wr => ∃ j : Nat, j ≤ 3 ∧ i = .int .i64 (leftA j) ∧ Hid (Below w.heap.size w wr ∧ BlkIs wr g 42 #[.string ⟨#[97]⟩, .int .i64 12, .int .i64 5, .int .i64 0, .slice uo 1 uc] ∧ OwnN wr w.heap.size 73 4 bunCells o (yardL.take j))) (fun _ i _ => (intOf i).toNat)
      case atStart => exact ⟨0, by omega, rfl, Lib.hid ⟨HB4.out, HY4.out, OwnN.nil _ _ _ _ _⟩⟩
      case round =>
        clear HB4 HY4
        obtain ⟨j, hj, rfl, HR⟩ := hrel
        by_cases hj2 : j < 3
        · obtain ⟨x, hx⟩ : ∃ x, yardL[j]? = some x := ⟨_, List.getElem?_eq_getElem (by simpa [yardL] using hj2)⟩
          have hst := yard_step hj2 hx
          have hlen : (yardL.take j).length = j := by rw [List.length_take]; simp [yardL]; omega
          have HSN : Hid (yardL.take (j + 1) = yardL.take j ++ [x]) := Lib.hid (by rw [List.take_add_one, hx]; rfl)
          obtain ⟨oo, oc, rfl⟩ := HR.out.2.2.shape
          obtain ⟨tg, mk, ct, ms⟩ := x
          have HI := Lib.hid (fun W => itoa_succ j (by omega) W)
          have hds : (⟨(Lib.decDigits (j + 1)).toArray⟩ : ByteArray).size ≤ 100 := by
            rcases (by omega : j = 0 ∨ j = 1 ∨ j = 2) with rfl | rfl | rfl <;> decide +kernel
          simp only at hst
          obtain ⟨ha0, ha5, hmn, hc1, hc2, hm, hlf, rfl, rfl⟩ := hst
          rw [hlen] at HR
          have HLF := Lib.hid hlf
          generalize leftA j = a at *
          clear hx hlf
          subst hmn
          subst hm
          generalize (⟨(Lib.decDigits (j + 1)).toArray⟩ : ByteArray) = ds at *
          have hadd : ∀ W, (Op.stringOp .add ⟨#[116]⟩ ds).run Tryz.prog W = .ok (.string (⟨#[116]⟩ ++ ds)) W := fun W => run_string_add_sum W _ _ (by have : (⟨#[116]⟩ : ByteArray).size = 1 := rfl; omega)
          rw [hlen]
          clear hlen
          have hj9 : j + 1 < 100 := by omega
          have y0 := fun dd os => cell_regrown (HR.out.2.1.cell 0) dd os
          have hms : IntKind.i64.wrap (min a 2 * 888) = min a 2 * 888 := by rw [IntWalk.i64_in _ (by omega)]
          have e4 : decide ((j : Int) = 1000) = false := by simp; omega
          go_wp2_with fail
          refine wp_region_below_tail1 12 _ rfl rfl (by kernel_rfl) (by kernel_rfl) (fun _ _ _ h => h) ?_
          simp only [List.take_succ_cons, List.take_zero, List.drop_succ_cons, List.drop_zero, Act.put, List.setIfInBounds_toArray, List.set_cons_zero, List.set_cons_succ, go_sem]
          repeat (go_big_quiet_step ((first
            | (go_at_call 36; exact regrown_pure (HI.out _)))))
          refine wpQuiet_nil ?_
          intro _ hw'
          obtain ⟨⟨nq, osq⟩, hw''⟩ := hw'
          subst hw''
          have hbr := below_regrown wr nq osq
          have HB5 := Lib.hid (bstep HR.out.1 hbr)
          have HY5 := Lib.hid (HR.out.2.1.below hbr)
          have HO5 := Lib.hid (HR.out.2.2.below hbr)
          clear y0 hbr HI hadd HR
          generalize Go.Sort.grow (redrawn wr nq) osq = W2 at *
          have hbs : w.heap.size ≤ W2.heap.size := HB5.out.size
          have hln : (yardL.take j).length + 1 ≤ 1099511627776 := by rw [List.length_take]; simp [yardL]; omega
          have HNE : Hid (∀ oo oc, OwnN W2 w.heap.size 73 4 bunCells (.slice oo j oc) (yardL.take j) → some g ≠ (Value.slice oo j oc).ownBlock) := Lib.hid (fun oo oc h e => h.apart_blk HY5.out (by decide) g e.symm rfl)
          go_wp2_with (at_builtin; refine wpList_pushN W2 rfl _ _ 44 rfl 73 4 48 elemBun w.heap.size bunCells _ _ (⟨⟨#[116]⟩ ++ ds, ⟨#[97]⟩, min a 2, min a 2 * 888⟩ : BunD) _ rfl rfl (bun_one _) HO5.out rfl rfl hln (by omega) hbs ?_; intro v' w' hown' hg' hat'; have HO9 := Lib.hid hown'; have HB9 := Lib.hid (HB5.out.grown hg' hbs (fun j hj => (HO5.out.lt j hj).1)); have HY9 := Lib.hid ((hg'.block g HY5.out.lt (HNE.out _ _ HO5.out)).trans HY5.out); clear hown' hg' hat')
          go_roundw
          case rel => exact ⟨j + 1, by omega, congrArg (Value.int .i64) HLF.out, Lib.hid ⟨HB9.out, HY9.out, by rw [HSN.out]; exact HO9.out⟩⟩
          case measure => have := HLF.out; simp [intOf]; omega
        · obtain rfl : j = 3 := by omega
          simp only [show leftA 3 = 0 from rfl]
          go_wp2
          go_roundw
          case rel => exact .inr ⟨by go_num, Lib.hid ⟨HR.out.1, HR.out.2.2⟩⟩
          case measure => simp [intOf]
    · go_wp2
      go_ret2
      exact ⟨_, rfl, HR.out.2, HR.out.1⟩
end
end Go.Proofs.YtejcgjdfajppgaaGreatDoor
