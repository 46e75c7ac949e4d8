/-
  Schedules that are valid; the path of a run, turned.
-/
import Derived.Test.YtpidjgljeooblaaScA
import Derived.Test.YtpidjgljeooblaaShC
namespace Go.Proofs.Ytpidjgljeooblaa
open Go.RowKit
set_option linter.unusedVariables false
set_option linter.unusedSimpArgs false

def lineB (l : List BarD) (i : Nat) : Bool := match l[i]? with | some b => barOk b && decide (findZ l b.mark = i) | none => true
def schedOk (l : List BarD) : Bool := decide (l.length ≤ 60) && (List.range l.length).all (lineB l)
/-- Marks and dimensions of a size that memory holds. -/
def FitB (l : List BarD) : Prop := ∀ b ∈ l, b.mark.size ≤ maxLen ∧ b.dims.length ≤ 140737488355328
theorem lineB_some {l : List BarD} {i : Nat} {b : BarD} (h : l[i]? = some b) : lineB l i = (barOk b && decide (findZ l b.mark = i)) := by unfold lineB; rw [h]
theorem sched_big {l : List BarD} (h : 60 < l.length) : schedOk l = false := by unfold schedOk; rw [dec_no (by omega)]; rfl
theorem sched_no {l : List BarD} {i : Nat} {b : BarD} (h : l[i]? = some b) (hb : (barOk b && decide (findZ l b.mark = i)) = false) : schedOk l = false := by
  unfold schedOk
  rw [show (List.range l.length).all (lineB l) = false from List.all_eq_false.2 ⟨i, List.mem_range.2 (List.getElem?_eq_some_iff.1 h).1, by rw [lineB_some h, hb]; simp⟩]
  simp
theorem sched_yes {l : List BarD} (h : l.length ≤ 60) (h2 : ∀ (i : Nat) b, i < l.length → l[i]? = some b → (barOk b && decide (findZ l b.mark = i)) = true) : schedOk l = true := by
  unfold schedOk
  rw [dec_yes h, Bool.true_and, List.all_eq_true]
  intro i hi
  rw [List.mem_range] at hi
  rw [lineB_some (List.getElem?_eq_getElem hi)]
  exact h2 i _ hi (List.getElem?_eq_getElem hi)
theorem sched_line {l : List BarD} (h : schedOk l = true) {i : Nat} {b : BarD} (hi : l[i]? = some b) : barOk b = true ∧ findZ l b.mark = i := by
  unfold schedOk at h
  rw [Bool.and_eq_true, List.all_eq_true] at h
  have := h.2 i (List.mem_range.2 (List.getElem?_eq_some_iff.1 hi).1)
  rw [lineB_some hi, Bool.and_eq_true, decide_eq_true_eq] at this
  exact this
theorem sched_len {l : List BarD} (h : schedOk l = true) : l.length ≤ 60 := by
  unfold schedOk at h
  rw [Bool.and_eq_true, decide_eq_true_eq] at h
  exact h.1

set_option maxRecDepth 100000 in
set_option maxHeartbeats 2000000 in
theorem cvalid_any (v : Value) (l : List BarD) (w : World) (hp : Bars w v l) (hl : l.length ≤ 140737488355328) (hf : FitB l) :
    Calls Try.prog 47 #[v] w fun e w' => e = .returned (.bool (schedOk l)) ∧ Below w.heap.size w w' := by
  obtain ⟨ao, cap, rfl⟩ := hp.at_
  have HP := Lib.hid hp
  have HFI := Lib.hid hf
  clear hp hf
  rcases Nat.lt_or_ge 60 l.length with h60 | h60
  · have HF := Lib.hid (sched_big h60)
    have h61 : (60 : Int) < (l.length : Int) := by omega
    go_enter Try.func47, Try.ntmps47
    go_wp2
    go_ret
    exact ⟨ret_bool HF.out.symm, Below.refl _ _⟩
  · have h61 : ¬ (60 : Int) < (l.length : Int) := by omega
    have H60 := Lib.hid h60
    go_enter Try.func47, Try.ntmps47
    go_wp2
    go_loopw [10] (fun i wr => ∃ k : Nat, k ≤ l.length ∧ i = .int .i64 k ∧ Below w.heap.size w wr ∧ Hid (∀ (j : Nat) b, j < k → l[j]? = some b → (barOk b && decide (findZ l b.mark = j)) = true)) (fun i _ => l.length - (intOf i).toNat)
    case atStart => exact ⟨0, Nat.zero_le _, rfl, Below.refl _ _, fun j _ hj => by omega⟩
    case round =>
      obtain ⟨k, hk, rfl, hBr, hno⟩ := hrel
      by_cases hk2 : k < l.length
      · obtain ⟨x, hy⟩ : ∃ y, l[k]? = some y := ⟨_, List.getElem?_eq_getElem hk2⟩
        obtain ⟨b, off, rfl, hbl, c0, c1, c2, c3, uo, uc, c4, hdim⟩ := bars_get (HP.out.below hBr) hy
        have HY := Lib.hid hy
        obtain ⟨hm1, hm2⟩ := HFI.out x (List.mem_of_getElem? hy)
        have HVA := Lib.hid (svalid_any x (.slice uo x.dims.length uc) _ (Sl.below hdim (below_new _ (.cells #[.string x.mark, .int .i64 x.size, .int .i64 x.count, .int .i64 x.code, .slice uo x.dims.length uc] 54))) hm1 hm2)
        have HIX := Lib.hid (fun W (hW : Below w.heap.size w W) => sindex_any (.slice (some ⟨b, off, none⟩) l.length cap) l x.mark W (HP.out.below hW) hl)
        have HB := Lib.hid hBr
        obtain ⟨q, hq⟩ : ∃ q, barOk x = q := ⟨_, rfl⟩
        rw [hq] at HVA
        have HQ := Lib.hid hq
        clear hy hq hdim hm1 hm2 hBr
        cases q
        · have HF := Lib.hid (sched_no HY.out (by rw [HQ.out]; rfl))
          go_wp2_with fail
          refine HVA.out.mono ?_
          rintro e w9 ⟨rfl, hb9⟩
          have HB9 := Lib.hid (bstep (HB.out.alloc HB.out.size _) hb9)
          clear hb9
          go_wp2
          go_ret
          exact ⟨ret_bool HF.out.symm, HB9.out⟩
        · go_wp2_with fail
          refine HVA.out.mono ?_
          rintro e w9 ⟨rfl, hb9⟩
          have HB9 := Lib.hid (bstep (HB.out.alloc HB.out.size _) hb9)
          have d0 := ((BlkIs.new wr #[.string x.mark, .int .i64 x.size, .int .i64 x.count, .int .i64 x.code, .slice uo x.dims.length uc] 54).below hb9).cell 0
          clear hb9
          obtain ⟨fz, hfz⟩ : ∃ fz, findZ l x.mark = fz := ⟨_, rfl⟩
          rw [hfz] at HIX
          have HFZ := Lib.hid hfz
          clear hfz
          by_cases he : fz = k
          · have he2 : (fz != (k : Int)) = false := bne_no he
            have HE := Lib.hid he
            clear he
            go_wp2_with fail
            refine (HIX.out _ HB9.out).mono ?_
            rintro e w8 ⟨rfl, hb8⟩
            have HB8 := Lib.hid (bstep HB9.out hb8)
            clear hb8
            go_wp2
            go_roundw
            case rel => exact ⟨k + 1, by omega, by go_num, HB8.out, fun j z hj hz => by
              by_cases e : j = k
              · subst e; rw [HY.out] at hz; cases hz; rw [HQ.out, HFZ.out, dec_yes HE.out]; rfl
              · exact hno.out j z (by omega) hz⟩
            case measure => simp [intOf]; omega
          · have he2 : (fz != (k : Int)) = true := bne_yes he
            have HF := Lib.hid (sched_no HY.out (by rw [HQ.out, HFZ.out, dec_no he]; rfl))
            clear he
            go_wp2_with fail
            refine (HIX.out _ HB9.out).mono ?_
            rintro e w8 ⟨rfl, hb8⟩
            have HB8 := Lib.hid (bstep HB9.out hb8)
            clear hb8
            go_wp2
            go_ret
            exact ⟨ret_bool HF.out.symm, HB8.out⟩
      · have HT := Lib.hid (sched_yes H60.out (fun i b hi hb => hno.out i b (by omega) hb))
        go_wp2
        go_ret
        exact ⟨ret_bool HT.out.symm, hBr⟩
end Go.Proofs.Ytpidjgljeooblaa
