/-
  machine.run, and the error of an order.
-/
import Derived.Test.YtejcgjdfajppgaaGreatDoorMva
import Derived.Test.YtejcgjdfajppgaaGreatDoorJhp
import Derived.Test.YtejcgjdfajppgaaGreatDoorKcv
import Derived.Test.YtejcgjdfajppgaaGreatDoorKlg
import Derived.Test.YtejcgjdfajppgaaGreatDoorTgr
namespace Go.Proofs.YtejcgjdfajppgaaGreatDoor
section
open Go.RowKit
set_option linter.unusedVariables false
set_option linter.unusedSimpArgs false
attribute [local go_sem ↓] Go.wp_at_zero Go.wp_at_succ

def cutF (l : List WkD) (i : Nat) : Int := match l[i]? with | some x => x.cut | none => 0
def bendF (l : List WkD) (i : Nat) : Int := match l[i]? with | some x => x.bend | none => 0
theorem cutF_at {l : List WkD} {i : Nat} {x : WkD} (h : l[i]? = some x) : cutF l i = x.cut := by unfold cutF; rw [h]
theorem bendF_at {l : List WkD} {i : Nat} {x : WkD} (h : l[i]? = some x) : bendF l i = x.bend := by unfold bendF; rw [h]
theorem tm_in {l : List WkD} (h : TmIn l) (i : Nat) : 0 ≤ cutF l i ∧ cutF l i ≤ 10000 ∧ 0 ≤ bendF l i ∧ bendF l i ≤ 10000 := by
  unfold cutF bendF
  cases hx : l[i]? with
  | none => simp
  | some x => have := h x (List.mem_of_getElem? hx); simp only; omega
def stC (c b : Nat → Int) (o : List Nat) (j : Nat) : Int := (runS c b (o.take j) (0, 0)).1
def stB (c b : Nat → Int) (o : List Nat) (j : Nat) : Int := (runS c b (o.take j) (0, 0)).2
theorem st_zero (c b : Nat → Int) (o : List Nat) : stC c b o 0 = 0 ∧ stB c b o 0 = 0 := ⟨rfl, rfl⟩
theorem st_succ {c b : Nat → Int} {o : List Nat} {j i : Nat} (h : o[j]? = some i) : stC c b o (j + 1) = stC c b o j + c i ∧ stB c b o (j + 1) = max (stC c b o j + c i) (stB c b o j) + b i := by
  unfold stC stB
  rw [take_snoc h, runS_append]
  exact ⟨rfl, rfl⟩
theorem st_len (c b : Nat → Int) (o : List Nat) : stB c b o o.length = lenJ c b o := by unfold stB lenJ; rw [List.take_length]
theorem st_bd {l : List WkD} (h : TmIn l) (o : List Nat) : ∀ j, j ≤ o.length → 0 ≤ stC (cutF l) (bendF l) o j ∧ stC (cutF l) (bendF l) o j ≤ j * 10000 ∧ 0 ≤ stB (cutF l) (bendF l) o j ∧ stB (cutF l) (bendF l) o j ≤ j * 20000
  | 0, _ => by rw [(st_zero _ _ o).1, (st_zero _ _ o).2]; simp
  | j + 1, hj => by
    have ih := st_bd h o j (by omega)
    have hi : o[j]? = some o[j] := List.getElem?_eq_getElem (by omega)
    have hs := st_succ (c := cutF l) (b := bendF l) hi
    have ht := tm_in h o[j]
    rw [hs.1, hs.2]
    generalize cutF l o[j] = ci at *
    generalize bendF l o[j] = bi at *
    generalize stC (cutF l) (bendF l) o j = x at *
    generalize stB (cutF l) (bendF l) o j = y at *
    refine ⟨by omega, by omega, by omega, ?_⟩
    omega
structure RunIs (c b : Nat → Int) (o : List Nat) (n j : Nat) (A B : List Int) : Prop where
  la : A.length = n
  lb : B.length = n
  is : ∀ q i, q < j → o[q]? = some i → A[i]? = some (stC c b o q) ∧ B[i]? = some (max (stC c b o q + c i) (stB c b o q))
theorem RunIs.start (c b : Nat → Int) (o : List Nat) (n : Nat) : RunIs c b o n 0 (List.replicate n 0) (List.replicate n 0) := ⟨by simp, by simp, fun q i hq => by omega⟩
theorem RunIs.step {c b : Nat → Int} {o : List Nat} {n j i : Nat} {A B : List Int} (h : RunIs c b o n j A B) (hn : o.Nodup) (hi : o[j]? = some i) (hin : i < n) : RunIs c b o n (j + 1) (A.set i (stC c b o j)) (B.set i (max (stC c b o j + c i) (stB c b o j))) := by
  refine ⟨by rw [List.length_set]; exact h.la, by rw [List.length_set]; exact h.lb, fun q k hq hk => ?_⟩
  rcases Nat.lt_succ_iff_lt_or_eq.1 hq with hq' | rfl
  · have hne : i ≠ k := by
      rintro rfl
      obtain ⟨hj1, hj2⟩ := List.getElem?_eq_some_iff.1 hi
      obtain ⟨hq1, hq2⟩ := List.getElem?_eq_some_iff.1 hk
      rw [List.nodup_iff_pairwise_ne] at hn
      exact List.pairwise_iff_getElem.1 hn q j hq1 hj1 hq' (hq2.trans hj2.symm)
    rw [List.getElem?_set_ne hne, List.getElem?_set_ne hne]
    exact h.is q k hq' hk
  · rw [hi] at hk
    cases hk
    rw [List.getElem?_set_self (by rw [h.la]; exact hin), List.getElem?_set_self (by rw [h.lb]; exact hin)]
    exact ⟨rfl, rfl⟩
/-- The two lists of starts, in blocks of the call's own. -/
structure RW (w : World) (GC GB n : Nat) (A B : List Int) (wr : World) : Prop where
  bl : Below w.heap.size w wr
  oa : Own wr w.heap.size 3 intv (.slice (some ⟨GC, 0, none⟩) n n) A
  ob : Own wr w.heap.size 3 intv (.slice (some ⟨GB, 0, none⟩) n n) B
  ne : GC ≠ GB
  ga : w.heap.size ≤ GC
  gb : w.heap.size ≤ GB
theorem RW.below {w wr w1 : World} {GC GB n : Nat} {A B : List Int} (h : RW w GC GB n A B wr) (hb : Below wr.heap.size wr w1) : RW w GC GB n A B w1 :=
  ⟨bstep h.bl hb, h.oa.below hb, h.ob.below hb, h.ne, h.ga, h.gb⟩
theorem RW.setA {w wr : World} {GC GB n : Nat} {A B : List Int} (h : RW w GC GB n A B wr) (i : Nat) (y : Int) : RW w GC GB n (A.set i y) B (wr.setCell ⟨GC, i, none⟩ (.int .i64 y)) :=
  ⟨h.bl.setCell (p := ⟨GC, i, none⟩) h.ga _, h.oa.set i y, h.ob.only (only_set wr GC i _) (fun g hg e => by cases hg; cases e; exact h.ne rfl), h.ne, h.ga, h.gb⟩
theorem RW.setB {w wr : World} {GC GB n : Nat} {A B : List Int} (h : RW w GC GB n A B wr) (i : Nat) (y : Int) : RW w GC GB n A (B.set i y) (wr.setCell ⟨GB, i, none⟩ (.int .i64 y)) :=
  ⟨h.bl.setCell (p := ⟨GB, i, none⟩) h.gb _, h.oa.only (only_set wr GB i _) (fun g hg e => by cases hg; cases e; exact h.ne rfl), h.ob.set i y, h.ne, h.ga, h.gb⟩
theorem RW.cellA {w wr : World} {GC GB n i : Nat} {A B : List Int} (h : RW w GC GB n A B wr) (ha : A.length = n) (hi : i < n) : ∃ z, wr.cell? ⟨GC, i, none⟩ = some (.int .i64 z) :=
  ⟨_, h.oa.cell (List.getElem?_eq_getElem (by omega))⟩
theorem RW.cellB {w wr : World} {GC GB n i : Nat} {A B : List Int} (h : RW w GC GB n A B wr) (hb : B.length = n) (hi : i < n) : ∃ z, wr.cell? ⟨GB, i, none⟩ = some (.int .i64 z) :=
  ⟨_, h.ob.cell (List.getElem?_eq_getElem (by omega))⟩
theorem RW.freeA {w wr : World} {GC GB n : Nat} {A B : List Int} (h : RW w GC GB n A B wr) (i : Nat) : wr.frozen? ⟨GC, i, none⟩ = false := h.oa.free i
theorem RW.freeB {w wr : World} {GC GB n : Nat} {A B : List Int} (h : RW w GC GB n A B wr) (i : Nat) : wr.frozen? ⟨GB, i, none⟩ = false := h.ob.free i
theorem RW.start {w : World} {n : Nat} (hn : n ≤ 1099511627776) : RW w w.heap.size (w.heap.size + 1) n (List.replicate n 0) (List.replicate n 0) (((w.alloc (.cells (madeCells #[.int .i64 0] n) 3)).alloc (.cells (madeCells #[.int .i64 0] n) 3)).drew) := by
  have h1 := own_made w 3 intv 0 (.int .i64 0) rfl n hn w.heap.size (Nat.le_refl _)
  obtain ⟨w0, hw0⟩ : ∃ w0, w.alloc (.cells (madeCells #[.int .i64 0] n) 3) = w0 := ⟨_, rfl⟩
  have hb0 : Below w.heap.size w w0 := by rw [← hw0]; exact below_new _ _
  have hs : w0.heap.size = w.heap.size + 1 := by rw [← hw0]; simp
  have h1' : Own w0 w.heap.size 3 intv (.slice (some ⟨w.heap.size, 0, none⟩) n n) (List.replicate n 0) := by rw [← hw0]; exact h1
  have h2 := own_made w0 3 intv 0 (.int .i64 0) rfl n hn w.heap.size hb0.size
  rw [hs] at h2
  have hb1 : Below w0.heap.size w0 (w0.alloc (.cells (madeCells #[.int .i64 0] n) 3)) := below_new _ _
  rw [hw0]
  exact ⟨(bstep hb0 hb1).drew, (show Own (w0.alloc (.cells (madeCells #[.int .i64 0] n) 3)) w.heap.size 3 intv (.slice (some ⟨w.heap.size, 0, none⟩) n n) (List.replicate n 0) from h1'.below hb1), h2, by omega, Nat.le_refl _, by omega⟩
theorem RW.start2 {w : World} {n : Nat} (hn : n ≤ 1099511627776) : RW w (w.heap.size + 1) w.heap.size n (List.replicate n 0) (List.replicate n 0) (((w.alloc (.cells (madeCells #[.int .i64 0] n) 3)).alloc (.cells (madeCells #[.int .i64 0] n) 3)).drew) :=
  ⟨(RW.start hn).bl, (RW.start hn).ob, (RW.start hn).oa, by omega, by omega, Nat.le_refl _⟩
def RPost (l : List WkD) (o : List Nat) (w : World) (e : Ending) (w' : World) : Prop :=
  ∃ G1 G2 A B, e = .returned (.tuple #[.slice (some ⟨G1, 0, none⟩) l.length l.length, .slice (some ⟨G2, 0, none⟩) l.length l.length, .int .i64 (lenJ (cutF l) (bendF l) o)]) ∧
    Below w.heap.size w w' ∧ Own w' w.heap.size 3 intv (.slice (some ⟨G1, 0, none⟩) l.length l.length) A ∧ Own w' w.heap.size 3 intv (.slice (some ⟨G2, 0, none⟩) l.length l.length) B ∧ RunIs (cutF l) (bendF l) o l.length o.length A B
set_option maxHeartbeats 2000000 in
set_option maxRecDepth 100000 in
theorem mrun_any (ao oo : Option Addr) (cap oc : Nat) (l : List WkD) (o : List Nat) (w : World) (hp : Wks w (.slice ao l.length cap) l) (ho : Ints w (.slice oo o.length oc) (ntI o)) (hl : l.length ≤ 12) (hol : o.length ≤ 12) (ht : TmIn l) (hn : o.Nodup) (hb : ∀ i ∈ o, i < l.length) :
    Calls Tryz.prog 23 #[.slice ao l.length cap, .slice oo o.length oc] w (RPost l o w) := by
  have HP := Lib.hid hp
  have HO := Lib.hid ho
  have HT := Lib.hid ht
  have HN := Lib.hid hn
  have HB := Lib.hid hb
  clear hp ho ht hn hb
  have hmk := fun W => run_make_one (P := Tryz.prog) 23 3 8 (.int .i64 0) Tryz.underlying23 (by kernel_rfl) (by omega) l.length (by omega) W
  go_enter Tryz.func23, Tryz.ntmps23
  go_wp2_with fail
  go_region
  · skip
    obtain ⟨w1, hw1⟩ : ∃ w1, ((w.alloc (.cells (madeCells #[.int .i64 0] l.length) 3)).alloc (.cells (madeCells #[.int .i64 0] l.length) 3)).drew = w1 := ⟨_, rfl⟩
    obtain ⟨GC, hGC⟩ : ∃ G, w.heap.size = G := ⟨_, rfl⟩
    obtain ⟨GB, hGB⟩ : ∃ G, w.heap.size + 1 = G := ⟨_, rfl⟩
    have HW : Hid (RW w GC GB l.length (List.replicate l.length 0) (List.replicate l.length 0) w1) := Lib.hid (by
      rw [← hw1, ← hGC, ← hGB]
      exact RW.start (by omega))
    (try rw [hw1])
    (try rw [hGB])
    (try rw [hGC])
    clear hw1 hGC hGB hmk
    go_wp2_with fail
    go_loopw [6, 7, 18] (fun e7 a7 i wr => ∃ (j : Nat) (A B : List Int), j ≤ o.length ∧ i = .int .i64 (j : Int) ∧ a7 = .int .i64 (stC (cutF l) (bendF l) o j) ∧ e7 = .int .i64 (stB (cutF l) (bendF l) o j) ∧ Hid (RW w GC GB l.length A B wr ∧ RunIs (cutF l) (bendF l) o l.length j A B)) (fun _ _ i _ => o.length - (intOf i).toNat)
    case atStart => exact ⟨0, _, _, Nat.zero_le _, rfl, rfl, rfl, Lib.hid ⟨HW.out, RunIs.start _ _ _ _⟩⟩
    case round =>
      clear HW
      obtain ⟨j, A, B, hj, rfl, rfl, rfl, HR⟩ := hrel
      have hbd := st_bd HT.out o j hj
      by_cases hj2 : j < o.length
      · obtain ⟨i, hi⟩ : ∃ i, o[j]? = some i := ⟨_, List.getElem?_eq_getElem hj2⟩
        have hin : i < l.length := HB.out i (List.mem_of_getElem? hi)
        obtain ⟨x, hx⟩ : ∃ x, l[i]? = some x := ⟨_, List.getElem?_eq_getElem hin⟩
        have hst := st_succ (c := cutF l) (b := bendF l) hi
        have htm := tm_in HT.out i
        have HRS := Lib.hid (HR.out.2.step HN.out hi hin)
        have hoi : (ntI o)[j]? = some (i : Int) := by unfold ntI; rw [List.getElem?_map, hi]; rfl
        obtain ⟨bo, oof, rfl, hbo, o0⟩ := zints_get (Sl.below HO.out HR.out.1.bl) hoi
        obtain ⟨b, off, rfl, hbl, d0, e1, e2⟩ := wks_get HP.out hx
        rw [← cutF_at hx] at e1
        rw [← bendF_at hx] at e2
        have d1 := (HR.out.1.bl.cell (p := ⟨b, off + i * 3 + 1, none⟩) hbl).trans e1
        have hbw : b < wr.heap.size := Nat.lt_of_lt_of_le hbl HR.out.1.bl.size
        have j0 : (0 : Int) ≤ (j : Int) := Int.natCast_nonneg _
        have j1 : (j : Int) < (o.length : Int) := by omega
        have i0 : (0 : Int) ≤ (i : Int) := Int.natCast_nonneg _
        have i1 : (i : Int) < (l.length : Int) := by omega
        have hA := HR.out.1.cellA HR.out.2.la hin
        have hB := HR.out.1.cellB HR.out.2.lb hin
        have fA := HR.out.1.freeA i
        have fB := HR.out.1.freeB i
        have HSTC := Lib.hid hst.1
        have HSTB := Lib.hid hst.2
        have htb := (st_bd HT.out o (j + 1) (by omega))
        rw [hst.1, hst.2] at htb
        obtain ⟨za, hA⟩ := hA
        obtain ⟨zb, hB⟩ := hB
        have HNX := Lib.hid (fun (y z : Int) => ((HR.out.1.setA i y).setB i z))
        have hgc := HR.out.1.ga
        have hgb := HR.out.1.gb
        have hne := HR.out.1.ne
        have hlC := (HR.out.1.oa.lt GC rfl).2
        have hlB := (HR.out.1.ob.lt GB rfl).2
        have hbC : ¬ b = GC := by omega
        have hbB : ¬ b = GB := by omega
        clear hi hx hst hoi d0
        generalize stC (cutF l) (bendF l) o j = sc at *
        generalize stB (cutF l) (bendF l) o j = sb at *
        generalize cutF l i = ci at *
        generalize bendF l i = bi at *
        go_wp2_with fail
        have HW2 := Lib.hid (HNX.out sc (max (sc + ci) sb))
        have hB2 : ((wr.setCell ⟨GC, i, none⟩ (.int .i64 sc)).setCell ⟨GB, i, none⟩ (.int .i64 (max (sc + ci) sb))).cell? ⟨GB, i, none⟩ = some (.int .i64 (max (sc + ci) sb)) := HW2.out.ob.cell (List.getElem?_set_self (by rw [HR.out.2.lb]; exact hin))
        clear hA hB fA fB HNX o0 e1 d1 hlC hlB hne hbC hbB
        generalize ((wr.setCell ⟨GC, i, none⟩ (.int .i64 sc)).setCell ⟨GB, i, none⟩ (.int .i64 (max (sc + ci) sb))) = W2 at *
        have y0 := fun dd os => cell_regrown hB2 dd os
        have y1 := fun dd os => cell_regrown ((HW2.out.bl.cell (p := ⟨b, off + i * 3 + 2, none⟩) hbl).trans e2) dd os
        have hlB2 := (HW2.out.ob.lt GB rfl).2
        have hwr : IntKind.i64.wrap (max (sc + ci) sb + bi) = max (sc + ci) sb + bi := IntWalk.i64_in _ (by omega)
        clear hB2 e2
        refine wp_region_quiet_below (by kernel_rfl) (by kernel_rfl) ?_
        repeat (go_big_quiet_step ((first
          | fail)))
        refine wpQuiet_nil ?_
        intro _ hw'
        obtain ⟨⟨nq, osq⟩, hw''⟩ := hw'
        subst hw''
        have HW3 := Lib.hid (HW2.out.below (below_regrown W2 nq osq))
        clear y0 y1 HW2
        generalize Go.Sort.grow (redrawn W2 nq) osq = W3 at *
        go_wp2
        go_roundw
        case rel => exact ⟨j + 1, _, _, by omega, by go_num, congrArg (Value.int .i64) HSTC.out.symm, congrArg (Value.int .i64) HSTB.out.symm, Lib.hid ⟨HW3.out, HRS.out⟩⟩
        case measure => simp [intOf]; omega
      · obtain rfl : j = o.length := by omega
        have HE := Lib.hid (st_len (cutF l) (bendF l) o)
        go_wp2
        go_ret3
        exact ⟨GC, GB, A, B, by rw [← HE.out]; rfl, HR.out.1.bl, HR.out.1.oa, HR.out.1.ob, HR.out.2⟩
  · skip
    obtain ⟨w1, hw1⟩ : ∃ w1, ((w.alloc (.cells (madeCells #[.int .i64 0] l.length) 3)).alloc (.cells (madeCells #[.int .i64 0] l.length) 3)).drew = w1 := ⟨_, rfl⟩
    obtain ⟨GB, hGB⟩ : ∃ G, w.heap.size = G := ⟨_, rfl⟩
    obtain ⟨GC, hGC⟩ : ∃ G, w.heap.size + 1 = G := ⟨_, rfl⟩
    have HW : Hid (RW w GC GB l.length (List.replicate l.length 0) (List.replicate l.length 0) w1) := Lib.hid (by
      rw [← hw1, ← hGC, ← hGB]
      exact RW.start2 (by omega))
    (try rw [hw1])
    (try rw [hGC])
    (try rw [hGB])
    clear hw1 hGC hGB hmk
    go_wp2_with fail
    go_loopw [6, 7, 18] (fun e7 a7 i wr => ∃ (j : Nat) (A B : List Int), j ≤ o.length ∧ i = .int .i64 (j : Int) ∧ a7 = .int .i64 (stC (cutF l) (bendF l) o j) ∧ e7 = .int .i64 (stB (cutF l) (bendF l) o j) ∧ Hid (RW w GC GB l.length A B wr ∧ RunIs (cutF l) (bendF l) o l.length j A B)) (fun _ _ i _ => o.length - (intOf i).toNat)
    case atStart => exact ⟨0, _, _, Nat.zero_le _, rfl, rfl, rfl, Lib.hid ⟨HW.out, RunIs.start _ _ _ _⟩⟩
    case round =>
      clear HW
      obtain ⟨j, A, B, hj, rfl, rfl, rfl, HR⟩ := hrel
      have hbd := st_bd HT.out o j hj
      by_cases hj2 : j < o.length
      · obtain ⟨i, hi⟩ : ∃ i, o[j]? = some i := ⟨_, List.getElem?_eq_getElem hj2⟩
        have hin : i < l.length := HB.out i (List.mem_of_getElem? hi)
        obtain ⟨x, hx⟩ : ∃ x, l[i]? = some x := ⟨_, List.getElem?_eq_getElem hin⟩
        have hst := st_succ (c := cutF l) (b := bendF l) hi
        have htm := tm_in HT.out i
        have HRS := Lib.hid (HR.out.2.step HN.out hi hin)
        have hoi : (ntI o)[j]? = some (i : Int) := by unfold ntI; rw [List.getElem?_map, hi]; rfl
        obtain ⟨bo, oof, rfl, hbo, o0⟩ := zints_get (Sl.below HO.out HR.out.1.bl) hoi
        obtain ⟨b, off, rfl, hbl, d0, e1, e2⟩ := wks_get HP.out hx
        rw [← cutF_at hx] at e1
        rw [← bendF_at hx] at e2
        have d1 := (HR.out.1.bl.cell (p := ⟨b, off + i * 3 + 1, none⟩) hbl).trans e1
        have hbw : b < wr.heap.size := Nat.lt_of_lt_of_le hbl HR.out.1.bl.size
        have j0 : (0 : Int) ≤ (j : Int) := Int.natCast_nonneg _
        have j1 : (j : Int) < (o.length : Int) := by omega
        have i0 : (0 : Int) ≤ (i : Int) := Int.natCast_nonneg _
        have i1 : (i : Int) < (l.length : Int) := by omega
        have hA := HR.out.1.cellA HR.out.2.la hin
        have hB := HR.out.1.cellB HR.out.2.lb hin
        have fA := HR.out.1.freeA i
        have fB := HR.out.1.freeB i
        have HSTC := Lib.hid hst.1
        have HSTB := Lib.hid hst.2
        have htb := (st_bd HT.out o (j + 1) (by omega))
        rw [hst.1, hst.2] at htb
        obtain ⟨za, hA⟩ := hA
        obtain ⟨zb, hB⟩ := hB
        have HNX := Lib.hid (fun (y z : Int) => ((HR.out.1.setA i y).setB i z))
        have hgc := HR.out.1.ga
        have hgb := HR.out.1.gb
        have hne := HR.out.1.ne
        have hlC := (HR.out.1.oa.lt GC rfl).2
        have hlB := (HR.out.1.ob.lt GB rfl).2
        have hbC : ¬ b = GC := by omega
        have hbB : ¬ b = GB := by omega
        clear hi hx hst hoi d0
        generalize stC (cutF l) (bendF l) o j = sc at *
        generalize stB (cutF l) (bendF l) o j = sb at *
        generalize cutF l i = ci at *
        generalize bendF l i = bi at *
        go_wp2_with fail
        have HW2 := Lib.hid (HNX.out sc (max (sc + ci) sb))
        have hB2 : ((wr.setCell ⟨GC, i, none⟩ (.int .i64 sc)).setCell ⟨GB, i, none⟩ (.int .i64 (max (sc + ci) sb))).cell? ⟨GB, i, none⟩ = some (.int .i64 (max (sc + ci) sb)) := HW2.out.ob.cell (List.getElem?_set_self (by rw [HR.out.2.lb]; exact hin))
        clear hA hB fA fB HNX o0 e1 d1 hlC hlB hne hbC hbB
        generalize ((wr.setCell ⟨GC, i, none⟩ (.int .i64 sc)).setCell ⟨GB, i, none⟩ (.int .i64 (max (sc + ci) sb))) = W2 at *
        have y0 := fun dd os => cell_regrown hB2 dd os
        have y1 := fun dd os => cell_regrown ((HW2.out.bl.cell (p := ⟨b, off + i * 3 + 2, none⟩) hbl).trans e2) dd os
        have hlB2 := (HW2.out.ob.lt GB rfl).2
        have hwr : IntKind.i64.wrap (max (sc + ci) sb + bi) = max (sc + ci) sb + bi := IntWalk.i64_in _ (by omega)
        clear hB2 e2
        refine wp_region_quiet_below (by kernel_rfl) (by kernel_rfl) ?_
        repeat (go_big_quiet_step ((first
          | fail)))
        refine wpQuiet_nil ?_
        intro _ hw'
        obtain ⟨⟨nq, osq⟩, hw''⟩ := hw'
        subst hw''
        have HW3 := Lib.hid (HW2.out.below (below_regrown W2 nq osq))
        clear y0 y1 HW2
        generalize Go.Sort.grow (redrawn W2 nq) osq = W3 at *
        go_wp2
        go_roundw
        case rel => exact ⟨j + 1, _, _, by omega, by go_num, congrArg (Value.int .i64) HSTC.out.symm, congrArg (Value.int .i64) HSTB.out.symm, Lib.hid ⟨HW3.out, HRS.out⟩⟩
        case measure => simp [intOf]; omega
      · obtain rfl : j = o.length := by omega
        have HE := Lib.hid (st_len (cutF l) (bendF l) o)
        go_wp2
        go_ret3
        exact ⟨GC, GB, A, B, by rw [← HE.out]; rfl, HR.out.1.bl, HR.out.1.oa, HR.out.1.ob, HR.out.2⟩
end
end Go.Proofs.YtejcgjdfajppgaaGreatDoor
