/-
  Directed graphs: reach, walked.
-/
import Derived.Test.YthhhcaleoiopgaaRcP
import Derived.Test.YthhhcaleoiopgaaNxt
import Derived.Deep.RegionHeld
import Derived.Laws.EntriesVeiled
namespace Go.Proofs.Ythhhcaleoiopgaa
open Go.RowKit
set_option linter.unusedVariables false
attribute [local go_sem ↓] Go.wp_at_zero Go.wp_at_succ

/-- The world of the recursion: but for the flags' block all lies as it lay. -/
structure VS (w Wb : World) (n : Nat) (R : List Bool) (W : World) : Prop where
  base : Wb.grownBy W (some (w.heap.size + 1))
  own : Own W (w.heap.size + 1) 4 boolf (.slice (some ⟨w.heap.size + 1, 0, none⟩) n n) R
theorem VS.set {w Wb W : World} {n : Nat} {R : List Bool} (h : VS w Wb n R W) (i : Nat) (x : Bool) : VS w Wb n (R.set i x) (W.setCell ⟨w.heap.size + 1, i, none⟩ (.bool x)) :=
  ⟨only_trans h.base (only_set W (w.heap.size + 1) i _), h.own.set i x⟩
structure VB (w Wb : World) (n : Nat) (es : List (Nat × Nat)) (ao : Option Addr) (cap : Nat) : Prop where
  n_le : n ≤ 60
  ends : EndsD n es
  rows : Rows w (.slice ao n cap) (nxS n es)
  low : Below w.heap.size w Wb
  sz : Wb.heap.size = w.heap.size + 4
  c2 : Wb.cell? ⟨w.heap.size, 0, none⟩ = some (.slice ao n cap)
  c5 : Wb.cell? ⟨w.heap.size + 1 + 1, 0, none⟩ = some (.slice (some ⟨w.heap.size + 1, 0, none⟩) n n)
  c6 : Wb.cell? ⟨w.heap.size + 1 + 1 + 1, 0, none⟩ = some (.func (.func 65) #[] #[.pointer (some ⟨w.heap.size + 1 + 1, 0, none⟩), .pointer (some ⟨w.heap.size, 0, none⟩), .pointer (some ⟨w.heap.size + 1 + 1 + 1, 0, none⟩)])
def VisPost (w Wb : World) (n : Nat) (es : List (Nat × Nat)) (i : Nat) (R : List Bool) (e : Ending) (w' : World) : Prop :=
  ∃ R', e = .returned (.tuple #[]) ∧ VisRel es i R R' ∧ VS w Wb n R' w'

set_option maxRecDepth 100000 in
set_option maxHeartbeats 2000000 in
theorem visit_any (w Wb : World) (n : Nat) (es : List (Nat × Nat)) (ao : Option Addr) (cap : Nat) (hV : VB w Wb n es ao cap) : ∀ (m : Nat) (R : List Bool) (i : Nat) (W : World), falses R ≤ m → R.length = n → i < n → VS w Wb n R W →
    Calls Try.prog 65 #[.int .i64 (i : Int), .pointer (some ⟨w.heap.size + 1 + 1, 0, none⟩), .pointer (some ⟨w.heap.size, 0, none⟩), .pointer (some ⟨w.heap.size + 1 + 1 + 1, 0, none⟩)] W (VisPost w Wb n es i R) := by
  intro m
  induction m with
  | zero =>
    intro R i W hf hR hi hW
    have hsz := hV.sz
    have hn60 := hV.n_le
    have f5 := (hW.base.cell_far ⟨w.heap.size + 1 + 1, 0, none⟩ (by simp [hsz]) (by simp)).trans hV.c5
    obtain ⟨b, hb⟩ : ∃ b, R[i]? = some b := ⟨_, List.getElem?_eq_getElem (by omega)⟩
    have hbt : b = true := by
      cases b
      · have := falses_set R i hb; omega
      · rfl
    subst hbt
    have c1 := hW.own.cell hb
    unfold boolf at c1
    have i0 : (0 : Int) ≤ (i : Int) := Int.natCast_nonneg _
    have i1 : (i : Int) < (n : Int) := by omega
    have HR := Lib.hid (VisRel.old (es := es) hb)
    have HW := Lib.hid hW
    clear hb hW hV hR
    go_enter Try.func65, Try.ntmps65
    go_wp2
    refine bodyPost_ret (results_none rfl _ _ _) rfl ?_
    exact ⟨R, rfl, HR.out, HW.out⟩
  | succ m ih =>
    intro R i W hf hR hi hW
    have hsz := hV.sz
    have hn60 := hV.n_le
    have HIH := Lib.hid ih
    have HV := Lib.hid hV
    obtain ⟨b, hb⟩ : ∃ b, R[i]? = some b := ⟨_, List.getElem?_eq_getElem (by omega)⟩
    have c1 := hW.own.cell hb
    unfold boolf at c1
    have c1f := hW.own.free i
    have hfar : ∀ (Y : World) S, VS w Wb n S Y → ∀ q : Addr, q.block < Wb.heap.size → q.block ≠ w.heap.size + 1 → Y.cell? q = Wb.cell? q := fun Y S h q h1 h2 => h.base.cell_far q h1 (by simpa using h2)
    have HF := Lib.hid hfar
    have f5 := (hfar W R hW ⟨w.heap.size + 1 + 1, 0, none⟩ (by simp [hsz]) (by simp)).trans hV.c5
    have i0 : (0 : Int) ≤ (i : Int) := Int.natCast_nonneg _
    have i1 : (i : Int) < (n : Int) := by omega
    have hgl := (hW.own.lt (w.heap.size + 1) rfl).2
    have HW := Lib.hid hW
    have HB := Lib.hid hb
    have HF0 := Lib.hid hf
    have HRL := Lib.hid hR
    cases b
    · obtain ⟨W1, hW1⟩ : ∃ W1, W.setCell ⟨w.heap.size + 1, i, none⟩ (.bool true) = W1 := ⟨_, rfl⟩
      have HW1 := Lib.hid (hW.set i true)
      rw [hW1] at HW1
      have HM1 := Lib.hid (MidRel.start (es := es) (l := nextsS n es i) hb)
      have f2 := (hfar W1 _ HW1.out ⟨w.heap.size, 0, none⟩ (by simp [hsz]) (by simp)).trans hV.c2
      obtain ⟨rb, roff, hrx, hrlt, ro, rc, c0, hnr⟩ := rows_get hV.rows (nxS_get es hi)
      cases hrx
      have f3 := (hfar W1 _ HW1.out ⟨rb, roff + i, none⟩ (by simp [hsz]; omega) (by simp; omega)).trans ((hV.low.cell (p := ⟨rb, roff + i, none⟩) hrlt).trans c0)
      have HNR := Lib.hid hnr
      have hrl := nextsS_len n es i
      clear hb hf hR hW hV ih hfar c0 hnr
      go_enter Try.func65, Try.ntmps65
      go_wp2
      clear c1 c1f f5 f2 f3
      go_loopw [6, 19] (fun _ s19 wr => ∃ (t : Nat) (S : List Bool), t ≤ (nextsS n es i).length ∧ s19 = .int .i64 (t : Int) ∧ Hid (VS w Wb n S wr ∧ MidRel es (nextsS n es i) i R t S)) (fun _ s19 _ => (nextsS n es i).length - (intOf s19).toNat)
      case atStart => exact ⟨0, _, Nat.zero_le _, rfl, HW1.out, HM1.out⟩
      case round =>
        clear HM1 HW1
        obtain ⟨t, S, ht, rfl, H⟩ := hrel
        by_cases htl : t < (nextsS n es i).length
        · obtain ⟨k, hk⟩ : ∃ k, (nextsS n es i)[t]? = some k := ⟨_, List.getElem?_eq_getElem htl⟩
          have hkm := nextsS_mem.1 (List.mem_of_getElem? hk)
          obtain ⟨b3, off3, rfl, hb3, hc3⟩ := nats_get HNR.out hk
          have g3 := (HF.out wr S H.out.1 ⟨b3, off3 + t, none⟩ (by simp [hsz]; omega) (by simp; omega)).trans ((HV.out.low.cell (p := ⟨b3, off3 + t, none⟩) hb3).trans hc3)
          have g6 := (HF.out wr S H.out.1 ⟨w.heap.size + 1 + 1 + 1, 0, none⟩ (by simp [hsz]) (by simp; omega)).trans HV.out.c6
          have hSl : S.length = n := by rw [H.out.2.len]; exact HRL.out
          have hfs : falses S ≤ m := by
            have h1 := falses_set R i HB.out
            have h2 := falses_mono (R.set i true) S (by rw [hSl, List.length_set]; exact HRL.out.symm) (fun x hx => by
              by_cases e : i = x
              · subst e; exact H.out.2.at_
              · rw [List.getElem?_set_ne e] at hx; exact H.out.2.keep x hx)
            have := HF0.out
            omega
          have HC := Lib.hid (HIH.out S k wr hfs hSl hkm.1 H.out.1)
          have HNX := Lib.hid (fun S' (v : VisRel es k S S') => H.out.2.next hk hkm.2 v)
          clear hk hc3 hkm hfs hSl
          go_wp2_with fail
          refine HC.out.mono ?_
          rintro e w9 ⟨S', rfl, hvr, hvs⟩
          have HN := Lib.hid (And.intro hvs (HNX.out S' hvr))
          clear hvr hvs
          go_wp2
          go_roundw
          case rel => exact ⟨t + 1, S', by omega, by go_num, HN.out⟩
          case measure => simp [intOf]; omega
        · have HD := Lib.hid (H.out.2.done (by omega) (fun y hy => nextsS_mem.2 ⟨(HV.out.ends.mem hy).2, hy⟩))
          go_wp2
          go_end0
          exact ⟨S, rfl, HD.out, H.out.1⟩
    · have HR := Lib.hid (VisRel.old (es := es) hb)
      clear hb hf hR hW hV ih hfar
      go_enter Try.func65, Try.ntmps65
      go_wp2
      refine bodyPost_ret (results_none rfl _ _ _) rfl ?_
      exact ⟨R, rfl, HR.out, HW.out⟩

def ReachPost (w : World) (n : Nat) (es : List (Nat × Nat)) (i : Nat) (e : Ending) (w' : World) : Prop :=
  ∃ u, e = .returned u ∧ Own w' w.heap.size 4 boolf u (fl n (reaB es i)) ∧ Below w.heap.size w w'

set_option maxRecDepth 100000 in
set_option maxHeartbeats 2000000 in
theorem reach_any (w : World) (n i : Nat) (es : List (Nat × Nat)) (V : Value) (hn : n ≤ 60) (he : EndsD n es) (hi : i < n) (hr : Rows w V (nxS n es)) :
    Calls Try.prog 55 #[V, .int .i64 (i : Int)] w (ReachPost w n es i) := by
  obtain ⟨ao, cap, rfl⟩ := hr.at
  rw [nxS_len] at hr ⊢
  have hmk := fun W => run_make_one (P := Try.prog) 54 4 1 (.bool false) Try.underlying54 (by kernel_rfl) (by omega) n (by omega) W
  obtain ⟨W5, hW5⟩ : ∃ W5, (((w.alloc (.cells #[.slice ao n cap] 48)).alloc (.cells (madeCells #[Value.bool false] n) 4)).alloc (.cells #[.slice (some ⟨w.heap.size + 1, 0, none⟩) n n] 54)).alloc (.cells #[.nilFunc] 84) = W5 := ⟨_, rfl⟩
  have hs5 : W5.heap.size = w.heap.size + 4 := by rw [← hW5]; simp
  have b5 : Below w.heap.size w W5 := by rw [← hW5]; exact (((below_new w _).alloc (by simp) _).alloc (by simp; omega) _).alloc (by simp; omega) _
  have k2 : W5.cell? ⟨w.heap.size, 0, none⟩ = some (.slice ao n cap) := by
    rw [← hW5]
    rw [World.cell?_alloc_lt _ _ _ (by simp; omega), World.cell?_alloc_lt _ _ _ (by simp; omega), World.cell?_alloc_lt _ _ _ (by simp), World.cell?_alloc_at _ _ _ _ rfl]; rfl
  have k5 : W5.cell? ⟨w.heap.size + 1 + 1, 0, none⟩ = some (.slice (some ⟨w.heap.size + 1, 0, none⟩) n n) := by
    rw [← hW5]
    rw [World.cell?_alloc_lt _ _ _ (by simp), World.cell?_alloc_at _ _ _ _ (by simp)]; rfl
  have hh6 : W5.heap[w.heap.size + 1 + 1 + 1]? = some (.cells #[.nilFunc] 84 (0, 0)) := by
    rw [← hW5]
    have := heap_alloc_new (((w.alloc (.cells #[.slice ao n cap] 48)).alloc (.cells (madeCells #[Value.bool false] n) 4)).alloc (.cells #[.slice (some ⟨w.heap.size + 1, 0, none⟩) n n] 54)) (.cells #[.nilFunc] 84)
    simpa using this
  have k6 : W5.cell? ⟨w.heap.size + 1 + 1 + 1, 0, none⟩ = some .nilFunc := by simp [World.cell?, hh6]
  have k7 : W5.frozen? ⟨w.heap.size + 1 + 1 + 1, 0, none⟩ = false := by simp [World.frozen?, hh6]
  have HO5 : Hid (Own W5 (w.heap.size + 1) 4 boolf (.slice (some ⟨w.heap.size + 1, 0, none⟩) n n) (List.replicate n false)) := by
    rw [← hW5]
    have h1 := own_made (w.alloc (.cells #[.slice ao n cap] 48)) 4 boolf false (.bool false) rfl n (by omega) (w.heap.size + 1) (by simp)
    have e1 : (w.alloc (.cells #[.slice ao n cap] 48)).heap.size = w.heap.size + 1 := by simp
    rw [e1] at h1
    exact (h1.alloc _).alloc _
  obtain ⟨fv, hfv⟩ : ∃ fv, Value.func (.func 65) #[] #[.pointer (some ⟨w.heap.size + 1 + 1, 0, none⟩), .pointer (some ⟨w.heap.size, 0, none⟩), .pointer (some ⟨w.heap.size + 1 + 1 + 1, 0, none⟩)] = fv := ⟨_, rfl⟩
  obtain ⟨Wb, hWb⟩ : ∃ Wb, W5.setCell ⟨w.heap.size + 1 + 1 + 1, 0, none⟩ fv = Wb := ⟨_, rfl⟩
  have HVB : Hid (VB w Wb n es ao cap) := by
    refine ⟨hn, he, hr, ?_, ?_, ?_, ?_, ?_⟩
    · rw [← hWb]; exact b5.setCell (p := ⟨w.heap.size + 1 + 1 + 1, 0, none⟩) (by show w.heap.size ≤ w.heap.size + 1 + 1 + 1; omega) _
    · rw [← hWb]; simpa using hs5
    · rw [← hWb, World.cell?_setCell_far _ _ _ _ (by simp; omega)]; exact k2
    · rw [← hWb, World.cell?_setCell_far _ _ _ _ (by simp)]; exact k5
    · rw [← hWb, hfv]
      exact World.cell?_setCell_same' _ _ _ (by rw [k6]; rfl)
  have HVS : Hid (VS w Wb n (List.replicate n false) Wb) := by
    refine ⟨only_refl _ _, ?_⟩
    rw [← hWb]
    exact HO5.out.only (only_set W5 (w.heap.size + 1 + 1 + 1) 0 fv) (fun g e e2 => by
      have h1 : w.heap.size + 1 = g := Option.some.inj e
      have h2 : g = w.heap.size + 1 + 1 + 1 := Option.some.inj e2
      omega)
  have HC := Lib.hid (visit_any w Wb n es ao cap HVB.out _ (List.replicate n false) i Wb (Nat.le_refl _) (by simp) hi HVS.out)
  have c6 := HVB.out.c6
  rw [← hfv] at hWb
  clear hr he hfv b5 hh6 HO5
  go_enter Try.func55, Try.ntmps55
  go_wp2_with fail
  refine HC.out.mono ?_
  rintro e w9 ⟨R, rfl, hvr, hvs⟩
  have hfar := (hvs.base.cell_far ⟨w.heap.size + 1 + 1, 0, none⟩ (by simp [HVB.out.sz]) (by simp)).trans HVB.out.c5
  have HR : Hid (Own w9 w.heap.size 4 boolf (.slice (some ⟨w.heap.size + 1, 0, none⟩) n n) (fl n (reaB es i)) ∧ Below w.heap.size w w9) := by
    refine ⟨?_, below_grown HVB.out.low hvs.base (by have := HVB.out.sz; omega) (fun g e => by cases e; omega)⟩
    rw [← hvr.all]
    exact hvs.own.mono (by omega)
  clear hvr hvs
  go_wp2
  go_ret
  exact ⟨_, rfl, HR.out.1, HR.out.2⟩
end Go.Proofs.Ythhhcaleoiopgaa
