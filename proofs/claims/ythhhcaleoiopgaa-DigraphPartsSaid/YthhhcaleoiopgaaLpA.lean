/-
  Directed graphs: Loop, walked.
-/
import Derived.Test.YthhhcaleoiopgaaFaW
import Derived.Test.YthhhcaleoiopgaaLpP
import Derived.Test.YthhhcaleoiopgaaIfn
import Derived.Test.YthhhcaleoiopgaaApp
namespace Go.Proofs.Ythhhcaleoiopgaa
open Go.RowKit
set_option linter.unusedVariables false
attribute [local go_sem ↓] Go.wp_at_zero Go.wp_at_succ

set_option maxHeartbeats 400000 in
theorem loopFn_any (X8 X9 GA n capA k : Nat) (z m : Int) (w : World) (h8 : w.cell? ⟨X8, 0, none⟩ = some (.slice (some ⟨GA, 0, none⟩) n capA)) (h9 : w.cell? ⟨X9, 0, none⟩ = some (.int .i64 m)) (hc : w.cell? ⟨GA, k, none⟩ = some (.int .i64 z)) (hk : k < n) (hn : n ≤ 100000) :
    Calls Try.prog 57 #[.int .i64 (k : Int), .pointer (some ⟨X8, 0, none⟩), .pointer (some ⟨X9, 0, none⟩)] w fun e w' => e = .returned (.bool (z == m)) ∧ Below w.heap.size w w' := by
  have k0 : (0 : Int) ≤ (k : Int) := Int.natCast_nonneg _
  have k1 : (k : Int) < (n : Int) := by omega
  by_cases hz : z = m
  · have e := beq_yes hz
    go_enter Try.func57, Try.ntmps57
    go_wp2
    go_quiet (fail)
    go_wp2
    go_ret
    exact ⟨ret_bool e.symm, bdraw _⟩
  · have e := beq_no hz
    go_enter Try.func57, Try.ntmps57
    go_wp2
    go_quiet (fail)
    go_wp2
    go_ret
    exact ⟨ret_bool e.symm, bdraw _⟩

theorem loopIdx (X8 X9 GA n capA : Nat) (A : List Int) (m : Int) (l : List Nat) (v : Value) (w : World) (h8 : w.cell? ⟨X8, 0, none⟩ = some (.slice (some ⟨GA, 0, none⟩) n capA)) (h9 : w.cell? ⟨X9, 0, none⟩ = some (.int .i64 m))
    (hc : ∀ k z, A[k]? = some z → w.cell? ⟨GA, k, none⟩ = some (.int .i64 z)) (h8l : X8 < w.heap.size) (h9l : X9 < w.heap.size) (hgl : GA < w.heap.size) (hA : A.length = n) (hn : n ≤ 100000) (hl : Nats w v l) (hll : l.length ≤ 100000) (hk : ∀ k ∈ l, k < n)
    (j k : Nat) (hj : l[j]? = some k) (hp : ofList A k = m) (hno : ∀ (i y : Nat), i < j → l[i]? = some y → ofList A y ≠ m) :
    Calls Try.prog 47 #[v, .func (.func 57) #[] #[.pointer (some ⟨X8, 0, none⟩), .pointer (some ⟨X9, 0, none⟩)]] w fun e w' => e = .returned (.int .i64 (j : Int)) ∧ Below w.heap.size w w' := by
  have hpr : IntPred 57 #[.pointer (some ⟨X8, 0, none⟩), .pointer (some ⟨X9, 0, none⟩)] (fun x => ofList A x.toNat == m) (l.map fun k : Nat => (k : Int)) w := by
    refine ⟨fun xs W => by rfl, fun x W hx hW => ?_⟩
    obtain ⟨k', hk', rfl⟩ := List.mem_map.1 hx
    obtain ⟨z, hz⟩ : ∃ z, A[k']? = some z := ⟨_, List.getElem?_eq_getElem (by have := hk k' hk'; omega)⟩
    have := loopFn_any X8 X9 GA n capA k' z m W ((hW.cell (p := ⟨X8, 0, none⟩) h8l).trans h8) ((hW.cell (p := ⟨X9, 0, none⟩) h9l).trans h9) ((hW.cell (p := ⟨GA, k', none⟩) hgl).trans (hc k' z hz)) (hk k' hk') hn
    simp only [Int.toNat_natCast]
    rw [ofList_get hz]
    exact this
  refine (indexInts_any _ _ _ v _ w hl.ints (by simp; omega) hpr).mono ?_
  rintro e w' ⟨⟨i, rfl, hi⟩, hb⟩
  have := hi.is (j := j) (x := (k : Int)) (by rw [List.getElem?_map, hj]; rfl) (by simpa using hp) (fun q y hq hy => by
    rw [List.getElem?_map] at hy
    obtain ⟨y', hy', rfl⟩ := Option.map_eq_some_iff.1 hy
    simpa using hno q y' hq hy')
  subst this
  exact ⟨rfl, hb⟩

structure LP (W4 : World) (X9 : Nat) (m : Int) (v : Value) (out : List Nat) (wr : World) : Prop where
  low : Below X9 W4 wr
  box : wr.heap[X9]? = some (.cells #[.int .i64 m] 3 (0, 0))
  out_ : Own wr (X9 + 1) 3 natf v out
theorem LP.lt {W4 : World} {X9 : Nat} {m : Int} {v : Value} {out : List Nat} {wr : World} (h : LP W4 X9 m v out wr) : X9 < wr.heap.size := (Array.getElem?_eq_some_iff.1 h.box).1
theorem LP.cell {W4 : World} {X9 : Nat} {m : Int} {v : Value} {out : List Nat} {wr : World} (h : LP W4 X9 m v out wr) : wr.cell? ⟨X9, 0, none⟩ = some (.int .i64 m) := by simp [World.cell?, h.box]
theorem LP.free {W4 : World} {X9 : Nat} {m : Int} {v : Value} {out : List Nat} {wr : World} (h : LP W4 X9 m v out wr) : wr.frozen? ⟨X9, 0, none⟩ = false := by simp [World.frozen?, h.box]
theorem LP.set {W4 : World} {X9 : Nat} {m : Int} {v : Value} {out : List Nat} {wr : World} (h : LP W4 X9 m v out wr) (m' : Int) : LP W4 X9 m' v out (wr.setCell ⟨X9, 0, none⟩ (.int .i64 m')) := by
  refine ⟨h.low.setCell (p := ⟨X9, 0, none⟩) (Nat.le_refl _) _, ?_, h.out_.only (only_set wr X9 0 (.int .i64 m')) (fun g hg e => ?_)⟩
  · have := heap_setCell_same wr X9 0 _ _ (.int .i64 m') h.box
    simpa using this
  · injection e with e
    have := (h.out_.lt g hg).1
    omega
theorem LP.push {W4 : World} {X9 : Nat} {m : Int} {v v' : Value} {out out' : List Nat} {wr w3 : World} (h : LP W4 X9 m v out wr) (ho : Own w3 (X9 + 1) 3 natf v' out') (hg : wr.grownBy w3 v.ownBlock) : LP W4 X9 m v' out' w3 := by
  have hl := h.lt
  refine ⟨below_grown h.low hg (by omega) (fun g e => by have := (h.out_.lt g e).1; omega), ?_, ho⟩
  rw [hg.block X9 hl (fun e => by have := (h.out_.lt _ e.symm).1; omega)]
  exact h.box
theorem LP.below {W4 : World} {X9 : Nat} {m : Int} {v : Value} {out : List Nat} {wr w3 : World} (h : LP W4 X9 m v out wr) (hb : Below wr.heap.size wr w3) : LP W4 X9 m v out w3 := by
  have hl := h.lt
  exact ⟨h.low.trans (hb.mono (by omega)), (hb.block X9 hl).trans h.box, h.out_.below hb⟩
theorem LP.draw {W4 : World} {X9 : Nat} {m : Int} {v : Value} {out : List Nat} {wr : World} (h : LP W4 X9 m v out wr) (q : Nat) : LP W4 X9 m v out (wr.drewN q) := h.below (bdraw q)

def LoopPost (w : World) (n : Nat) (es : List (Nat × Nat)) (e : Ending) (w' : World) : Prop :=
  (match loopOf n es with
    | some L => ∃ v, e = .returned (.tuple #[v, .int .i64 0]) ∧ Own w' w.heap.size 3 natf v L
    | none => e = .returned (.tuple #[.slice none 0 0, .int .i64 12])) ∧ Below w.heap.size w w'

set_option maxRecDepth 100000 in
set_option maxHeartbeats 4000000 in
theorem loop_any (n : Nat) (v : Value) (es : List (Nat × Nat)) (w : World) (hg : Dg w n v es) :
    Calls Try.prog 29 #[.int .i64 (n : Int), v] w (LoopPost w n es) := by
  have hn := hg.n_le
  have HG := Lib.hid hg
  have HVL := Lib.hid (dvalid_any (n : Int) v (cst es) w hg.pairs (by rw [cst_len]; have := hg.m_le; omega))
  rw [hg.ok] at HVL
  obtain ⟨eao, ecap, rfl, _⟩ := HG.out.pairs.open_
  clear hg
  go_enter Try.func29, Try.ntmps29
  go_wp2_with fail
  refine HVL.out.mono ?_
  rintro e w1 ⟨rfl, hB1⟩
  have HNX := Lib.hid (nexts_any n _ es w1 (HG.out.below hB1))
  clear HVL
  go_wp2_with fail
  refine HNX.out.mono ?_
  rintro e w2 ⟨⟨V, rfl, hM⟩, hB2⟩
  obtain ⟨ao, cap, rfl⟩ := hM.rows.at
  rw [nxS_len]
  have hR := hM.rows
  rw [nxS_len] at hR
  have HR := Lib.hid hR
  have hB := bstep hB1 hB2
  clear HNX hM hR hB1 hB2
  go_wp2_with fail
  go_loopw [7, 22] (fun _ s22 wr => ∃ s : Nat, s ≤ n ∧ s22 = .int .i64 (s : Int) ∧ Hid (loopFrom n es s = none ∧ Below w2.heap.size w2 wr)) (fun _ s22 _ => n - (intOf s22).toNat)
  case atStart => exact ⟨0, Nat.zero_le _, rfl, rfl, Below.refl _ _⟩
  case round =>
    obtain ⟨s, hs, rfl, H⟩ := hrel
    by_cases hlt : s < n
    · have HFA := Lib.hid (far_any n s (.slice ao n cap) es wr hn HG.out.ends hlt (HR.out.below H.out.2))
      obtain ⟨rb, roff, hrx, hrlt, ro, rc, c0, hnr⟩ := rows_get HR.out (nxS_get es hlt)
      cases hrx
      have hrl := nextsS_len n es s
      have s0 : (0 : Int) ≤ (s : Int) := Int.natCast_nonneg _
      have s1 : (s : Int) < (n : Int) := by omega
      obtain ⟨wa, rfl⟩ : ∃ wa : World, wa = wr := ⟨_, rfl⟩
      have HNR := Lib.hid hnr
      clear hnr
      go_wp2_with fail
      refine HFA.out.mono ?_
      rintro e w3 ⟨⟨u, A, rfl, hown, hlen, hfar, hbd⟩, hB3⟩
      obtain ⟨GA, capA, rfl, g1, g2, g3⟩ := hown.form (by omega)
      rw [hlen] at hown ⊢
      have HD := Lib.hid (farD_eq hfar)
      have HFAR := Lib.hid hfar
      have HBD := Lib.hid hbd
      obtain ⟨W4, hW4⟩ : ∃ W4, (w3.alloc (.cells #[.slice (some ⟨GA, 0, none⟩) n capA] 23)).alloc (.cells #[.int .i64 (-1)] 3) = W4 := ⟨_, rfl⟩
      obtain ⟨X8, hX8⟩ : ∃ X8, w3.heap.size = X8 := ⟨_, rfl⟩
      have hsz4 : W4.heap.size = X8 + 2 := by rw [← hW4, ← hX8]; simp
      have HLP : Hid (LP W4 (X8 + 1) (-1) (.slice none 0 0) [] W4) := by
        refine ⟨Below.refl _ _, ?_, Own.nil _ _ _ _⟩
        rw [← hW4, ← hX8]
        have := heap_alloc_new (w3.alloc (.cells #[.slice (some ⟨GA, 0, none⟩) n capA] 23)) (.cells #[.int .i64 (-1)] 3)
        simpa using this
      have hGX : GA < X8 := by rw [← hX8]; exact (hown.lt GA rfl).2
      have H8 : Hid (W4.cell? ⟨X8, 0, none⟩ = some (.slice (some ⟨GA, 0, none⟩) n capA)) := by
        rw [← hW4, ← hX8]
        rw [World.cell?_alloc_lt _ _ _ (by simp), World.cell?_alloc_at _ _ _ _ rfl]; rfl
      have HA : Hid (∀ k z, A[k]? = some z → W4.cell? ⟨GA, k, none⟩ = some (.int .i64 z)) := by
        intro k z hz
        rw [← hW4]
        exact ((hown.alloc _).alloc _).cell hz
      have hB34 : Below w3.heap.size w3 W4 := by rw [← hW4]; exact (below_new _ _).alloc (by simp) _
      have HB4 : Hid (Below w2.heap.size w2 W4) := bstep (bstep H.out.2 hB3) hB34
      have hrx4 := (bstep hB3 hB34).size
      have c1 : (w3.alloc (.cells #[.slice (some ⟨GA, 0, none⟩) n capA] 23)).cell? ⟨rb, roff + s, none⟩ = some (.slice ro (nextsS n es s).length rc) := by
        have hlt3 := (bstep H.out.2 hB3).size
        exact (World.cell?_alloc_lt w3 _ ⟨rb, roff + s, none⟩ (by simp; omega)).trans (((bstep H.out.2 hB3).cell (p := ⟨rb, roff + s, none⟩) hrlt).trans c0)
      have c2 : W4.cell? ⟨rb, roff + s, none⟩ = some (.slice ro (nextsS n es s).length rc) := (HB4.out.cell (p := ⟨rb, roff + s, none⟩) hrlt).trans c0
      clear hown hfar hbd HFA c0 c1
      go_wp2_with fail
      clear c2 hW4
      go_loopw [11, 33] (fun _ s33 wr => ∃ t : Nat, t ≤ (nextsS n es s).length ∧ s33 = .int .i64 (t : Int) ∧ Hid (LP W4 (X8 + 1) (leastM (ofList A) ((nextsS n es s).take t)) (.slice none 0 0) [] wr)) (fun _ s33 _ => (nextsS n es s).length - (intOf s33).toNat)
      case atStart => exact ⟨0, Nat.zero_le _, rfl, HLP.out⟩
      case round =>
        clear HLP
        obtain ⟨t, ht, rfl, HT⟩ := hrel
        by_cases htl : t < (nextsS n es s).length
        · obtain ⟨k, hk⟩ : ∃ k, (nextsS n es s)[t]? = some k := ⟨_, List.getElem?_eq_getElem htl⟩
          have hkn : k < n := (nextsS_mem.1 (List.mem_of_getElem? hk)).1
          obtain ⟨b3, off3, rfl, hb3, hc3⟩ := nats_get HNR.out hk
          have hX2 := HB4.out.size
          have hbx : b3 < X8 + 1 := by have := (bstep H.out.2 hB3).size; omega
          have d1 := (HT.out.low.cell (p := ⟨b3, off3 + t, none⟩) hbx).trans ((HB4.out.cell (p := ⟨b3, off3 + t, none⟩) hb3).trans hc3)
          have d2 := (HT.out.low.cell (p := ⟨X8, 0, none⟩) (by simp)).trans H8.out
          obtain ⟨z, hz⟩ : ∃ z, A[k]? = some z := ⟨_, List.getElem?_eq_getElem (by omega)⟩
          have d3 := (HT.out.low.cell (p := ⟨GA, k, none⟩) (by simp; omega)).trans (HA.out k z hz)
          have d4 := HT.out.cell
          have d5 := HT.out.free
          have hzb := HBD.out k
          rw [ofList_get hz] at hzb
          have HZ := Lib.hid (ofList_get hz)
          have HST := Lib.hid (show leastM (ofList A) ((nextsS n es s).take (t + 1)) = leastStep (ofList A) (leastM (ofList A) ((nextsS n es s).take t)) k by
            rw [List.take_succ_eq_append_getElem htl, (List.getElem?_eq_some_iff.1 hk).2, leastM_snoc])
          have k0 : (0 : Int) ≤ (k : Int) := Int.natCast_nonneg _
          have k1 : (k : Int) < (n : Int) := by omega
          obtain ⟨m, hm⟩ : ∃ m, leastM (ofList A) ((nextsS n es s).take t) = m := ⟨_, rfl⟩
          rw [hm] at HT HST d4
          clear hk hc3 hm hz
          by_cases hz0 : 0 ≤ z
          · by_cases hm0 : m < 0
            · have HS := Lib.hid (show leastM (ofList A) ((nextsS n es s).take (t + 1)) = z by rw [HST.out]; unfold leastStep; rw [HZ.out, if_pos ⟨hz0, .inl hm0⟩])
              go_upto_region 12 with fail
              go_quiet (fail)
              go_wp2
              go_roundw
              case rel => exact ⟨t + 1, by omega, by go_num, by rw [HS.out]; exact (HT.out.draw _).set z⟩
              case measure => simp [intOf]; omega
            · by_cases hzm : z < m
              · have HS := Lib.hid (show leastM (ofList A) ((nextsS n es s).take (t + 1)) = z by rw [HST.out]; unfold leastStep; rw [HZ.out, if_pos ⟨hz0, .inr hzm⟩])
                go_upto_region 12 with fail
                go_quiet (fail)
                go_wp2
                go_roundw
                case rel => exact ⟨t + 1, by omega, by go_num, by rw [HS.out]; exact (HT.out.draw _).set z⟩
                case measure => simp [intOf]; omega
              · have HS := Lib.hid (show leastM (ofList A) ((nextsS n es s).take (t + 1)) = m by rw [HST.out]; unfold leastStep; rw [HZ.out, if_neg (fun h => by rcases h.2 with h | h <;> contradiction)])
                go_upto_region 12 with fail
                go_quiet (fail)
                go_wp2
                go_roundw
                case rel => exact ⟨t + 1, by omega, by go_num, by rw [HS.out]; exact HT.out.draw _⟩
                case measure => simp [intOf]; omega
          · have HS := Lib.hid (show leastM (ofList A) ((nextsS n es s).take (t + 1)) = m by rw [HST.out]; unfold leastStep; rw [HZ.out, if_neg (fun h => hz0 h.1)])
            go_upto_region 12 with fail
            go_quiet (fail)
            go_wp2
            go_roundw
            case rel => exact ⟨t + 1, by omega, by go_num, by rw [HS.out]; exact HT.out.draw _⟩
            case measure => simp [intOf]; omega
        · obtain rfl : t = (nextsS n es s).length := by omega
          rw [List.take_length] at HT
          obtain ⟨m, hm⟩ : ∃ m, leastM (ofList A) (nextsS n es s) = m := ⟨_, rfl⟩
          have hmi := leastM_is (ofList A) (nextsS n es s)
          rw [hm] at HT hmi
          have d4 := HT.out.cell
          have d5 := HT.out.free
          have HLA := Lib.hid (show loopAt n es (farD es s) s = if m < 0 then none else some (s :: loopWalk n es (ofList A) m.toNat s) by unfold loopAt; rw [HD.out, hm])
          have HMI := Lib.hid hmi
          clear hmi
          by_cases hm0 : m < 0
          · have HN := Lib.hid (show loopFrom n es (s + 1) = none by rw [loopFrom, H.out.1]; show loopAt n es (farD es s) s = none; rw [HLA.out, if_pos hm0])
            go_wp2
            go_roundw
            case rel =>
              exact ⟨s + 1, by omega, by go_num, HN.out, HB4.out.trans (HT.out.low.mono (by have := (bstep H.out.2 hB3).size; omega))⟩
            case measure => simp [intOf]; omega
          · rw [if_neg hm0] at HLA
            have HS1 := Lib.hid (show loopOf n es = some (s :: loopWalk n es (ofList A) m.toNat s) from loopFrom_some (k := s + 1) (by rw [loopFrom, H.out.1]; exact HLA.out) n (by omega))
            obtain ⟨M, rfl⟩ := Int.eq_ofNat_of_zero_le (show 0 ≤ m by omega)
            have HEX : Hid (∃ k ∈ nextsS n es s, ofList A k = (M : Int)) := by
              rcases HMI.out with h | ⟨_, k, hk, h⟩
              · omega
              · exact ⟨k, hk, h⟩
            have HL1 : Hid (LP W4 (X8 + 1) (M : Int) (.slice (some ⟨wr.heap.size, 0, none⟩) 1 1) [s] (wr.alloc (.cells #[.int .i64 (s : Int)] 3))) := by
              have hlt := HT.out.lt
              exact ⟨HT.out.low.alloc (by omega) _, (Below.heap_alloc wr _ _ hlt).trans HT.out.box, own_lit wr 3 natf s (X8 + 1 + 1) (by omega)⟩
            rw [show (M : Int).toNat = M from rfl] at HS1
            obtain ⟨wb, rfl⟩ : ∃ wb : World, wb = wr := ⟨_, rfl⟩
            clear hm HLA HMI
            go_wp2_with fail
            clear d4 d5
            go_loopg [12, 13] M (fun f s12 s13 wr => ∃ (x : Nat) (o : List Nat), s13 = .int .i64 (x : Int) ∧ x < n ∧ o.length + f ≤ M + 1 ∧ Hid (LP W4 (X8 + 1) (f : Int) s12 o wr ∧ o ++ loopWalk n es (ofList A) f x = s :: loopWalk n es (ofList A) M s ∧ ∃ k ∈ nextsS n es x, ofList A k = (f : Int)))
            case atStart => exact ⟨s, [s], rfl, hlt, by simp; omega, HL1.out, rfl, HEX.out⟩
            case round =>
              obtain ⟨x, o, rfl, hxn, hol, HI⟩ := hrel
              have d4 := HI.out.1.cell
              have d5 := HI.out.1.free
              have hXW := HI.out.1.lt
              by_cases hgk : gk = 0
              · subst hgk
                have HE := Lib.hid (show o = s :: loopWalk n es (ofList A) M s by have := HI.out.2.1; rw [loopWalk, List.append_nil] at this; exact this)
                have HW := Lib.hid (show Below w2.heap.size w2 wr from HB4.out.trans (HI.out.1.low.mono (by have := (bstep H.out.2 hB3).size; omega)))
                go_wp2
                go_ret2
                refine ⟨?_, bstep hB HW.out⟩
                rw [HS1.out]
                exact ⟨_, rfl, by rw [← HE.out]; exact HI.out.1.out_.mono (by have := HB4.out.size; have := hB.size; omega)⟩
              · obtain ⟨f, rfl⟩ : ∃ f, gk = f + 1 := ⟨gk - 1, by omega⟩
                obtain ⟨rb2, roff2, hrx2, hrlt2, ro2, rc2, c20, hnr2⟩ := rows_get HR.out (nxS_get es hxn)
                cases hrx2
                have hX2 := (bstep H.out.2 hB3).size
                have e1 := (HI.out.1.low.cell (p := ⟨rb, roff + x, none⟩) (by simp; omega)).trans ((HB4.out.cell (p := ⟨rb, roff + x, none⟩) hrlt2).trans c20)
                have hdd : ∃ k ∈ nextsS n es x, (fun k => ofList A k == ((f + 1 : Nat) : Int)) k = true := by
                  obtain ⟨k, hk, h⟩ := HI.out.2.2
                  exact ⟨k, hk, by simpa using h⟩
                obtain ⟨j, k, hj, hpk, hno, hfind⟩ := find_at hdd
                have hpk' : ofList A k = ((f + 1 : Nat) : Int) := by simpa using hpk
                have hmem := nextsS_mem.1 (List.mem_of_getElem? hj)
                have hWS := loopWalk_step hfind
                have HST := Lib.hid (show (o ++ [k]) ++ loopWalk n es (ofList A) f k = s :: loopWalk n es (ofList A) M s by
                  have := HI.out.2.1
                  rw [hWS] at this
                  rw [List.append_assoc]; exact this)
                have HNE : Hid (∃ k' ∈ nextsS n es k, ofList A k' = (f : Int)) := by
                  rcases HFAR.out.from_ k with h | ⟨_, h⟩ | ⟨_, k', h1, h2⟩
                  · omega
                  · omega
                  · exact ⟨k', nextsS_mem.2 ⟨by obtain ⟨q, hq⟩ := List.mem_iff_getElem?.1 h1; exact (HG.out.ends q _ hq).2, h1⟩, by omega⟩
                obtain ⟨b3, off3, rfl, hb3, hc3⟩ := nats_get hnr2 hj
                have hjl : j < (nextsS n es x).length := (List.getElem?_eq_some_iff.1 hj).1
                have e2 := (HI.out.1.low.cell (p := ⟨b3, off3 + j, none⟩) (by simp; omega)).trans ((HB4.out.cell (p := ⟨b3, off3 + j, none⟩) hb3).trans hc3)
                have HIX : Hid (∀ W, Below wr.heap.size wr W → Calls Try.prog 47 #[.slice (some ⟨b3, off3, none⟩) (nextsS n es x).length rc2, .func (.func 57) #[] #[.pointer (some ⟨X8, 0, none⟩), .pointer (some ⟨X8 + 1, 0, none⟩)]] W fun e w' => e = .returned (.int .i64 (j : Int)) ∧ Below W.heap.size W w') := by
                  intro W hW
                  have hWs := hW.size
                  refine loopIdx X8 (X8 + 1) GA n capA A ((f + 1 : Nat) : Int) (nextsS n es x) _ W ((hW.cell (p := ⟨X8, 0, none⟩) (by simp; omega)).trans ((HI.out.1.low.cell (p := ⟨X8, 0, none⟩) (by simp)).trans H8.out)) ((hW.cell (p := ⟨X8 + 1, 0, none⟩) hXW).trans HI.out.1.cell) (fun k z hz => (hW.cell (p := ⟨GA, k, none⟩) (by simp; omega)).trans ((HI.out.1.low.cell (p := ⟨GA, k, none⟩) (by simp; omega)).trans (HA.out k z hz))) (by omega) (by omega) (by omega) hlen (by omega) ?_ (by have := nextsS_len n es x; omega) (fun k hk => (nextsS_mem.1 hk).1) j k hj hpk' (fun i y hi hy => by have := hno i y hi hy; simpa using this)
                  have hbw : Below w2.heap.size w2 wr := HB4.out.trans (HI.out.1.low.mono (by omega))
                  exact hnr2.below (bstep hbw hW)
                have HHM := Lib.hid hmem
                have x0 : (0 : Int) ≤ (x : Int) := Int.natCast_nonneg _
                have x1 : (x : Int) < (n : Int) := by omega
                have j0 : (0 : Int) ≤ (j : Int) := Int.natCast_nonneg _
                have j1 : (j : Int) < ((nextsS n es x).length : Int) := by omega
                have hlen1 : o.length + 1 ≤ 1099511627776 := by
                  have h1 := leastM_is (ofList A) (nextsS n es s)
                  have := HBD.out k
                  have h2 := HEX.out
                  obtain ⟨q, _, hq⟩ := h2
                  have := HBD.out q
                  omega
                clear hdd hj hpk hno hfind hmem hWS hc3 c20 hnr2
                go_upto_region 20 with fail
                go_region_held3 (fun w' => w'.cell? ⟨rb, roff + x, none⟩ = some (.slice (some ⟨b3, off3, none⟩) (nextsS n es x).length rc2) ∧ w'.cell? ⟨b3, off3 + j, none⟩ = some (.int .i64 (k : Int)))
                  (first
                    | go_keep
                    | (go_split_ands
                       refine ⟨?_, ?_⟩
                       · exact (hb9.cell (p := ⟨rb, roff + x, none⟩) (show rb < wr.heap.size by omega)).trans e1
                       · exact (hb9.cell (p := ⟨b3, off3 + j, none⟩) (show b3 < wr.heap.size by omega)).trans e2))
                  ((go_at_call 47; refine (HIX.out _ ((Below.refl _ _).drew)).mono ?_; rintro e w9 ⟨rfl, hb9⟩))
                have HL9 := Lib.hid ((HI.out.1.below ((Below.refl _ _).drew)).below hb9)
                have hbase : X8 + 1 + 1 ≤ w9.heap.size := by have := HL9.out.lt; omega
                clear e1 e2 d4 d5
                go_wp2_with (at_builtin; refine wpList_push w9 rfl _ _ 23 rfl 3 8 elemInt (X8 + 1 + 1) natf _ o k rfl HL9.out.out_ rfl rfl hlen1 (by omega) hbase ?_; intro v' w' hown' hg' hat'; have HP := Lib.hid (HL9.out.push hown' hg'); have d6 := HP.out.cell; have d7 := HP.out.free)
                go_roundg f
                case measure => omega
                case rel =>
                  have e1 : ((f + 1 : Nat) : Int) - 1 = (f : Int) := by omega
                  have hset := HP.out.set (((f + 1 : Nat) : Int) - 1)
                  refine ⟨k, o ++ [k], rfl, HHM.out.1, by rw [List.length_append, List.length_singleton]; omega, ?_, HST.out, HNE.out⟩
                  rw [e1] at hset
                  have hMn : M ≤ n := by obtain ⟨q, _, hq⟩ := HEX.out; have := HBD.out q; omega
                  have hw : wrap64 (f : Int) = f := IntWalk.wrap64_in _ (by omega)
                  rw [hw]; exact hset
    · obtain rfl : n = s := by omega
      have HR0 := Lib.hid (show loopOf n es = none from H.out.1)
      go_wp2
      go_ret2
      exact ⟨by rw [HR0.out]; rfl, bstep hB H.out.2⟩
end Go.Proofs.Ythhhcaleoiopgaa
