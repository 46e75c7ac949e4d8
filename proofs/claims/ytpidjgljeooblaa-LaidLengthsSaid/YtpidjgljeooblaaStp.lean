/-
  The walk of LaidSteps: plain part.
-/
import Derived.Test.YtpidjgljeooblaaLmv
import Derived.Test.YtpidjgljeooblaaLbr
import Derived.Deep.CutBlock
namespace Go.Proofs.Ytpidjgljeooblaa
open Go.RowKit
set_option linter.unusedVariables false
set_option linter.unusedSimpArgs false
attribute [local go_sem ↓] Go.wp_at_zero Go.wp_at_succ

def shB (s : Pt) (b : Bx) : Bx := ⟨padd b.lo s, padd b.hi s⟩
theorem mn_add (a b c : Int) : mn (a + c) (b + c) = mn a b + c := by unfold mn; split <;> split <;> omega
theorem mx_add (a b c : Int) : mx (a + c) (b + c) = mx a b + c := by unfold mx; split <;> split <;> omega
theorem legB_shift (a b s : Pt) : legB (padd a s) (padd b s) = shB s (legB a b) := by
  have e : ∀ a b : Pt, legB a b = hull2 (hull2 (pb a) (pb a)) (pb b) := fun _ _ => rfl
  rw [e, e, hull2_self, hull2_self]
  unfold hull2 pb shB padd
  simp only [mn_add, mx_add]
theorem legsN_shift (q : List Pt) (s : Pt) : ∀ n, n < q.length → legsN (q.map fun p => padd p s) n = (legsN q n).map (shB s) := by
  intro n
  induction n with
  | zero => intro _; rfl
  | succ n ih =>
    intro h
    rw [legsN_succ, legsN_succ, List.map_append, ih (by omega)]
    have g : ∀ t, t < q.length → (q.map fun p => padd p s).getD t ⟨0, 0, 0⟩ = padd (q.getD t ⟨0, 0, 0⟩) s := by
      intro t ht
      rw [List.getD_eq_getElem?_getD, List.getD_eq_getElem?_getD, List.getElem?_map, List.getElem?_eq_getElem ht]
      rfl
    rw [g n (by omega), g (n + 1) h, legB_shift]
    rfl
theorem padd_swap (a b c : Pt) : padd (padd a b) c = padd (padd a c) b := by unfold padd; simp only [Pt.mk.injEq]; omega
theorem atK_succ (r : RunD) (j : Nat) : atK r ((j : Int) + 1) = padd (atK r j) r.step := by
  unfold atK
  rw [if_pos (by omega)]
  by_cases h : 0 < (j : Int)
  · rw [if_pos h]
    unfold padd pmul
    simp only [Pt.mk.injEq, Int.add_mul, Int.one_mul]
    omega
  · rw [if_neg h]
    have : (j : Int) = 0 := by omega
    rw [this]
    unfold padd pmul
    simp
theorem rpts_step (b : BarD) (r : RunD) (j : Nat) : rptsOf b r ((j : Int) + 1) = (rptsOf b r j).map fun p => padd p r.step := by
  unfold rptsOf
  rw [List.map_map]
  refine List.map_congr_left fun p _ => ?_
  simp only [Function.comp]
  rw [atK_succ]
  exact padd_swap _ _ _
theorem rpts_mv (b : BarD) (r : RunD) (by_ : Pt) (j : Nat) : rptsOf b (mvR by_ r) j = (rptsOf b r j).map fun p => padd p by_ := by
  unfold rptsOf
  rw [List.map_map]
  refine List.map_congr_left fun p _ => ?_
  simp only [Function.comp]
  have e : atK (mvR by_ r) j = padd (atK r j) by_ := by
    unfold atK mvR
    simp only
    split
    · exact padd_swap _ _ _
    · rfl
  rw [e]
  exact padd_swap _ _ _
theorem cum_mv (by_ : Pt) (rs : List RunD) : cumN (rs.map (mvR by_)) = cumN rs := by
  unfold cumN
  rw [List.map_map]
  rfl
theorem laid_mv {l : List BarD} {rs : List RunD} {by_ : Pt} (h : laidOk l rs = true) (h2 : laidOk l (rs.map (mvR by_)) = true) {n : Nat} {q : List Pt} (hq : (laidPts l rs)[n]? = some q) :
    (laidPts l (rs.map (mvR by_)))[n]? = some (q.map fun p => padd p by_) := by
  have hn : n < cumN rs := by
    have := (List.getElem?_eq_some_iff.1 hq).1
    rw [laidPts_len] at this
    exact this
  obtain ⟨k, j, r, hk, hj, rfl⟩ := cum_place hn
  obtain ⟨b, line, _, _, _, _, _, _, hp⟩ := laid_place h hk hj
  have hk2 : (rs.map (mvR by_))[k]? = some (mvR by_ r) := by rw [List.getElem?_map, hk]; rfl
  obtain ⟨b2, line2, _, _, _, _, _, _, hp2⟩ := laid_place h2 hk2 hj
  have eb : b2 = b := Option.some.inj (line2.symm.trans line)
  subst eb
  rw [← List.map_take, cum_mv] at hp2
  rw [hp2, rpts_mv]
  rw [hp] at hq
  rw [Option.some.inj hq]

structure StW (w : World) (by_ : Pt) (base : Nat) (o : Value) (G : List Bx) (wr : World) : Prop where
  below : Below w.heap.size w wr
  pt : BlkIs wr w.heap.size 31 #[.int .i64 by_.x, .int .i64 by_.y, .int .i64 by_.z]
  own : OwnBxs wr base o G
theorem StW.after {w wr w' : World} {by_ : Pt} {base : Nat} {o : Value} {G : List Bx} (h : StW w by_ base o G wr) (hb : Below wr.heap.size wr w') : StW w by_ base o G w' := ⟨bstep h.below hb, h.pt.below hb, h.own.keep hb⟩

theorem legB_near {a b : Pt} (ha : PtIn 1048576 a) (hb : PtIn 1048576 b) : PtIn 1048576 (legB a b).lo ∧ PtIn 1048576 (legB a b).hi := by
  have e : legB a b = hull2 (pb a) (pb b) := by
    have e : legB a b = hull2 (hull2 (pb a) (pb a)) (pb b) := rfl
    rw [e, hull2_self]
  have k : ∀ x y : Int, (-1048576 ≤ x ∧ x ≤ 1048576) → (-1048576 ≤ y ∧ y ≤ 1048576) → (-1048576 ≤ mn x y ∧ mn x y ≤ 1048576) ∧ (-1048576 ≤ mx x y ∧ mx x y ≤ 1048576) := by
    intro x y hx hy
    unfold mn mx
    constructor <;> split <;> omega
  rw [e]
  obtain ⟨a1, a2, a3, a4, a5, a6⟩ := ha
  obtain ⟨b1, b2, b3, b4, b5, b6⟩ := hb
  have kx := k a.x b.x ⟨a1, a2⟩ ⟨b1, b2⟩
  have ky := k a.y b.y ⟨a3, a4⟩ ⟨b3, b4⟩
  have kz := k a.z b.z ⟨a5, a6⟩ ⟨b5, b6⟩
  unfold hull2 pb PtIn
  simp only
  exact ⟨⟨kx.1.1, kx.1.2, ky.1.1, ky.1.2, kz.1.1, kz.1.2⟩, ⟨kx.2.1, kx.2.2, ky.2.1, ky.2.2, kz.2.1, kz.2.2⟩⟩
theorem legs_near {q : List Pt} (h : q.all (ptIn 1048576) = true) {n : Nat} (hn : n < q.length) {t : Nat} {b : Bx} (hb : (legsN q n)[t]? = some b) : PtIn 1048576 b.lo ∧ PtIn 1048576 b.hi := by
  have ht := (List.getElem?_eq_some_iff.1 hb).1
  rw [legsN_len] at ht
  unfold legsN at hb
  rw [List.getElem?_map, List.getElem?_range ht] at hb
  cases hb
  have g : ∀ t, t < q.length → PtIn 1048576 (q.getD t ⟨0, 0, 0⟩) := fun t ht => by
    rw [List.getD_eq_getElem?_getD, List.getElem?_eq_getElem ht]
    exact ptIn_iff.1 (List.all_eq_true.1 h _ (List.getElem_mem ht))
  exact legB_near (g t (by omega)) (g (t + 1) (by omega))

theorem laid_next {l : List BarD} {rs : List RunD} (h : laidOk l rs = true) {k j : Nat} {r : RunD} (hk : rs[k]? = some r) (hj : j + 1 < r.count.toNat) {q : List Pt} (hq : (laidPts l rs)[cumN (rs.take k) + j]? = some q) :
    (laidPts l rs)[cumN (rs.take k) + j + 1]? = some (q.map fun p => padd p r.step) ∧ PtIn 2097152 r.step ∧ cumN (rs.take k) + j + 1 < cumN rs := by
  obtain ⟨b, line, _, _, _, _, _, hst, hp⟩ := laid_place h hk (show j < r.count.toNat by omega)
  obtain ⟨b2, line2, _, _, _, _, _, _, hp2⟩ := laid_place h hk hj
  have eb : b2 = b := Option.some.inj (line2.symm.trans line)
  subst eb
  rw [hp] at hq
  have e := Option.some.inj hq
  have hp3 : (laidPts l rs)[cumN (rs.take k) + j + 1]? = some (q.map fun p => padd p r.step) := by
    rw [← e, ← rpts_step]
    exact hp2
  refine ⟨hp3, hst (by omega), ?_⟩
  have := (List.getElem?_eq_some_iff.1 hp3).1
  rw [laidPts_len] at this
  exact this

structure St2 (w : World) (by_ : Pt) (base : Nat) (o : Value) (G : List Bx) (R : Nat) (r : RunD) (base2 : Nat) (o2 : Value) (G2 : List Bx) (wr : World) : Prop where
  st : StW w by_ base o G wr
  run : BlkIs wr R 60 (runCellsA r)
  own2 : OwnBxs wr base2 o2 G2
theorem St2.after {w wr w' : World} {by_ : Pt} {base : Nat} {o : Value} {G : List Bx} {R : Nat} {r : RunD} {base2 : Nat} {o2 : Value} {G2 : List Bx} (h : St2 w by_ base o G R r base2 o2 G2 wr) (hb : Below wr.heap.size wr w') : St2 w by_ base o G R r base2 o2 G2 w' := ⟨h.st.after hb, h.run.below hb, h.own2.keep hb⟩
theorem eq_bx (b : Bx) (W : World) : (Op.equalIn 10000 33 (.agg #[.int .i64 b.lo.x, .int .i64 b.lo.y, .int .i64 b.lo.z, .int .i64 b.hi.x, .int .i64 b.hi.y, .int .i64 b.hi.z]) (.agg #[.int .i64 b.lo.x, .int .i64 b.lo.y, .int .i64 b.lo.z, .int .i64 b.hi.x, .int .i64 b.hi.y, .int .i64 b.hi.z])).run Try.prog W = .ok true W := by
  rw [← dec_yes (rfl : b = b)]
  exact run_eq_bx b b W

set_option maxRecDepth 100000 in
set_option maxHeartbeats 4000000 in
theorem laidSteps_walk (w : World) (v : Value) (l : List BarD) (hp : Bars w v l) (hf : FitB l) (hl : l.length * 64 ≤ 140737488351232) (vr : Value) (rs : List RunD) (hr : Runs w vr rs) (hm : ∀ r ∈ rs, r.mark.size ≤ maxLen) (hlr : rs.length * 88 ≤ 140737488351232) (i : Int) (wf : (Lit.int .i64 i).wf = true)
    (by_ : Pt) (w1 : (Lit.int .i64 by_.x).wf = true) (w2 : (Lit.int .i64 by_.y).wf = true) (w3 : (Lit.int .i64 by_.z).wf = true) :
    Calls Try.prog 8 #[v, vr, .int .i64 i, ptv by_] w fun e w' => e = .returned (.bool true) ∧ Below w.heap.size w w' := by
  have hl2 : l.length ≤ 140737488355328 := by omega
  have hlr2 : rs.length ≤ 140737488355328 := by omega
  have HLA := Lib.hid (fun W (hW : Below w.heap.size w W) => large_any v vr l rs W (hp.below hW) (hr.below hW) hl2 hlr2)
  have HP := Lib.hid hp
  have HR := Lib.hid hr
  have HFI := Lib.hid hf
  clear hp hr hf hl hlr hm w1 w2 w3 wf
  cases hok : laidOk l rs with
  | false =>
    have HL := Lib.hid (fun W (hW : Below w.heap.size w W) => legs_bad v vr i l rs W (HP.out.below hW) (HR.out.below hW) hl2 hlr2 HFI.out hok)
    clear hok
    go_enter Try.func8, Try.ntmps8
    go_wp2_with fail
    refine (awake_any _).mono ?_
    rintro e w1 ⟨rfl, hb1⟩
    have HB1 := Lib.hid (bstep (by go_grown) hb1 : Below w.heap.size w w1)
    clear hb1
    go_wp2_with fail
    refine (HLA.out _ HB1.out).mono ?_
    rintro e w2 ⟨q, rfl, hb2⟩
    have HB2 := Lib.hid (bstep HB1.out hb2)
    clear hb2
    cases q
    · go_wp2_with fail
      refine (HL.out _ HB2.out).mono ?_
      rintro e w3 ⟨rfl, hb3⟩
      have HB3 := Lib.hid (bstep HB2.out hb3)
      clear hb3
      go_wp2
      go_ret
      exact ⟨rfl, HB3.out⟩
    · go_wp2
      go_ret
      exact ⟨rfl, HB2.out⟩
  | true =>
    have HL := Lib.hid (fun (i : Int) W (hW : Below w.heap.size w W) => legs_good v vr i l rs W (HP.out.below hW) (HR.out.below hW) hl2 hlr2 HFI.out hok)
    have HOK := Lib.hid hok
    obtain ⟨s1, s2, s3, s4, s5⟩ := laid_sum hok
    have HS3 := Lib.hid s3
    have hc1 : cumN rs ≤ 2000 := by omega
    clear hok s1 s3 s4 s5
    go_enter Try.func8, Try.ntmps8
    go_wp2_with fail
    refine (awake_any _).mono ?_
    rintro e w1 ⟨rfl, hb1⟩
    have HB1 : Hid (Below w.heap.size w w1 ∧ BlkIs w1 w.heap.size 31 #[.int .i64 by_.x, .int .i64 by_.y, .int .i64 by_.z]) := ⟨bstep (by go_grown) hb1, (BlkIs.new w _ _).below hb1⟩
    clear hb1
    go_wp2_with fail
    refine (HLA.out _ HB1.out.1).mono ?_
    rintro e w2 ⟨q, rfl, hb2⟩
    have HB2 : Hid (Below w.heap.size w w2 ∧ BlkIs w2 w.heap.size 31 #[.int .i64 by_.x, .int .i64 by_.y, .int .i64 by_.z]) := ⟨bstep HB1.out.1 hb2, HB1.out.2.below hb2⟩
    clear hb2 HB1
    cases q
    · go_wp2_with fail
      refine (HL.out i _ HB2.out.1).mono ?_
      rintro e w3 (⟨q, o, hi0, hq, rfl, ho3, hb3⟩ | ⟨hi0, rfl, hb3⟩)
      · have hi1 := laid_range HOK.out hq
        obtain ⟨n, rfl⟩ : ∃ n : Nat, i = (n : Int) := ⟨i.toNat, by omega⟩
        have HQ : Hid ((laidPts l rs)[n]? = some q) := hq
        obtain ⟨n1, n2, n3⟩ := laid_near HOK.out HQ.out
        have HW0 : Hid (StW w by_ w2.heap.size o (legsN q (q.length - 1)) w3) := ⟨bstep HB2.out.1 hb3, HB2.out.2.below hb3, ho3⟩
        have HQN := Lib.hid (And.intro n1 n3)
        obtain ⟨k, j, r, hk, hj, hij⟩ := cum_place (show n < cumN rs by omega)
        have HK := Lib.hid (And.intro hk (And.intro hj hij))
        obtain ⟨oo, oc, rfl⟩ := OwnN.shape ho3
        obtain ⟨ro, rcap, rfl⟩ := HR.out.at_
        clear hq ho3 hb3 n1 n3 hk hj hij HB2 HLA
        have hn0 : n < cumN rs := by omega
        have HG7 : Hid ((legsN q (q.length - 1)).length ≤ 7) := by unfold Hid; rw [legsN_len]; omega
        have HGB := Lib.hid (fun t b (hb : (legsN q (q.length - 1))[t]? = some b) => legs_near HQN.out.1 (show q.length - 1 < q.length by have := HQN.out.2; omega) hb)
        have HGS := Lib.hid (fun s => legsN_shift q s (q.length - 1) (by have := HQN.out.2; omega))
        have hkl := (List.getElem?_eq_some_iff.1 HK.out.1).1
        clear hi1
        go_upto_block 0 with fail
        generalize hG : legsN q (q.length - 1) = G at *
        have HGE := Lib.hid hG
        clear hG
        go_cut [] (fun wc => Hid (StW w by_ w2.heap.size (.slice oo G.length oc) G wc))
        case first =>
          go_wp2_with fail
          go_loopw [11, 44] (fun a i' wr => ∃ t m : Nat, t ≤ k ∧ m ≤ 2000 ∧ i' = .int .i64 (t : Int) ∧ a = .int .i64 (m : Int) ∧ Hid (m + cumN (rs.take t) = n) ∧ StW w by_ w2.heap.size (.slice oo G.length oc) G wr) (fun _ i' _ => rs.length - (intOf i').toNat)
          case atStart => exact ⟨0, n, Nat.zero_le _, by omega, rfl, rfl, by unfold Hid; rw [List.take_zero]; simp [cumN], HW0.out⟩
          case round =>
            clear HW0
            obtain ⟨t, m, ht, hm, rfl, rfl, HE, hW⟩ := hrel
            have HW := Lib.hid hW
            clear hW
            have htl : t < rs.length := by omega
            obtain ⟨r', hy⟩ : ∃ y, rs[t]? = some y := ⟨_, List.getElem?_eq_getElem htl⟩
            obtain ⟨b, off, rfl, hbl, c0, c1, c2, c3, c4, c5, c6, c7, c8, c9⟩ := runs_get (HR.out.below HW.out.below) hy
            obtain ⟨n1, n2⟩ := HS3.out r' (List.mem_of_getElem? hy)
            have HWA := Lib.hid (HW.out.after (below_new wr (.cells (runCellsA r') 60)))
            by_cases htk : t = k
            · obtain rfl : r' = r := by rw [htk, HK.out.1] at hy; exact (Option.some.inj hy).symm
              have hmj : m = j := by have h1 := HE.out; have h2 := HK.out.2.2; rw [htk] at h1; omega
              have hj1 := HK.out.2.1
              have hmc : (m : Int) < r'.count := by omega
              clear hy htk
              by_cases hnx : (m : Int) + 1 < r'.count
              · have HX := Lib.hid (BlkIs.new wr (runCellsA r') 60)
                have HLN := Lib.hid (HL.out ((n : Int) + 1) _ HWA.out.below)
                go_wp2_with fail
                refine HLN.out.mono ?_
                rintro e w5 (⟨q2, o2, _, hq2, rfl, ho5, hb5⟩ | ⟨hbad, _, _⟩)
                · have HWN := Lib.hid (laid_next HOK.out HK.out.1 (show m + 1 < r'.count.toNat by omega) (q := q) (by rw [hmj, ← HK.out.2.2]; exact HQ.out))
                  have hq3 : (laidPts l rs)[cumN (rs.take k) + m + 1]? = some q2 := by
                    have e1 : ((n : Int) + 1).toNat = cumN (rs.take k) + m + 1 := by have := HK.out.2.2; omega
                    rw [← e1]; exact hq2
                  obtain rfl : (q.map fun p => padd p r'.step) = q2 := Option.some.inj (HWN.out.1.symm.trans hq3)
                  have HG2 : Hid (legsN (q.map fun p => padd p r'.step) ((q.map fun p => padd p r'.step).length - 1) = G.map (shB r'.step)) := by
                    have h1 := HGS.out r'.step
                    unfold Hid
                    rw [List.length_map, h1]
                  rw [HG2.out] at ho5
                  obtain ⟨oo2, oc2, rfl⟩ := OwnN.shape ho5
                  have HS0 : Hid (St2 w by_ w2.heap.size (.slice oo G.length oc) G wr.heap.size r' (wr.alloc (.cells (runCellsA r') 60)).heap.size (.slice oo2 (G.map (shB r'.step)).length oc2) (G.map (shB r'.step)) w5) := ⟨HWA.out.after hb5, HX.out.below hb5, ho5⟩
                  have HGM : Hid (∀ (t : Nat) b, G[t]? = some b → (G.map (shB r'.step))[t]? = some (shB r'.step b)) := fun t b h => by rw [List.getElem?_map, h]; rfl
                  have HLM : Hid ((G.map (shB r'.step)).length = G.length) := List.length_map ..
                  have HSP := Lib.hid HWN.out.2.1
                  generalize hG3 : G.map (shB r'.step) = G3 at *
                  have hl3 := HLM.out
                  rw [hl3] at HS0 ⊢
                  have hg7 := HG7.out
                  clear hq2 hq3 ho5 hb5 HG2 hG3 HWN hl3 c0 c1 c2 c3 c4 c5 c6 c7 c8 c9
                  go_wp2_with fail
                  obtain ⟨wo, rfl⟩ : ∃ wo : World, wo = wr := ⟨_, rfl⟩
                  go_loopw [76] (fun i' wr => ∃ t2 : Nat, t2 ≤ G.length ∧ i' = .int .i64 (t2 : Int) ∧ St2 w by_ w2.heap.size (.slice oo G.length oc) G wo.heap.size r' (wo.alloc (.cells (runCellsA r') 60)).heap.size (.slice oo2 G.length oc2) G3 wr) (fun i' _ => G.length - (intOf i').toNat)
                  case atStart => exact ⟨0, Nat.zero_le _, rfl, HS0.out⟩
                  case round =>
                    clear HS0
                    obtain ⟨t2, ht2, rfl, hS⟩ := hrel
                    have HS := Lib.hid hS
                    clear hS
                    by_cases htl2 : t2 < G.length
                    · obtain ⟨b0, hb0⟩ : ∃ y, G[t2]? = some y := ⟨_, List.getElem?_eq_getElem htl2⟩
                      have hb3 := HGM.out t2 b0 hb0
                      obtain ⟨nb1, nb2⟩ := HGB.out t2 b0 hb0
                      have HP1 := Lib.hid (fun W => wplus_any b0.lo r'.step W (nb1.mono (by omega)) (HSP.out.mono (by omega)))
                      have HP2 := Lib.hid (fun W => wplus_any b0.hi r'.step W (nb2.mono (by omega)) (HSP.out.mono (by omega)))
                      have e1 : padd b0.lo r'.step = (shB r'.step b0).lo := rfl
                      have e2 : padd b0.hi r'.step = (shB r'.step b0).hi := rfl
                      rw [e1] at HP1
                      rw [e2] at HP2
                      generalize shB r'.step b0 = u at *
                      obtain ⟨gb, goff, eg, hgl, y0, y1, y2, y3, y4, y5⟩ := bxs_get (OwnN.fl bx_len HS.out.st.own) hb0
                      cases eg
                      obtain ⟨gb2, goff2, eg, hgl2, z0, z1, z2, z3, z4, z5⟩ := bxs_get (OwnN.fl bx_len HS.out.own2) hb3
                      cases eg
                      have HSA := Lib.hid (HS.out.after (below_new wr (.cells (bxCellsA b0) 33)))
                      have HBX := Lib.hid (BlkIs.new wr (bxCellsA b0) 33)
                      have z0' := (below_new wr (.cells (bxCellsA b0) 33)).cell (p := ⟨gb2, goff2 + t2 * 6, none⟩) hgl2
                      have z1' := (below_new wr (.cells (bxCellsA b0) 33)).cell (p := ⟨gb2, goff2 + t2 * 6 + 1, none⟩) hgl2
                      have z2' := (below_new wr (.cells (bxCellsA b0) 33)).cell (p := ⟨gb2, goff2 + t2 * 6 + 2, none⟩) hgl2
                      have z3' := (below_new wr (.cells (bxCellsA b0) 33)).cell (p := ⟨gb2, goff2 + t2 * 6 + 3, none⟩) hgl2
                      have z4' := (below_new wr (.cells (bxCellsA b0) 33)).cell (p := ⟨gb2, goff2 + t2 * 6 + 4, none⟩) hgl2
                      have z5' := (below_new wr (.cells (bxCellsA b0) 33)).cell (p := ⟨gb2, goff2 + t2 * 6 + 5, none⟩) hgl2
                      have k0 : (0 : Int) ≤ (t2 : Int) := by omega
                      have k1 : (t2 : Int) < (G.length : Int) := by omega
                      have c0 := fun d os => cell_regrown (z0'.trans z0) d os
                      have c1 := fun d os => cell_regrown (z1'.trans z1) d os
                      have c2 := fun d os => cell_regrown (z2'.trans z2) d os
                      have c3 := fun d os => cell_regrown (z3'.trans z3) d os
                      have c4 := fun d os => cell_regrown (z4'.trans z4) d os
                      have c5 := fun d os => cell_regrown (z5'.trans z5) d os
                      have d0 := fun d os => cell_regrown (HBX.out.cell 0) d os
                      have d1 := fun d os => cell_regrown (HBX.out.cell 1) d os
                      have d2 := fun d os => cell_regrown (HBX.out.cell 2) d os
                      have d3 := fun d os => cell_regrown (HBX.out.cell 3) d os
                      have d4 := fun d os => cell_regrown (HBX.out.cell 4) d os
                      have d5 := fun d os => cell_regrown (HBX.out.cell 5) d os
                      have f6 := fun d os => cell_regrown (HSA.out.run.cell 6) d os
                      have f7 := fun d os => cell_regrown (HSA.out.run.cell 7) d os
                      have f8 := fun d os => cell_regrown (HSA.out.run.cell 8) d os
                      have hq := eq_bx u
                      clear hb0 hb3 nb1 nb2 e1 e2 z0 z1 z2 z3 z4 z5 z0' z1' z2' z3' z4' z5' hgl2 HBX
                      go_upto_region 20 with fail
                      clear y0 y1 y2 y3 y4 y5 hgl
                      refine wp_region_quiet_below (by kernel_rfl) (by kernel_rfl) ?_
                      repeat (go_big_quiet_step ((first
                        | (go_at_call 27; (with_reducible exact Calls.regrown_of (HP1.out _)))
                        | (go_at_call 27; (with_reducible exact Calls.regrown_of (HP2.out _))))))
                      refine wpQuiet_nil ?_
                      intro _ hw'
                      obtain ⟨⟨nq, osq⟩, hw''⟩ := hw'
                      subst hw''
                      have HS9 := Lib.hid (HSA.out.after (below_regrown _ nq osq))
                      clear c0 c1 c2 c3 c4 c5 d0 d1 d2 d3 d4 d5 f6 f7 f8 hq HSA
                      generalize Go.Sort.grow (redrawn _ nq) osq = W9 at *
                      go_wp2_with fail
                      go_roundw
                      case rel => exact ⟨t2 + 1, by omega, by go_num, HS9.out⟩
                      case measure => simp [intOf]; omega
                    · obtain rfl : t2 = G.length := by omega
                      go_wp2_with fail
                      go_meet
                      case rel => exact HS.out.st
                · exfalso
                  have h1 := (laid_next HOK.out HK.out.1 (show m + 1 < r'.count.toNat by omega) (q := q) (by rw [hmj, ← HK.out.2.2]; exact HQ.out)).2.2
                  have h2 := HK.out.2.2
                  omega
              · go_wp2_with fail
                go_meet
                case rel => exact HWA.out
            · have HMC : Hid (r'.count.toNat ≤ m) := by
                have h1 := cumN_mono rs (show t + 1 ≤ k by omega)
                rw [cumN_snoc hy] at h1
                have h2 := HE.out
                have h3 := HK.out.2.2
                unfold Hid
                omega
              have HSN := Lib.hid (cumN_snoc hy)
              have hmc : ¬ (m : Int) < r'.count := by have := HMC.out; omega
              have e1 : ((m - r'.count.toNat : Nat) : Int) = (m : Int) - r'.count := by have := HMC.out; omega
              have HE1 := Lib.hid e1
              clear hy e1
              go_wp2_with fail
              go_roundw
              case rel => exact ⟨t + 1, m - r'.count.toNat, by omega, by omega, by go_num, by rw [HE1.out], by have h1 := HSN.out; have h2 := HE.out; have h3 := HMC.out; unfold Hid; omega, HWA.out⟩
              case measure => simp [intOf]; omega
        case rest =>
          have HW := hcut
          clear hcut HW0 HK HS3
          have p0 := HW.out.pt.cell 0
          have p1 := HW.out.pt.cell 1
          have p2 := HW.out.pt.cell 2
          go_wp2_with fail
          refine (lmoved_any _ rs by_ _ (HR.out.below HW.out.below)).mono ?_
          rintro e w4 ⟨o4, rfl, HO4, hb4⟩
          have HW4 := Lib.hid (HW.out.after hb4)
          clear hb4 p0 p1 p2 HW
          have h60 : ¬ 60 < rs.length := by omega
          by_cases hE : mvE by_ rs = 0
          · have hL : mvL by_ rs = rs.map (mvR by_) := by unfold mvL; rw [if_pos hE]
            have hby : ptIn 2097152 by_ = true := by
              cases hx : ptIn 2097152 by_ with
              | true => rfl
              | false => rw [(mv_far h60 hx).1] at hE; cases hE
            rw [hE]
            rw [hL] at HO4
            have HBY := Lib.hid (ptIn_iff.1 hby)
            have hml : (rs.map (mvR by_)).length ≤ 140737488355328 := by rw [List.length_map]; omega
            have HMVF := Lib.hid (fun h2 => laid_mv (by_ := by_) HOK.out h2 HQ.out)
            have HCM := Lib.hid (cum_mv by_ rs)
            clear hL
            generalize rs.map (mvR by_) = rs2 at *
            obtain ⟨mo, mc, rfl⟩ := OwnN.shape HO4.out
            clear hE hby h60
            cases hok2 : laidOk l rs2 with
            | false =>
              have HLB := Lib.hid (legs_bad v _ n l _ w4 (HP.out.below HW4.out.below) (OwnN.fl run_len HO4.out) hl2 hml HFI.out hok2)
              clear hok2
              go_wp2_with fail
              refine HLB.out.mono ?_
              rintro e w5 ⟨rfl, hb5⟩
              have HW5 := Lib.hid (HW4.out.after hb5)
              clear hb5
              go_wp2
              go_ret
              exact ⟨rfl, HW5.out.below⟩
            | true =>
              have HLG := Lib.hid (legs_good v _ n l _ w4 (HP.out.below HW4.out.below) (OwnN.fl run_len HO4.out) hl2 hml HFI.out hok2)
              have HMV := Lib.hid (HMVF.out hok2)
              clear hok2 HMVF
              go_wp2_with fail
              refine HLG.out.mono ?_
              rintro e w5 (⟨q2, o2, _, hq2, rfl, ho5, hb5⟩ | ⟨hbad, _, _⟩)
              · obtain rfl : (q.map fun p => padd p by_) = q2 := Option.some.inj (HMV.out.symm.trans hq2)
                have HG2 : Hid (legsN (q.map fun p => padd p by_) ((q.map fun p => padd p by_).length - 1) = G.map (shB by_)) := by
                  have h1 := HGS.out by_
                  unfold Hid
                  rw [List.length_map, h1]
                rw [HG2.out] at ho5
                obtain ⟨oo2, oc2, rfl⟩ := OwnN.shape ho5
                have HS0 : Hid (StW w by_ w2.heap.size (.slice oo G.length oc) G w5 ∧ OwnBxs w5 w4.heap.size (.slice oo2 (G.map (shB by_)).length oc2) (G.map (shB by_))) := ⟨HW4.out.after hb5, ho5⟩
                have HGM : Hid (∀ (t : Nat) b, G[t]? = some b → (G.map (shB by_))[t]? = some (shB by_ b)) := fun t b h => by rw [List.getElem?_map, h]; rfl
                have HLM : Hid ((G.map (shB by_)).length = G.length) := List.length_map ..
                generalize hG3 : G.map (shB by_) = G3 at *
                have hl3 := HLM.out
                rw [hl3] at HS0 ⊢
                have hg7 := HG7.out
                clear hq2 ho5 hb5 HG2 hG3 hl3 HLG HMV
                go_wp2_with fail
                go_loopw [136] (fun i' wr => ∃ t2 : Nat, t2 ≤ G.length ∧ i' = .int .i64 (t2 : Int) ∧ StW w by_ w2.heap.size (.slice oo G.length oc) G wr ∧ OwnBxs wr w4.heap.size (.slice oo2 G.length oc2) G3) (fun i' _ => G.length - (intOf i').toNat)
                case atStart => exact ⟨0, Nat.zero_le _, rfl, HS0.out⟩
                case round =>
                  clear HS0
                  obtain ⟨t2, ht2, rfl, hS⟩ := hrel
                  have HS := Lib.hid hS
                  clear hS
                  by_cases htl2 : t2 < G.length
                  · obtain ⟨b0, hb0⟩ : ∃ y, G[t2]? = some y := ⟨_, List.getElem?_eq_getElem htl2⟩
                    have hb3 := HGM.out t2 b0 hb0
                    obtain ⟨nb1, nb2⟩ := HGB.out t2 b0 hb0
                    have HP1 := Lib.hid (fun W => wplus_any b0.lo by_ W (nb1.mono (by omega)) (HBY.out.mono (by omega)))
                    have HP2 := Lib.hid (fun W => wplus_any b0.hi by_ W (nb2.mono (by omega)) (HBY.out.mono (by omega)))
                    have e1 : padd b0.lo by_ = (shB by_ b0).lo := rfl
                    have e2 : padd b0.hi by_ = (shB by_ b0).hi := rfl
                    rw [e1] at HP1
                    rw [e2] at HP2
                    generalize shB by_ b0 = u at *
                    obtain ⟨gb, goff, eg, hgl, y0, y1, y2, y3, y4, y5⟩ := bxs_get (OwnN.fl bx_len HS.out.1.own) hb0
                    cases eg
                    obtain ⟨gb2, goff2, eg, hgl2, z0, z1, z2, z3, z4, z5⟩ := bxs_get (OwnN.fl bx_len HS.out.2) hb3
                    cases eg
                    have hbn := below_new wr (.cells (bxCellsA b0) 33)
                    have HSA := Lib.hid (And.intro (HS.out.1.after hbn) (HS.out.2.keep hbn))
                    have HBX := Lib.hid (BlkIs.new wr (bxCellsA b0) 33)
                    have z0' := hbn.cell (p := ⟨gb2, goff2 + t2 * 6, none⟩) hgl2
                    have z1' := hbn.cell (p := ⟨gb2, goff2 + t2 * 6 + 1, none⟩) hgl2
                    have z2' := hbn.cell (p := ⟨gb2, goff2 + t2 * 6 + 2, none⟩) hgl2
                    have z3' := hbn.cell (p := ⟨gb2, goff2 + t2 * 6 + 3, none⟩) hgl2
                    have z4' := hbn.cell (p := ⟨gb2, goff2 + t2 * 6 + 4, none⟩) hgl2
                    have z5' := hbn.cell (p := ⟨gb2, goff2 + t2 * 6 + 5, none⟩) hgl2
                    have k0 : (0 : Int) ≤ (t2 : Int) := by omega
                    have k1 : (t2 : Int) < (G.length : Int) := by omega
                    have c0 := fun d os => cell_regrown (z0'.trans z0) d os
                    have c1 := fun d os => cell_regrown (z1'.trans z1) d os
                    have c2 := fun d os => cell_regrown (z2'.trans z2) d os
                    have c3 := fun d os => cell_regrown (z3'.trans z3) d os
                    have c4 := fun d os => cell_regrown (z4'.trans z4) d os
                    have c5 := fun d os => cell_regrown (z5'.trans z5) d os
                    have d0 := fun d os => cell_regrown (HBX.out.cell 0) d os
                    have d1 := fun d os => cell_regrown (HBX.out.cell 1) d os
                    have d2 := fun d os => cell_regrown (HBX.out.cell 2) d os
                    have d3 := fun d os => cell_regrown (HBX.out.cell 3) d os
                    have d4 := fun d os => cell_regrown (HBX.out.cell 4) d os
                    have d5 := fun d os => cell_regrown (HBX.out.cell 5) d os
                    have f6 := fun d os => cell_regrown (HSA.out.1.pt.cell 0) d os
                    have f7 := fun d os => cell_regrown (HSA.out.1.pt.cell 1) d os
                    have f8 := fun d os => cell_regrown (HSA.out.1.pt.cell 2) d os
                    have hq := eq_bx u
                    clear hb0 hb3 nb1 nb2 e1 e2 z0 z1 z2 z3 z4 z5 z0' z1' z2' z3' z4' z5' hgl2 HBX hbn
                    go_upto_region 36 with fail
                    clear y0 y1 y2 y3 y4 y5 hgl
                    refine wp_region_quiet_below (by kernel_rfl) (by kernel_rfl) ?_
                    repeat (go_big_quiet_step ((first
                      | (go_at_call 27; (with_reducible exact Calls.regrown_of (HP1.out _)))
                      | (go_at_call 27; (with_reducible exact Calls.regrown_of (HP2.out _))))))
                    refine wpQuiet_nil ?_
                    intro _ hw'
                    obtain ⟨⟨nq, osq⟩, hw''⟩ := hw'
                    subst hw''
                    have hrg := below_regrown (wr.alloc (.cells (bxCellsA b0) 33)) nq osq
                    have HS9 := Lib.hid (And.intro (HSA.out.1.after hrg) (HSA.out.2.keep hrg))
                    clear c0 c1 c2 c3 c4 c5 d0 d1 d2 d3 d4 d5 f6 f7 f8 hq HSA hrg
                    generalize Go.Sort.grow (redrawn _ nq) osq = W9 at *
                    go_wp2_with fail
                    go_roundw
                    case rel => exact ⟨t2 + 1, by omega, by go_num, HS9.out⟩
                    case measure => simp [intOf]; omega
                  · obtain rfl : t2 = G.length := by omega
                    go_wp2
                    go_ret
                    exact ⟨rfl, HS.out.1.below⟩
              · rw [HCM.out] at hbad
                omega
          · have hE2 : mvE by_ rs = 2 := by
              unfold mvE at hE ⊢
              rw [if_neg h60] at hE ⊢
              split
              · rfl
              · rename_i hx
                rw [if_neg hx] at hE
                split
                · rename_i hy; rw [if_pos hy] at hE; exact absurd rfl hE
                · rfl
            have hL : mvL by_ rs = [] := by unfold mvL; rw [if_neg hE]
            rw [hE2]
            rw [hL] at HO4
            obtain ⟨mo, mc, rfl⟩ := OwnN.shape HO4.out
            clear hE hE2 hL h60
            go_wp2
            go_ret
            exact ⟨rfl, HW4.out.below⟩
      · have HB3 := Lib.hid (bstep HB2.out.1 hb3)
        clear hb3 hi0
        go_wp2
        go_ret
        exact ⟨rfl, HB3.out⟩
    · go_wp2
      go_ret
      exact ⟨rfl, HB2.out.1⟩
end Go.Proofs.Ytpidjgljeooblaa
