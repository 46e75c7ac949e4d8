/-
  Law GraphPaths: the walk where there is a path.
-/
import Derived.Test.YtcaeemcobgopmaaLwQ
namespace Go.Proofs.Ytcaeemcobgopmaa
open Go.RowKit
set_option linter.unusedVariables false

set_option maxRecDepth 100000 in
set_option maxHeartbeats 4000000 in
theorem pathsSome_walk (w : World) (N a b c : Nat) (v : Value) (ns : List (Nat × Nat)) (hg : Gr w N v ns) (hr : rgt N (cst ns) = true) (ha : a < N) (hb : b < N) (hc : c < N) (h0 : 0 ≤ distOf ns (fun _ => true) N b a) :
    Calls Try.prog 5 #[.int .i64 (N : Int), v, .int .i64 (a : Int), .int .i64 (b : Int), .int .i64 (c : Int)] w fun e w' => e = .returned (.bool true) ∧ Below w.heap.size w w' := by
  have hn := hg.n_le
  have hm := hg.m_le
  have HG := Lib.hid hg
  have HR := Lib.hid hr
  have hbl : (cst ns).length ≤ 140737488355328 := by rw [cst_len]; have := hg.m_le; omega
  have H0 := Lib.hid h0
  have hsym := dist_symm hg.ends ha hb h0
  have HL : Hid (decide (lbl ns a = lbl ns b) = true) := dec_yes ((dist_lbl hg.ends hb).1 h0)
  have HAB := Lib.hid (partsOf_both (ns := ns) ha hb)
  have HPR := Lib.hid (partsOf_rows N ns)
  have HLEN := Lib.hid (wayTo_length (U := fun _ => true) hg.ends hb (distOf ns (fun _ => true) N b a).toNat a (by omega))
  have hlen2 := wayTo_length (U := fun _ => true) hg.ends ha (distOf ns (fun _ => true) N a b).toNat b (by omega)
  have HLEN2 := Lib.hid (show (wayTo ns (fun _ => true) N a b).length = (wayTo ns (fun _ => true) N b a).length by rw [hlen2, HLEN.out, hsym.2])
  have H0' : Hid (0 ≤ distOf ns (fun _ => true) N a b) := hsym.1
  have HDL := Lib.hid (distOf_le (U := fun _ => true) hb hg.ends a)
  obtain ⟨ao, cap, rfl, _⟩ := hg.pairs.open_
  have hB0 : Below w.heap.size w ((w.alloc (.cells #[.int .i64 (a : Int)] 3)).alloc (.cells #[.int .i64 (b : Int)] 3)) := (below_new w _).alloc (by simp) _
  have HCA : Hid (((w.alloc (.cells #[.int .i64 (a : Int)] 3)).alloc (.cells #[.int .i64 (b : Int)] 3)).cell? ⟨w.heap.size, 0, none⟩ = some (.int .i64 (a : Int))) := by
    exact (show ((w.alloc (.cells #[.int .i64 (a : Int)] 3)).alloc (.cells #[.int .i64 (b : Int)] 3)).cell? ⟨w.heap.size, 0, none⟩ = some (.int .i64 (a : Int)) by go_cell)
  have HCB : Hid (((w.alloc (.cells #[.int .i64 (a : Int)] 3)).alloc (.cells #[.int .i64 (b : Int)] 3)).cell? ⟨w.heap.size + 1, 0, none⟩ = some (.int .i64 (b : Int))) := by
    exact (show ((w.alloc (.cells #[.int .i64 (a : Int)] 3)).alloc (.cells #[.int .i64 (b : Int)] 3)).cell? ⟨w.heap.size + 1, 0, none⟩ = some (.int .i64 (b : Int)) by rw [World.cell?_alloc_at _ _ _ _ (by simp)]; rfl)
  obtain ⟨D, hD⟩ : ∃ D, distOf ns (fun _ => true) N b = D := ⟨_, rfl⟩
  obtain ⟨P, hP⟩ : ∃ P, wayTo ns (fun _ => true) N b a = P := ⟨_, rfl⟩
  have hpl : P.length ≤ 1000 := by rw [← hP, HLEN.out]; have := HDL.out; omega
  have HP := Lib.hid hP
  clear hg hr h0 hsym hlen2 hD hP
  go_enter Try.func5, Try.ntmps5
  go_wp2_with fail
  refine (awake_any _).mono ?_
  rintro e w1 ⟨rfl, hb1⟩
  have hB1 := bstep hB0 hb1
  go_wp2_with fail
  refine (right_any N _ (cst ns) _ (HG.out.below hB1).pairs hbl).mono ?_
  rw [HR.out]
  rintro e w2 ⟨rfl, hb2⟩
  have hB2 := bstep hB1 hb2
  have hb12 := bstep hb1 hb2
  have c1 := (hb12.cell (p := ⟨w.heap.size, 0, none⟩) (by simp; omega)).trans HCA.out
  have c2 := (hb12.cell (p := ⟨w.heap.size + 1, 0, none⟩) (by simp)).trans HCB.out
  go_wp2_with fail
  refine (path_ok N a b _ ns _ (HG.out.below hB2) ha hb).mono ?_
  rintro e w3 ⟨⟨_, u, rfl, hu⟩ | ⟨h1, _⟩, hb3⟩
  rotate_left
  · exact absurd H0.out (by omega)
  rw [HP.out] at hu
  have HU3 := Lib.hid hu.sl
  obtain ⟨uo, uc, rfl⟩ := hu.shape
  clear hu
  have hB3 := bstep hB2 hb3
  have hb13 := bstep hb12 hb3
  have c1 := (hb13.cell (p := ⟨w.heap.size, 0, none⟩) (by simp; omega)).trans HCA.out
  have c2 := (hb13.cell (p := ⟨w.heap.size + 1, 0, none⟩) (by simp)).trans HCB.out
  go_wp2_with fail
  refine (path_ok N b a _ ns _ (HG.out.below hB3) hb ha).mono ?_
  rintro e w4 ⟨⟨_, q, rfl, hq⟩ | ⟨h1, _⟩, hb4⟩
  rotate_left
  · exact absurd H0'.out (by omega)
  obtain ⟨qo, qc, rfl⟩ := hq.shape
  rw [HLEN2.out, HP.out]
  clear hq
  have hB4 := bstep hB3 hb4
  have hb14 := bstep hb13 hb4
  have HU4 := Lib.hid (HU3.out.below hb4)
  go_wp2_with fail
  refine (parts_ok N _ ns _ (HG.out.below hB4)).mono ?_
  rintro e w5 ⟨⟨V, rfl, hV⟩, hb5⟩
  have hB5 := bstep hB4 hb5
  have hb15 := bstep hb14 hb5
  have HU5 := Lib.hid (HU4.out.below hb5)
  have HV := Lib.hid hV.rows
  have e1 : (((P.length : Nat) : Int) != ((P.length : Nat) : Int)) = false := by simp
  clear hV HU3 HU4
  go_wp2_with fail
  refine (anyRows_any 25 #[.pointer (some ⟨w.heap.size, 0, none⟩), .pointer (some ⟨w.heap.size + 1, 0, none⟩)] (fun r => decide (a ∈ r) && decide (b ∈ r)) _ (partsOf N ns) w5 HV.out (by have := HPR.out.1; omega) (fun xs W => by rfl)
    (fun u r W hW hr hu => ?_)).mono ?_
  · have hbW := bstep hb15 hW
    exact joinClos a b _ _ u r W ((hbW.cell (p := ⟨w.heap.size, 0, none⟩) (by simp; omega)).trans HCA.out) ((hbW.cell (p := ⟨w.heap.size + 1, 0, none⟩) (by simp)).trans HCB.out) hu (by have := HPR.out.2 r hr; omega)
  rw [HAB.out, HL.out]
  rintro e w6 ⟨rfl, hb6⟩
  have hB6 := bstep hB5 hb6
  have hb16 := bstep hb15 hb6
  have HU6 := Lib.hid (HU5.out.below hb6)
  have c1 := (hb16.cell (p := ⟨w.heap.size, 0, none⟩) (by simp; omega)).trans HCA.out
  have c2 := (hb16.cell (p := ⟨w.heap.size + 1, 0, none⟩) (by simp)).trans HCB.out
  clear HV HU5 e1 hb1 hb2 hb3 hb4 hb5 hb6
  go_wp2_with fail
  clear c1 c2
  go_loopw [18, 20, 113] (fun s18 s20 s113 wr => ∃ (j y : Nat), j ≤ P.length ∧ s113 = .int .i64 (j : Int) ∧ s18 = .int .i64 (y : Int) ∧ y < N ∧ Hid (0 ≤ distOf ns (fun _ => true) N b y ∧ wayTo ns (fun _ => true) N b y = P.drop j) ∧ Below w6.heap.size w6 wr) (fun _ _ s113 _ => P.length - (intOf s113).toNat)
  case atStart => exact ⟨0, a, Nat.zero_le _, rfl, rfl, ha, ⟨H0.out, HP.out⟩, Below.refl _ _⟩
  case round =>
    obtain ⟨j, y, hj, rfl, rfl, hy, H, hB⟩ := hrel
    have hstep := wayTo_cons (U := fun _ => true) HG.out.ends hb H.out.1
    by_cases hlt : j < P.length
    · rcases hstep with ⟨_, _, h3⟩ | ⟨i, hi, _, hinc, hdi, _, hw⟩
      · exfalso
        have h4 := H.out.2
        rw [h3] at h4
        have := congrArg List.length h4
        simp at this
        omega
      · have h4 := H.out.2
        rw [hw, List.drop_eq_getElem_cons hlt] at h4
        injection h4 with h5 h6
        have hPj : P[j]? = some i := by rw [List.getElem?_eq_getElem hlt, h5]
        obtain ⟨⟨p, q⟩, hpq⟩ : ∃ e, ns[i]? = some e := ⟨_, List.getElem?_eq_getElem hi⟩
        have hsum := oth_sum hpq hinc
        have hkl := oth_lt HG.out.ends hinc
        obtain ⟨k, hk⟩ : ∃ k, oth ns i y = k := ⟨_, rfl⟩
        rw [hk] at hsum hkl hdi h6
        simp only at hsum
        have hpy : p = y ∨ q = y := by
          obtain ⟨e', he', hc'⟩ := inc_cases hinc
          rw [hpq] at he'; cases he'
          simp only at hc'
          omega
        have hBw := bstep hB6 hB
        obtain ⟨b2, off, rfl, hbl2, d1, d2⟩ := (HG.out.pairs.below hBw).edge hpq
        obtain ⟨ub, uoff, rfl, hub, hcu⟩ := nats_get (HU6.out.below hB) hPj
        have hends := HG.out.ends i _ hpq
        simp only at d1 d2 hends
        have HNX : Hid (0 ≤ distOf ns (fun _ => true) N b k ∧ wayTo ns (fun _ => true) N b k = P.drop (j + 1)) := ⟨by
          have := H.out.1
          have hz := farOf_dist (U := fun _ => true) hb HG.out.ends
          have := (hz.to_ y this i rfl hinc).1
          rw [hk] at this; exact this, h6⟩
        obtain ⟨hp1, hq1, hne⟩ := hends
        have HNE := Lib.hid hne
        have HSUM := Lib.hid hsum
        clear h5 h6 hPj hpq hinc hdi hw hk hsum hne H
        have i0 : (0 : Int) ≤ (i : Int) := Int.natCast_nonneg _
        have i1 : (i : Int) < (ns.length : Int) := by omega
        have j0 : (0 : Int) ≤ (j : Int) := Int.natCast_nonneg _
        have j1 : (j : Int) < (P.length : Int) := by omega
        have hw1 : IntKind.i64.wrap ((p : Int) + (q : Int)) = (p : Int) + (q : Int) := IntWalk.i64_in _ (by omega)
        have hw2 : IntKind.i64.wrap ((p : Int) + (q : Int) - (y : Int)) = (p : Int) + (q : Int) - (y : Int) := IntWalk.i64_in _ (by omega)
        rcases hpy with hpy | hpy
        · subst hpy
          have e1 : ((p : Int) != (p : Int)) = false := by simp
          go_wp2
          go_quiet (fail)
          clear hw1 hw2
          go_wp2
          go_roundw
          case rel => exact ⟨j + 1, k, by omega, by go_num, by have := HSUM.out; exact val_int (by omega), hkl, HNX.out, below_drewN' hB _⟩
          case measure => simp [intOf]; omega
        · subst hpy
          have e1 : ((p : Int) != (q : Int)) = true := bne_yes (by have := HNE.out; omega)
          have e2 : ((q : Int) != (q : Int)) = false := by simp
          go_wp2
          go_quiet (fail)
          clear hw1 hw2
          go_wp2
          go_roundw
          case rel => exact ⟨j + 1, k, by omega, by go_num, by have := HSUM.out; exact val_int (by omega), hkl, HNX.out, below_drewN' hB _⟩
          case measure => simp [intOf]; omega
    · have hyb : y = b := by
        rcases hstep with ⟨h1, _⟩ | ⟨i, _, _, _, _, _, hw⟩
        · exact h1
        · have h4 := H.out.2
          rw [hw, List.drop_of_length_le (by omega)] at h4
          cases h4
      subst hyb
      have hBw := bstep hB6 hB
      have hb17 := bstep hb16 hB
      have c1 := (hb17.cell (p := ⟨w.heap.size, 0, none⟩) (by simp; omega)).trans HCA.out
      have c2 := (hb17.cell (p := ⟨w.heap.size + 1, 0, none⟩) (by simp)).trans HCB.out
      have e1 : ((y : Int) != (y : Int)) = false := by simp
      clear hstep H
      go_wp2_with fail
      clear e1
      by_cases hca : 0 ≤ distOf ns (fun _ => true) N c a
      · have hcb : 0 ≤ distOf ns (fun _ => true) N y c := by
          have h1 := (dist_lbl HG.out.ends hc).1 hca
          have h2 := (dist_lbl HG.out.ends hb).1 H0.out
          exact (dist_lbl HG.out.ends hb).2 (h1.symm.trans h2)
        have htri := dist_tri HG.out.ends ha hb hc hca hcb
        have hl1 := wayTo_length (U := fun _ => true) HG.out.ends hc (distOf ns (fun _ => true) N c a).toNat a (by omega)
        have hl2 := wayTo_length (U := fun _ => true) HG.out.ends hb (distOf ns (fun _ => true) N y c).toNat c (by omega)
        have hb1' := distOf_le (U := fun _ => true) hc HG.out.ends a
        have hb2' := distOf_le (U := fun _ => true) hb HG.out.ends c
        obtain ⟨X, hX⟩ : ∃ X, wayTo ns (fun _ => true) N c a = X := ⟨_, rfl⟩
        obtain ⟨Y, hY⟩ : ∃ Y, wayTo ns (fun _ => true) N y c = Y := ⟨_, rfl⟩
        rw [hX] at hl1
        rw [hY] at hl2
        have hPl : P.length = (distOf ns (fun _ => true) N y a).toNat := by rw [← HP.out]; exact HLEN.out
        have hle : P.length ≤ X.length + Y.length := by have := H0.out; omega
        have hxl : X.length ≤ 1000 ∧ Y.length ≤ 1000 := by omega
        have HX := Lib.hid hX
        have HY := Lib.hid hY
        have HCA' := Lib.hid hca
        have HCB' := Lib.hid hcb
        clear hX hY hl1 hl2 hPl htri hb1' hb2' hca hcb
        refine (path_ok N a c _ ns _ (HG.out.below hBw) ha hc).mono ?_
        rintro e w7 ⟨⟨_, x, rfl, hx⟩ | ⟨h1, _⟩, hb7⟩
        rotate_left
        · exact absurd HCA'.out (by omega)
        rw [HX.out] at hx
        obtain ⟨xo, xc, rfl⟩ := hx.shape
        clear hx
        have hB7 := bstep hBw hb7
        have hb18 := bstep hb17 hb7
        have c1 := (hb18.cell (p := ⟨w.heap.size, 0, none⟩) (by simp; omega)).trans HCA.out
        have c2 := (hb18.cell (p := ⟨w.heap.size + 1, 0, none⟩) (by simp)).trans HCB.out
        go_wp2_with fail
        refine (path_ok N c y _ ns _ (HG.out.below hB7) hc hb).mono ?_
        rintro e w8 ⟨⟨_, z, rfl, hz⟩ | ⟨h1, _⟩, hb8⟩
        rotate_left
        · exact absurd HCB'.out (by omega)
        rw [HY.out] at hz
        obtain ⟨zo, zc, rfl⟩ := hz.shape
        clear hz
        have hB8 := bstep hB7 hb8
        have hle' : ((P.length : Nat) : Int) ≤ ((X.length : Nat) : Int) + ((Y.length : Nat) : Int) := by omega
        go_wp2
        go_ret
        exact ⟨rfl, hB8⟩
      · have hcb : ¬ 0 ≤ distOf ns (fun _ => true) N y c := fun h => by
          have h1 := (dist_lbl HG.out.ends hb).1 h
          have h2 := (dist_lbl HG.out.ends hb).1 H0.out
          exact hca ((dist_lbl HG.out.ends hc).2 (h2.trans h1.symm))
        have HCA' := Lib.hid hca
        have HCB' := Lib.hid hcb
        clear hca hcb
        refine (path_ok N a c _ ns _ (HG.out.below hBw) ha hc).mono ?_
        rintro e w7 ⟨⟨h1, _⟩ | ⟨_, rfl⟩, hb7⟩
        · exact absurd h1 (by have := HCA'.out; omega)
        have hB7 := bstep hBw hb7
        have hb18 := bstep hb17 hb7
        have c1 := (hb18.cell (p := ⟨w.heap.size, 0, none⟩) (by simp; omega)).trans HCA.out
        have c2 := (hb18.cell (p := ⟨w.heap.size + 1, 0, none⟩) (by simp)).trans HCB.out
        go_wp2_with fail
        refine (path_ok N c y _ ns _ (HG.out.below hB7) hc hb).mono ?_
        rintro e w8 ⟨⟨h1, _⟩ | ⟨_, rfl⟩, hb8⟩
        · exact absurd h1 (by have := HCB'.out; omega)
        have hB8 := bstep hB7 hb8
        go_wp2
        go_ret
        exact ⟨rfl, hB8⟩

theorem graphPaths_walk (w : World) (n : Int) (wn : (Lit.int .i64 n).wf = true) (v : Value) (l : List (Int × Int)) (hp : Pairs w v l) (bl : l.length * 16 ≤ 140737488351232) (a : Int) (wa : (Lit.int .i64 a).wf = true) (b : Int) (wb : (Lit.int .i64 b).wf = true) (c : Int) (wc : (Lit.int .i64 c).wf = true) :
    Calls Try.prog 5 #[.int .i64 n, v, .int .i64 a, .int .i64 b, .int .i64 c] w fun e w' => e = .returned (.bool true) ∧ Below w.heap.size w w' := by
  have hbl : l.length ≤ 140737488355328 := by omega
  by_cases hr : rgt n l = false ∨ a < 0 ∨ n ≤ a ∨ b < 0 ∨ n ≤ b ∨ c < 0 ∨ n ≤ c
  · exact pathsRange_walk w n v l hp hbl a b c hr
  · have hg : rgt n l = true := by
      cases h : rgt n l
      · exact absurd (.inl h) hr
      · rfl
    have hr' : ¬ (a < 0 ∨ n ≤ a ∨ b < 0 ∨ n ≤ b ∨ c < 0 ∨ n ≤ c) := fun h => hr (.inr h)
    obtain ⟨N, ns, rfl, rfl, hG⟩ := gr_of hp (rgt_gr hp hg)
    obtain ⟨A, rfl⟩ : ∃ A : Nat, a = A := ⟨a.toNat, by omega⟩
    obtain ⟨B, rfl⟩ : ∃ B : Nat, b = B := ⟨b.toNat, by omega⟩
    obtain ⟨C, rfl⟩ : ∃ B : Nat, c = B := ⟨c.toNat, by omega⟩
    by_cases h0 : 0 ≤ distOf ns (fun _ => true) N B A
    · exact pathsSome_walk w N A B C v ns hG hg (by omega) (by omega) (by omega) h0
    · exact pathsNone_walk w N A B C v ns hG hg (by omega) (by omega) (by omega) (by omega)
end Go.Proofs.Ytcaeemcobgopmaa
