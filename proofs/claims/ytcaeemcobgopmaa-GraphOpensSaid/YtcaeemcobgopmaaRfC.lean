/-
  Reference 05: other, Far.
-/
import Derived.Test.YtcaeemcobgopmaaRfB
import Derived.Test.YtcaeemcobgopmaaGrS
namespace Go.Proofs.Ytcaeemcobgopmaa
open Go.RowKit
set_option linter.unusedVariables false

/-- The other end of an edge; -1 if it does not end there. -/
def rothI (x y v : Nat) : Int := if x = v then y else if y = v then x else -1
theorem rothI_inc {ns : List (Nat × Nat)} {i v : Nat} {e : Nat × Nat} (he : ns[i]? = some e) (h : inc ns i v = true) : rothI e.1 e.2 v = (oth ns i v : Int) := by
  obtain ⟨e', he', hc⟩ := inc_cases h
  rw [he] at he'
  cases he'
  unfold rothI
  rcases hc with ⟨h1, h2⟩ | ⟨h1, h2⟩
  · rw [if_pos h1, h2]
  · by_cases h3 : e.1 = v
    · rw [if_pos h3, h2, h3, h1]
    · rw [if_neg h3, if_pos h1, h2]
theorem rothI_not {ns : List (Nat × Nat)} {i v : Nat} {e : Nat × Nat} (he : ns[i]? = some e) (h : inc ns i v = false) : rothI e.1 e.2 v = -1 := by
  unfold inc at h
  rw [he] at h
  simp only [Bool.or_eq_false_iff, beq_eq_false_iff_ne] at h
  unfold rothI
  rw [if_neg h.1, if_neg h.2]

theorem rother_any (x y v : Nat) (w : World) :
    Calls Try.prog 60 #[.agg #[.int .i64 (x : Int), .int .i64 (y : Int)], .int .i64 (v : Int)] w fun e w' => e = .returned (.int .i64 (rothI x y v)) ∧ Below w.heap.size w w' := by
  by_cases h1 : x = v
  · have E : Hid (rothI x y v = (y : Int)) := by unfold rothI; rw [if_pos h1]; exact rfl
    have e1 : ((x : Int) == (v : Int)) = true := beq_yes (by omega)
    clear h1
    go_enter Try.func60, Try.ntmps60
    go_wp2
    go_ret
    exact ⟨ret_int E.out.symm, by go_grown⟩
  · have e1 : ((x : Int) == (v : Int)) = false := beq_no (by omega)
    by_cases h2 : y = v
    · have E : Hid (rothI x y v = (x : Int)) := by unfold rothI; rw [if_neg h1, if_pos h2]; exact rfl
      have e2 : ((y : Int) == (v : Int)) = true := beq_yes (by omega)
      clear h1 h2
      go_enter Try.func60, Try.ntmps60
      go_wp2
      go_ret
      exact ⟨ret_int E.out.symm, by go_grown⟩
    · have E : Hid (rothI x y v = -1) := by unfold rothI; rw [if_neg h1, if_neg h2]; exact rfl
      have e2 : ((y : Int) == (v : Int)) = false := beq_no (by omega)
      clear h1 h2
      go_enter Try.func60, Try.ntmps60
      go_wp2
      go_ret
      exact ⟨ret_int E.out.symm, by go_grown⟩

def FarAtW (w : World) (V : Value) (A : List Int) (wr : World) : Prop := Own wr w.heap.size 3 intf V A ∧ Below w.heap.size w wr
theorem FarAtW.drawN {w wr : World} {V : Value} {A : List Int} (h : FarAtW w V A wr) (m : Nat) : FarAtW w V A (wr.drewN m) := ⟨h.1.drawN m, below_drewN' h.2 m⟩
theorem FarAtW.set {w wr : World} {g n cap : Nat} {A : List Int} (h : FarAtW w (.slice (some ⟨g, 0, none⟩) n cap) A wr) (k : Nat) (x : Int) : FarAtW w (.slice (some ⟨g, 0, none⟩) n cap) (A.set k x) (wr.setCell ⟨g, k, none⟩ (.int .i64 x)) :=
  ⟨h.1.set k x, h.2.setCell (p := ⟨g, k, none⟩) (h.1.lt g rfl).1 _⟩

theorem farHalf_len (d : Int) (A : List Int) (a b : Nat) : (farHalf d A a b).length = A.length := by
  unfold farHalf; split <;> simp
theorem farStep_len (ns : List (Nat × Nat)) (d : Int) (A : List Int) (i : Nat) : (farStep ns d A i).length = A.length := by
  unfold farStep
  split
  · rw [farHalf_len, farHalf_len]
  · rfl
theorem farFold_len (ns : List (Nat × Nat)) (d : Int) (l : List Nat) : ∀ (A : List Int), (l.foldl (farStep ns d) A).length = A.length := by
  induction l with
  | nil => intro A; rfl
  | cons i l ih => intro A; rw [List.foldl_cons, ih, farStep_len]
theorem farTo_len (ns : List (Nat × Nat)) (l : List Nat) (n tt k : Nat) : (farTo ns l n tt k).length = n := by
  induction k with
  | zero => simp [farTo]
  | succ k ih => rw [farTo]; unfold farRound; rw [farFold_len, ih]

theorem far_case {d p q : Int} (hd : 0 ≤ d) {A : List Int} {x y : Nat} (hxy : x ≠ y) (hx : A[x]? = some p) (hy : A[y]? = some q) :
    farHalf d (farHalf d A x y) y x = if p = d ∧ q < 0 then A.set y (d + 1) else if q = d ∧ p < 0 then A.set x (d + 1) else A := by
  have gx : gt A x = p := by unfold gt; simp [List.getD, hx]
  have gy : gt A y = q := by unfold gt; simp [List.getD, hy]
  have hyl := (List.getElem?_eq_some_iff.1 hy).1
  unfold farHalf
  rw [gx, gy]
  by_cases h1 : p = d ∧ q < 0
  · rw [if_pos h1, if_pos h1]
    have g1 : gt (A.set y (d + 1)) y = d + 1 := by unfold gt; simp [List.getD, hyl]
    rw [g1, if_neg (by omega)]
  · rw [if_neg h1, if_neg h1, gx, gy]

set_option maxRecDepth 100000 in
set_option maxHeartbeats 4000000 in
theorem far_any (n tt : Nat) (v vl : Value) (ns : List (Nat × Nat)) (l : List Nat) (w : World) (hg : Gr w n v ns) (hl : Nats w vl l) (hll : l.length ≤ 4000) (hlt : ∀ i ∈ l, i < ns.length) (hto : tt < n) :
    Calls Try.prog 59 #[.int .i64 (n : Int), v, vl, .int .i64 (tt : Int)] w fun e w' => ∃ u, e = .returned u ∧ Own w' w.heap.size 3 intf u (farOf ns l n tt) ∧ Below w.heap.size w w' := by
  have hn := hg.n_le
  have hm := hg.m_le
  have HG := Lib.hid hg
  have HLT := Lib.hid hlt
  clear hg hlt
  obtain ⟨ao, cap, rfl, _⟩ := HG.out.pairs.open_
  obtain ⟨lo, lcap, rfl, hlc⟩ := hl
  have HLC := Lib.hid hlc
  clear hlc
  have hmk := fun W => run_make_one (P := Try.prog) 25 3 8 (.int .i64 0) Try.underlying25 (by kernel_rfl) (by omega) n (by omega) W
  have HM : Hid (FarAtW w (.slice (some ⟨w.heap.size, 0, none⟩) n n) (List.replicate n 0) (w.alloc (.cells (madeCells (Value.int .i64 0).cells n) 3))) := ⟨own_made w 3 intf 0 (.int .i64 0) rfl n (by omega) w.heap.size (Nat.le_refl _), below_new w _⟩
  go_enter Try.func59, Try.ntmps59
  go_wp2_with fail
  clear hmk
  go_loopw [10] (fun i wr => ∃ k : Nat, k ≤ n ∧ i = .int .i64 k ∧ ∃ A, Hid (FarAtW w (.slice (some ⟨w.heap.size, 0, none⟩) n n) A wr ∧ A.length = n ∧ ∀ j, j < k → A[j]? = some (-1))) (fun i _ => n - (intOf i).toNat)
  case atStart => exact ⟨0, Nat.zero_le _, rfl, _, HM.out, by simp, fun j hj => by omega⟩
  case round =>
    obtain ⟨k, hk, rfl, A, H⟩ := hrel
    clear HM
    by_cases hk2 : k < n
    · obtain ⟨z, hz⟩ : ∃ z, A[k]? = some z := ⟨_, List.getElem?_eq_getElem (by rw [H.out.2.1]; exact hk2)⟩
      have c1 := H.out.1.1.cell hz
      have f1 := H.out.1.1.free k
      have k0 : (0 : Int) ≤ (k : Int) := Int.natCast_nonneg _
      have k1 : (k : Int) < (n : Int) := by omega
      unfold intf at c1
      clear hz
      go_wp2
      go_roundw
      case rel => exact ⟨k + 1, by omega, by go_num, _, H.out.1.set k (-1), by rw [List.length_set]; exact H.out.2.1, fun j hj => by
        by_cases e : k = j
        · subst e; rw [List.getElem?_set_self (by rw [H.out.2.1]; exact hk2)]
        · rw [List.getElem?_set_ne e]; exact H.out.2.2 j (by omega)⟩
      case measure => simp [intOf]; omega
    · obtain rfl : k = n := by omega
      have hA : A = List.replicate k (-1) := by
        refine List.ext_getElem? fun j => ?_
        rcases Nat.lt_or_ge j k with h1 | h1
        · rw [H.out.2.2 j h1]; simp [h1]
        · rw [List.getElem?_eq_none (by rw [H.out.2.1]; exact h1), List.getElem?_eq_none (by simpa using h1)]
      subst hA
      have HA := Lib.hid H.out.1
      clear H
      have c1 := HA.out.1.cell (k := tt) (x := -1) (by simp [hto])
      have f1 := HA.out.1.free tt
      have k0 : (0 : Int) ≤ (tt : Int) := Int.natCast_nonneg _
      have k1 : (tt : Int) < (k : Int) := by omega
      unfold intf at c1
      have HA2 : Hid (FarAtW w (.slice (some ⟨w.heap.size, 0, none⟩) k k) (farTo ns l k tt 0) (wr.setCell ⟨w.heap.size, tt, none⟩ (.int .i64 0))) := HA.out.set tt 0
      go_wp2_with fail
      clear HA c1 f1
      go_loopw [11, 12, 13, 14] (fun s11 s12 s13 s14 wr => ∃ d : Nat, d ≤ k ∧ s11 = .int .i64 d ∧ Hid (FarAtW w (.slice (some ⟨w.heap.size, 0, none⟩) k k) (farTo ns l k tt d) wr)) (fun s11 _ _ _ _ => k - (intOf s11).toNat)
      case atStart => exact ⟨0, Nat.zero_le _, rfl, HA2.out⟩
      case round =>
        clear HA2
        obtain ⟨d, hd, rfl, H⟩ := hrel
        by_cases hdk : d < k
        · go_wp2_with fail
          go_loopw [12, 13, 14] (fun s12 s13 s14 wr => ∃ j : Nat, j ≤ l.length ∧ s12 = .int .i64 j ∧ Hid (FarAtW w (.slice (some ⟨w.heap.size, 0, none⟩) k k) ((l.take j).foldl (farStep ns d) (farTo ns l k tt d)) wr)) (fun s12 _ _ _ => l.length - (intOf s12).toNat)
          case atStart => exact ⟨0, Nat.zero_le _, rfl, H.out⟩
          case round =>
            clear H
            obtain ⟨j, hj, rfl, H⟩ := hrel
            by_cases hjl : j < l.length
            · obtain ⟨i, hi⟩ : ∃ i, l[j]? = some i := ⟨_, List.getElem?_eq_getElem hjl⟩
              have hil := HLT.out i (List.mem_of_getElem? hi)
              obtain ⟨lb, loff, rfl, hlb, hlcc⟩ := HLC.out (by omega)
              have hci := (H.out.2.cell (p := ⟨lb, loff + j, none⟩) hlb).trans (hlcc j i hi)
              obtain ⟨⟨x, y⟩, hy⟩ : ∃ y, ns[i]? = some y := ⟨_, List.getElem?_eq_getElem hil⟩
              obtain ⟨b, off, rfl, hbl, d1, d2⟩ := (HG.out.pairs.below H.out.2).edge hy
              have hends := HG.out.ends i _ hy
              simp only at hends d1 d2
              obtain ⟨hx1, hy1, hne⟩ := hends
              have HTK := Lib.hid (show l.take (j + 1) = l.take j ++ [i] by
                rw [List.take_succ_eq_append_getElem hjl, (List.getElem?_eq_some_iff.1 hi).2])
              obtain ⟨A, hA⟩ : ∃ A, (l.take j).foldl (farStep ns d) (farTo ns l k tt d) = A := ⟨_, rfl⟩
              have hAl : A.length = k := by rw [← hA, farFold_len, farTo_len]
              have HNX := Lib.hid (show (l.take (j + 1)).foldl (farStep ns d) (farTo ns l k tt d) = farHalf d (farHalf d A x y) y x by
                rw [HTK.out, List.foldl_append, hA]
                show farStep ns d A i = _
                unfold farStep
                rw [hy])
              rw [hA] at H
              obtain ⟨p, hp⟩ : ∃ p, A[x]? = some p := ⟨_, List.getElem?_eq_getElem (by omega)⟩
              obtain ⟨q, hq⟩ : ∃ p, A[y]? = some p := ⟨_, List.getElem?_eq_getElem (by omega)⟩
              have HF := Lib.hid (far_case (d := (d : Int)) (by omega) hne hp hq)
              rw [HF.out] at HNX
              have c1 := H.out.1.cell hp
              have c2 := H.out.1.cell hq
              have f1 := H.out.1.free x
              have f2 := H.out.1.free y
              have HAL := Lib.hid hAl
              have HP := Lib.hid hp
              have HQ := Lib.hid hq
              have HNE := Lib.hid hne
              unfold intf at c1 c2
              clear hA hAl hp hq hy hi hlcc HF HTK hne
              have j0 : (0 : Int) ≤ (j : Int) := Int.natCast_nonneg _
              have j1 : (j : Int) < (l.length : Int) := by omega
              have i0 : (0 : Int) ≤ (i : Int) := Int.natCast_nonneg _
              have i1 : (i : Int) < (ns.length : Int) := by omega
              have x0 : (0 : Int) ≤ (x : Int) := Int.natCast_nonneg _
              have x1 : (x : Int) < (k : Int) := by omega
              have y0 : (0 : Int) ≤ (y : Int) := Int.natCast_nonneg _
              have y1 : (y : Int) < (k : Int) := by omega
              unfold natf at hci
              go_wp2
              go_quiet (fail)
              by_cases h1 : p = (d : Int)
              · by_cases h2 : q < 0
                · have HN2 := Lib.hid (show (l.take (j + 1)).foldl (farStep ns d) (farTo ns l k tt d) = A.set y (d + 1) by rw [HNX.out, if_pos ⟨h1, h2⟩])
                  have e1 := beq_yes h1
                  have e3 : (((d : Int) + 1) == (d : Int)) = false := beq_no (by omega)
                  clear h1
                  have HP2 := Lib.hid (show (A.set y ((d : Int) + 1))[y]? = some ((d : Int) + 1) by rw [List.getElem?_set_self (by rw [HAL.out]; omega)])
                  have HP3 := Lib.hid (show (A.set y ((d : Int) + 1))[x]? = some p by rw [List.getElem?_set_ne (Ne.symm HNE.out)]; exact HP.out)
                  go_upto_region 16 with fail
                  generalize hW : (World.setCell (World.drewN wr _) ⟨w.heap.size, y, none⟩ (.int .i64 ((d : Int) + 1))) = W2
                  have HS2 : Hid (FarAtW w (.slice (some ⟨w.heap.size, 0, none⟩) k k) (A.set y ((d : Int) + 1)) W2) := by
                    rw [← hW]; exact (H.out.drawN _).set y _
                  clear hW c1 c2 f1 f2 d1 d2 hci
                  have c1 := HS2.out.1.cell HP2.out
                  have c2 := HS2.out.1.cell HP3.out
                  unfold intf at c1 c2
                  go_wp2
                  go_roundw
                  case rel => exact ⟨j + 1, by omega, by go_num, by rw [HN2.out]; exact HS2.out⟩
                  case measure => simp [intOf]; omega
                · have h3 : ¬ p < 0 := by omega
                  have HN2 := Lib.hid (show (l.take (j + 1)).foldl (farStep ns d) (farTo ns l k tt d) = A by rw [HNX.out, if_neg (fun h => h2 h.2), if_neg (fun h => h3 h.2)])
                  have e1 := beq_yes h1
                  have H1 := Lib.hid h1
                  clear h1
                  by_cases h4 : q = (d : Int)
                  · have e3 := beq_yes h4
                    clear h4
                    go_wp2
                    go_roundw
                    case rel => exact ⟨j + 1, by omega, by go_num, by rw [HN2.out]; exact H.out.drawN _⟩
                    case measure => simp [intOf]; omega
                  · have e3 := beq_no h4
                    clear h4
                    go_wp2
                    go_roundw
                    case rel => exact ⟨j + 1, by omega, by go_num, by rw [HN2.out]; exact H.out.drawN _⟩
                    case measure => simp [intOf]; omega
              · have e1 := beq_no h1
                have H1 := Lib.hid h1
                clear h1
                by_cases h4 : q = (d : Int)
                · have e3 := beq_yes h4
                  by_cases h5 : p < 0
                  · have HN2 := Lib.hid (show (l.take (j + 1)).foldl (farStep ns d) (farTo ns l k tt d) = A.set x (d + 1) by rw [HNX.out, if_neg (fun h => H1.out h.1), if_pos ⟨h4, h5⟩])
                    clear h4
                    go_wp2
                    go_roundw
                    case rel => exact ⟨j + 1, by omega, by go_num, by rw [HN2.out]; exact (H.out.drawN _).set x _⟩
                    case measure => simp [intOf]; omega
                  · have HN2 := Lib.hid (show (l.take (j + 1)).foldl (farStep ns d) (farTo ns l k tt d) = A by rw [HNX.out, if_neg (fun h => H1.out h.1), if_neg (fun h => h5 h.2)])
                    clear h4
                    go_wp2
                    go_roundw
                    case rel => exact ⟨j + 1, by omega, by go_num, by rw [HN2.out]; exact H.out.drawN _⟩
                    case measure => simp [intOf]; omega
                · have e3 := beq_no h4
                  have HN2 := Lib.hid (show (l.take (j + 1)).foldl (farStep ns d) (farTo ns l k tt d) = A by rw [HNX.out, if_neg (fun h => H1.out h.1), if_neg (fun h => h4 h.1)])
                  clear h4
                  go_wp2
                  go_roundw
                  case rel => exact ⟨j + 1, by omega, by go_num, by rw [HN2.out]; exact H.out.drawN _⟩
                  case measure => simp [intOf]; omega
            · obtain rfl : j = l.length := by omega
              rw [List.take_length] at H
              go_wp2
              go_roundw
              case rel => exact ⟨d + 1, by omega, by go_num, H.out⟩
              case measure => simp [intOf]; omega
        · obtain rfl : d = k := by omega
          go_wp2
          go_ret
          exact ⟨_, rfl, H.out.1, H.out.2⟩
end Go.Proofs.Ytcaeemcobgopmaa
