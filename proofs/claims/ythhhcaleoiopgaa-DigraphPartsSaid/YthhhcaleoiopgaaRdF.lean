/-
  Reference 08: Far.
-/
import Derived.Test.YthhhcaleoiopgaaLoM
import Derived.Test.YthhhcaleoiopgaaRdB
namespace Go.Proofs.Ythhhcaleoiopgaa
open Go.RowKit
set_option linter.unusedVariables false
attribute [local go_sem ↓] Go.wp_at_zero Go.wp_at_succ

theorem far_list {n b : Nat} {es : List (Nat × Nat)} {d : Nat → Int} (h : IsFar es b d) (he : EndsD n es) : ∀ (m v : Nat), d v = m → v < n → ∃ L : List Nat, L.length = m + 1 ∧ L.Nodup ∧ ∀ x ∈ L, x < n ∧ d x ≤ m := by
  intro m
  induction m with
  | zero => exact fun v hv hn => ⟨[v], rfl, by simp, fun x hx => by rw [List.mem_singleton.1 hx]; exact ⟨hn, by omega⟩⟩
  | succ m ih =>
    intro v hv hn
    rcases h.from_ v with h1 | ⟨_, h1⟩ | ⟨_, k, h1, h2⟩
    · omega
    · omega
    · obtain ⟨L, l1, l2, l3⟩ := ih k (by omega) (he.mem h1).2
      refine ⟨v :: L, by simp [l1], List.nodup_cons.2 ⟨fun hm => by have := (l3 v hm).2; omega, l2⟩, fun x hx => ?_⟩
      rcases List.mem_cons.1 hx with rfl | hx
      · exact ⟨hn, by omega⟩
      · have := l3 x hx; exact ⟨this.1, by omega⟩
theorem far_lt {n b : Nat} {es : List (Nat × Nat)} {d : Nat → Int} (h : IsFar es b d) (he : EndsD n es) {v : Nat} (hv : v < n) : d v < n := by
  rcases Int.lt_or_le (d v) 0 with h1 | h1
  · omega
  · obtain ⟨m, hm⟩ := Int.eq_ofNat_of_zero_le h1
    obtain ⟨L, l1, l2, l3⟩ := far_list h he m v hm hv
    have := nodup_len_le n L l2 (fun x hx => (l3 x hx).1)
    omega

def farW (n : Nat) (d : Nat → Int) (i : Nat) : Int := if 0 ≤ d i then d i else (n : Int) + 1
structure FarI (n : Nat) (d : Nat → Int) (k : Nat) (A : List Int) : Prop where
  len : A.length = n
  lo : ∀ i, i < n → farW n d i ≤ A.getD i 0
  hi : ∀ i, i < n → A.getD i 0 ≤ (n : Int) + 1
  ex : ∀ i, i < n → 0 ≤ d i → d i ≤ k → A.getD i 0 = d i
def FarP (es : List (Nat × Nat)) (d : Nat → Int) (k j : Nat) (A : List Int) : Prop := ∀ (i : Nat) e, i < j → es[i]? = some e → d e.2 = k → A.getD e.1 0 ≤ (k : Int) + 1
theorem FarI.step {n b k j : Nat} {es : List (Nat × Nat)} {d : Nat → Int} {A : List Int} {e : Nat × Nat} (hd : IsFar es b d) (he : EndsD n es) (h : FarI n d k A) (hp : FarP es d k j A) (hj : es[j]? = some e) :
    (A.getD e.2 0 + 1 < A.getD e.1 0 → FarI n d k (A.set e.1 (A.getD e.2 0 + 1)) ∧ FarP es d k (j + 1) (A.set e.1 (A.getD e.2 0 + 1))) ∧ (¬ A.getD e.2 0 + 1 < A.getD e.1 0 → FarP es d k (j + 1) A) := by
  have hee := he j e hj
  have hm := List.mem_of_getElem? hj
  have h2 := h.lo e.2 hee.2
  have h2h := h.hi e.2 hee.2
  have h1h := h.hi e.1 hee.1
  have hto := hd.to_ e.2
  refine ⟨fun hlt => ?_, fun hge => fun i e' hi he' hk => ?_⟩
  · have hd2 : 0 ≤ d e.2 := by
      rcases Int.lt_or_le (d e.2) 0 with h0 | h0
      · unfold farW at h2
        rw [if_neg (by omega)] at h2
        omega
      · exact h0
    have hd1 := hto hd2 e.1 hm
    have hlow : farW n d e.1 ≤ A.getD e.2 0 + 1 := by
      unfold farW at h2 ⊢
      rw [if_pos hd2] at h2
      rw [if_pos hd1.1]
      omega
    have hl := h.len
    refine ⟨⟨by rw [List.length_set]; exact hl, fun i hi => ?_, fun i hi => ?_, fun i hi h0 hk => ?_⟩, fun i e' hi he' hk => ?_⟩
    · rw [getD_set (by omega)]
      by_cases q : i = e.1
      · rw [if_pos q, q]; exact hlow
      · rw [if_neg q]; exact h.lo i hi
    · rw [getD_set (by omega)]
      by_cases q : i = e.1
      · rw [if_pos q]; omega
      · rw [if_neg q]; exact h.hi i hi
    · rw [getD_set (by omega)]
      by_cases q : i = e.1
      · have hx := h.ex i hi h0 hk
        subst q
        unfold farW at hlow
        rw [if_pos h0] at hlow
        omega
      · rw [if_neg q]; exact h.ex i hi h0 hk
    · rw [getD_set (by omega)]
      by_cases q : e'.1 = e.1
      · rw [if_pos q]
        by_cases qi : i = j
        · subst qi
          rw [hj] at he'
          cases he'
          have := h.ex e.2 hee.2 (by omega) (by omega)
          omega
        · have := hp i e' (by omega) he' hk
          rw [q] at this
          omega
      · rw [if_neg q]
        by_cases qi : i = j
        · subst qi
          rw [hj] at he'
          cases he'
          exact absurd rfl q
        · exact hp i e' (by omega) he' hk
  · by_cases qi : i = j
    · subst qi
      rw [hj] at he'
      cases he'
      have := h.ex e.2 hee.2 (by omega) (by omega)
      omega
    · exact hp i e' (by omega) he' hk
theorem FarI.done {n b k : Nat} {es : List (Nat × Nat)} {d : Nat → Int} {A : List Int} (hd : IsFar es b d) (h : FarI n d k A) (hp : FarP es d k es.length A) : FarI n d (k + 1) A := by
  refine ⟨h.len, h.lo, h.hi, fun i hi h0 hk => ?_⟩
  by_cases q : d i ≤ k
  · exact h.ex i hi h0 q
  · rcases hd.from_ i with h1 | ⟨_, h1⟩ | ⟨_, x, hx, hx2⟩
    · omega
    · omega
    · obtain ⟨t, ht⟩ := List.mem_iff_getElem?.1 hx
      have h3 := hp t (i, x) (List.getElem?_eq_some_iff.1 ht).1 ht (show d x = k by omega)
      have h4 := h.lo i hi
      unfold farW at h4
      rw [if_pos h0] at h4
      simp only at h3
      omega
theorem FarI.start {n b : Nat} {es : List (Nat × Nat)} {d : Nat → Int} (hd : IsFar es b d) (he : EndsD n es) (hb : b < n) : FarI n d 0 ((fl n (fun _ => (n : Int) + 1)).set b 0) := by
  have hg : ∀ i, i < n → ((fl n (fun _ => (n : Int) + 1)).set b 0).getD i 0 = if i = b then 0 else (n : Int) + 1 := fun i hi => by
    rw [fl_set, List.getD_eq_getElem?_getD, fl_get _ hi]; rfl
  refine ⟨by rw [List.length_set, fl_len], fun i hi => ?_, fun i hi => ?_, fun i hi h0 hk => ?_⟩
  · rw [hg i hi]
    unfold farW
    have := far_lt hd he hi
    by_cases q : i = b
    · subst q
      rw [if_pos rfl, hd.zero]; simp
    · rw [if_neg q]
      split <;> omega
  · rw [hg i hi]; split <;> omega
  · have := far_zero hd (show d i = 0 by omega)
    rw [hg i hi, if_pos this]; omega
theorem FarI.all {n b : Nat} {es : List (Nat × Nat)} {d : Nat → Int} {A : List Int} (hd : IsFar es b d) (he : EndsD n es) (h : FarI n d n A) : A = fl n (farW n d) := by
  refine List.ext_getElem? fun i => ?_
  by_cases hi : i < n
  · obtain ⟨z, hz⟩ : ∃ z, A[i]? = some z := ⟨_, List.getElem?_eq_getElem (by rw [h.len]; exact hi)⟩
    have e : A.getD i 0 = z := by rw [List.getD_eq_getElem?_getD, hz]; rfl
    rw [fl_get _ hi, hz]
    congr 1
    have h1 := h.lo i hi
    have h2 := h.hi i hi
    unfold farW at h1 ⊢
    by_cases h0 : 0 ≤ d i
    · have := h.ex i hi h0 (by have := far_lt hd he hi; omega)
      rw [if_pos h0]; omega
    · rw [if_neg h0] at h1 ⊢; omega
  · rw [fl_out _ hi, List.getElem?_eq_none (by rw [h.len]; omega)]

set_option maxRecDepth 100000 in
set_option maxHeartbeats 2000000 in
theorem rfar_any (n b : Nat) (v : Value) (es : List (Nat × Nat)) (w : World) (hg : Dg w n v es) (hb : b < n) :
    Calls Try.prog 60 #[.int .i64 (n : Int), v, .int .i64 (b : Int)] w fun e w' => e = .returned (.slice (some ⟨w.heap.size, 0, none⟩) n n) ∧ Own w' w.heap.size 3 intf (.slice (some ⟨w.heap.size, 0, none⟩) n n) (fl n (farW n (farD es b))) ∧ Below w.heap.size w w' := by
  have hn60 := hg.n_le
  have hm := hg.m_le
  have HG := Lib.hid hg
  have HD := Lib.hid (all_far n es b hb)
  obtain ⟨d, hd⟩ : ∃ d, farD es b = d := ⟨_, rfl⟩
  rw [hd] at HD ⊢
  obtain ⟨eao, ecap, rfl, _⟩ := hg.pairs.open_
  have hmk := fun W => run_make_one (P := Try.prog) 23 3 8 (.int .i64 0) Try.underlying23 (by kernel_rfl) (by omega) n (by omega) W
  have HR0 : Hid (RC w n (fl n (fun i => if i < 0 then (n : Int) + 1 else 0)) (w.alloc (.cells (madeCells (Value.int .i64 0).cells n) 3))) := by
    refine ⟨below_new _ _, ?_⟩
    have := own_made w 3 intf 0 (.int .i64 0) rfl n (by omega) w.heap.size (Nat.le_refl _)
    rw [fl_const, fl_ext (g := fun i => if i < 0 then (n : Int) + 1 else 0) (fun k hk => (if_neg (by omega)).symm)] at this
    exact this
  have hn1 : wrap64 ((n : Int) + 1) = (n : Int) + 1 := IntWalk.wrap64_in _ (by omega)
  clear hg hd
  go_enter Try.func60, Try.ntmps60
  go_wp2_with fail
  go_loopw [8] (fun s8 wr => ∃ i : Nat, i ≤ n ∧ s8 = .int .i64 (i : Int) ∧ Hid (RC w n (fl n (fun q => if q < i then (n : Int) + 1 else 0)) wr)) (fun s8 _ => n - (intOf s8).toNat)
  case atStart => exact ⟨0, Nat.zero_le _, rfl, HR0.out⟩
  case round =>
    clear HR0
    obtain ⟨i, hin, rfl, HI⟩ := hrel
    by_cases hlt : i < n
    · have f1 := HI.out.own.free i
      obtain ⟨z2, c2⟩ : ∃ z, wr.cell? ⟨w.heap.size, i, none⟩ = some z := ⟨_, HI.out.own.cell (fl_get _ hlt)⟩
      have hgl := (HI.out.own.lt w.heap.size rfl).2
      have i0 : (0 : Int) ≤ (i : Int) := Int.natCast_nonneg _
      have i1 : (i : Int) < (n : Int) := by omega
      have HST : Hid (RC w n (fl n (fun q => if q < i + 1 then (n : Int) + 1 else 0)) (wr.setCell ⟨w.heap.size, i, none⟩ (.int .i64 ((n : Int) + 1)))) := by
        refine ⟨HI.out.low.setCell (p := ⟨w.heap.size, i, none⟩) (Nat.le_refl _) _, ?_⟩
        have := HI.out.own.set i ((n : Int) + 1)
        rw [fl_set, fl_ext (g := fun q => if q < i + 1 then (n : Int) + 1 else 0) (fun k hk => by
          by_cases e : k = i
          · rw [if_pos e, if_pos (by omega)]
          · rw [if_neg e]
            by_cases h : k < i
            · rw [if_pos h, if_pos (by omega)]
            · rw [if_neg h, if_neg (by omega)])] at this
        exact this
      go_wp2
      go_roundw
      case rel => exact ⟨i + 1, by omega, by go_num, HST.out⟩
      case measure => simp [intOf]; omega
    · obtain rfl : i = n := by omega
      have hA : RC w i (fl i (fun _ => (i : Int) + 1)) wr := by
        have := HI.out
        rw [fl_ext (g := fun _ => (i : Int) + 1) (fun k hk => if_pos hk)] at this
        exact this
      have f1 := hA.own.free b
      obtain ⟨z2, c2⟩ : ∃ z, wr.cell? ⟨w.heap.size, b, none⟩ = some z := ⟨_, hA.own.cell (fl_get _ hb)⟩
      have hgl := (hA.own.lt w.heap.size rfl).2
      have b0 : (0 : Int) ≤ (b : Int) := Int.natCast_nonneg _
      have b1 : (b : Int) < (i : Int) := by omega
      have HS0 : Hid (RC w i ((fl i (fun _ => (i : Int) + 1)).set b 0) (wr.setCell ⟨w.heap.size, b, none⟩ (.int .i64 0)) ∧ FarI i d 0 ((fl i (fun _ => (i : Int) + 1)).set b 0)) := ⟨⟨hA.low.setCell (p := ⟨w.heap.size, b, none⟩) (Nat.le_refl _) _, hA.own.set b 0⟩, FarI.start HD.out HG.out.ends hb⟩
      clear HI hA
      go_wp2_with fail
      clear f1 c2
      go_loopw [9, 10, 11] (fun s9 _ _ wr => ∃ (k : Nat) (A : List Int), k ≤ i ∧ s9 = .int .i64 (k : Int) ∧ Hid (RC w i A wr ∧ FarI i d k A)) (fun s9 _ _ _ => i - (intOf s9).toNat)
      case atStart => exact ⟨0, _, Nat.zero_le _, rfl, HS0.out⟩
      case round =>
        clear HS0
        obtain ⟨k, A, hk, rfl, H⟩ := hrel
        by_cases hkn : k < i
        · have HS1 := Lib.hid H.out
          obtain ⟨wo, rfl⟩ : ∃ wo : World, wo = wr := ⟨_, rfl⟩
          go_wp2_with fail
          go_loopw [10, 11] (fun s10 _ wr => ∃ (j : Nat) (B : List Int), j ≤ es.length ∧ s10 = .int .i64 (j : Int) ∧ Hid (RC w i B wr ∧ FarI i d k B ∧ FarP es d k j B)) (fun s10 _ _ => es.length - (intOf s10).toNat)
          case atStart => exact ⟨0, A, Nat.zero_le _, rfl, HS1.out.1, HS1.out.2, fun i e hi => by omega⟩
          case round =>
            clear HS1
            obtain ⟨j, B, hj, rfl, HI⟩ := hrel
            by_cases hjm : j < es.length
            · obtain ⟨e, he⟩ : ∃ e, es[j]? = some e := ⟨_, List.getElem?_eq_getElem hjm⟩
              obtain ⟨x, y⟩ := e
              obtain ⟨hx, hy⟩ := HG.out.ends j _ he
              simp only at hx hy
              obtain ⟨eb, off, rfl, hbl, hc1, hc2⟩ := HG.out.pairs.edge he
              have d1 := (HI.out.1.low.cell (p := ⟨eb, off + j * 2, none⟩) hbl).trans hc1
              have d2 := (HI.out.1.low.cell (p := ⟨eb, off + j * 2 + 1, none⟩) hbl).trans hc2
              have hBl := HI.out.2.1.len
              obtain ⟨zx, hzx⟩ : ∃ z, B[x]? = some z := ⟨_, List.getElem?_eq_getElem (by omega)⟩
              obtain ⟨zy, hzy⟩ : ∃ z, B[y]? = some z := ⟨_, List.getElem?_eq_getElem (by omega)⟩
              have c1 := HI.out.1.own.cell hzx
              have c2 := HI.out.1.own.cell hzy
              unfold intf at c1 c2
              have f1 := HI.out.1.own.free x
              have hgl := (HI.out.1.own.lt w.heap.size rfl).2
              have ex : B.getD x 0 = zx := by rw [List.getD_eq_getElem?_getD, hzx]; rfl
              have ey : B.getD y 0 = zy := by rw [List.getD_eq_getElem?_getD, hzy]; rfl
              have hbd : 0 ≤ zy ∧ zy ≤ 100 := by
                have h1 := HI.out.2.1.lo y hy
                have h2 := HI.out.2.1.hi y hy
                rw [ey] at h1 h2
                unfold farW at h1
                split at h1 <;> omega
              have hst := FarI.step HD.out HG.out.ends HI.out.2.1 HI.out.2.2 he
              simp only [ex, ey] at hst
              have HSTP := Lib.hid hst
              have x0 : (0 : Int) ≤ (x : Int) := Int.natCast_nonneg _
              have x1 : (x : Int) < (i : Int) := by omega
              have y0 : (0 : Int) ≤ (y : Int) := Int.natCast_nonneg _
              have y1 : (y : Int) < (i : Int) := by omega
              have j0 : (0 : Int) ≤ (j : Int) := Int.natCast_nonneg _
              have j1 : (j : Int) < (es.length : Int) := by omega
              obtain ⟨y0', y1'⟩ := hbd
              clear he hc1 hc2 hzx hzy ex ey hst hBl hn1
              by_cases hlt2 : zy + 1 < zx
              · have HN : Hid (RC w i (B.set x (zy + 1)) (wr.setCell ⟨w.heap.size, x, none⟩ (.int .i64 (zy + 1))) ∧ FarI i d k (B.set x (zy + 1)) ∧ FarP es d k (j + 1) (B.set x (zy + 1))) := ⟨⟨HI.out.1.low.setCell (p := ⟨w.heap.size, x, none⟩) (Nat.le_refl _) _, HI.out.1.own.set x (zy + 1)⟩, HSTP.out.1 hlt2⟩
                go_wp2
                go_roundw
                case rel => exact ⟨j + 1, B.set x (zy + 1), by omega, by go_num, HN.out⟩
                case measure => simp [intOf]; omega
              · have HN : Hid (RC w i B wr ∧ FarI i d k B ∧ FarP es d k (j + 1) B) := ⟨HI.out.1, HI.out.2.1, HSTP.out.2 hlt2⟩
                go_wp2
                go_roundw
                case rel => exact ⟨j + 1, B, by omega, by go_num, HN.out⟩
                case measure => simp [intOf]; omega
            · obtain rfl : j = es.length := by omega
              have HN := Lib.hid (And.intro HI.out.1 (FarI.done HD.out HI.out.2.1 HI.out.2.2))
              go_wp2
              go_roundw
              case rel => exact ⟨k + 1, B, by omega, by go_num, HN.out⟩
              case measure => simp [intOf]; omega
        · obtain rfl : k = i := by omega
          have HA : Hid (RC w k (fl k (farW k d)) wr) := by
            rw [← FarI.all HD.out HG.out.ends H.out.2]; exact H.out.1
          go_wp2
          go_ret
          exact ⟨rfl, HA.out.own, HA.out.low⟩
end Go.Proofs.Ythhhcaleoiopgaa
