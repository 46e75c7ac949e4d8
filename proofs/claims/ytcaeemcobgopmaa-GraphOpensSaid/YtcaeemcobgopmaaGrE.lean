/-
  Graph: the shortest way (way).
-/
import Derived.Test.YtcaeemcobgopmaaGrC
import Derived.Test.YtcaeemcobgopmaaGrW
import Derived.Test.YtcaeemcobgopmaaRep
import Derived.Deep.LoopGhost
import Derived.Deep.RegionHeld3
import Derived.BigRegion
namespace Go.Proofs.Ytcaeemcobgopmaa
open Go.RowKit
set_option linter.unusedVariables false
attribute [local go_sem ↓] Go.wp_at_zero Go.wp_at_succ

theorem other_nat (x y h k : Nat) (hk : x + y = h + k) (hx : x ≤ 2000) (hy : y ≤ 2000) (w : World) :
    Calls Try.prog 40 #[.agg #[.int .i64 (x : Int), .int .i64 (y : Int)], .int .i64 (h : Int)] w fun e w' => e = .returned (.int .i64 (k : Int)) ∧ Below w.heap.size w w' := by
  refine (other_any x y h w (by omega) (by omega) (by omega)).mono ?_
  rintro e w' ⟨rfl, hb⟩
  exact ⟨ret_int (by omega), hb⟩

structure BQ (w : World) (GA capA n : Nat) (wr : World) (g off cap : Nat) (ql : List Nat) (A : List Int) : Prop where
  que : Que wr w.heap.size 3 natf g off cap ql
  own : Own wr w.heap.size 3 intf (.slice (some ⟨GA, 0, none⟩) n capA) A
  len : A.length = n
  ne : g ≠ GA
  low : ∀ v ∈ ql, v < n
  bd : ∀ v, ofList A v + neg A ≤ n
  below : Below w.heap.size w wr

section
variable {w wr w1 : World} {GA capA n g off cap : Nat} {ql : List Nat} {A : List Int}
theorem BQ.of_below (h : BQ w GA capA n wr g off cap ql A) (hb : Below wr.heap.size wr w1) : BQ w GA capA n w1 g off cap ql A :=
  ⟨h.que.below hb, h.own.below hb, h.len, h.ne, h.low, h.bd, h.below.trans (hb.mono h.below.size)⟩
theorem BQ.push (h : BQ w GA capA n wr g off cap ql A) {k : Nat} {z y : Int} (hk : A[k]? = some z) (hz : z < 0) (hy : 0 ≤ y) (hyb : y + neg A ≤ n + 1) {w2 : World} {g' off' cap' : Nat}
    (hq : Que w2 w.heap.size 3 natf g' off' cap' (ql ++ [k])) (hg : (wr.setCell ⟨GA, k, none⟩ (intf y)).grownBy w2 (some g)) (hat : (g' = g ∧ off' = off) ∨ (wr.heap.size ≤ g' ∧ off' = 0)) :
    BQ w GA capA n w2 g' off' cap' (ql ++ [k]) (A.set k y) := by
  have hneg := neg_set A k z y hk hz hy
  have hkl : k < A.length := (List.getElem?_eq_some_iff.1 hk).1
  have hga := (h.own.lt GA rfl)
  refine ⟨hq, ?_, by rw [List.length_set]; exact h.len, ?_, fun v hv => ?_, fun v => ?_, ?_⟩
  · have o1 := h.own.set k y
    exact o1.only hg (fun g0 e => by cases e; exact fun e => h.ne (by injection e with e; exact e.symm))
  · rcases hat with ⟨rfl, _⟩ | ⟨h1, _⟩
    · exact h.ne
    · omega
  · rcases List.mem_append.1 hv with hv | hv
    · exact h.low v hv
    · rw [List.mem_singleton.1 hv]; have := h.len; omega
  · rw [ofList_set hkl]
    unfold upd
    have hn : (neg A : Int) = (neg (A.set k y) : Int) + 1 := by omega
    split
    · omega
    · have := h.bd v; omega
  · have b1 : Below w.heap.size w (wr.setCell ⟨GA, k, none⟩ (intf y)) := h.below.setCell hga.1 _
    have hsz := h.below.size
    exact below_grown b1 hg (by simpa using hsz) (fun g0 e => by cases e; exact h.que.lt.1)
theorem BQ.tail {x : Nat} (h : BQ w GA capA n wr g off cap (x :: ql) A) : BQ w GA capA n wr g (off + 1) (cap - 1) ql A :=
  ⟨h.que.tail, h.own, h.len, h.ne, fun v hv => h.low v (by simp [hv]), h.bd, h.below⟩
theorem BQ.last {x : Nat} (h : BQ w GA capA n wr g off 1 (x :: ql) A) : BQ w GA capA n wr g off 0 ql A :=
  ⟨h.que.last, h.own, h.len, h.ne, fun v hv => h.low v (by simp [hv]), h.bd, h.below⟩
end

/-- What a row of edges at a node is. -/
def RowOk (ns : List (Nat × Nat)) (U : Nat → Bool) (n : Nat) (rows : List (List Nat)) : Prop :=
  rows.length = n ∧ ∀ (v : Nat) r, rows[v]? = some r → r.length ≤ 100000 ∧ ∀ i, i ∈ r ↔ (U i = true ∧ inc ns i v = true)

def WayPost (w : World) (ns : List (Nat × Nat)) (rows : List (List Nat)) (U : Nat → Bool) (a b : Nat) (e : Ending) (w' : World) : Prop :=
  (∃ d, IsDist ns U b d ∧ ((0 ≤ d a ∧ ∃ v, e = .returned (.tuple #[v, .bool true]) ∧ Own w' w.heap.size 3 natf v (wayOf ns rows d a)) ∨ (d a < 0 ∧ e = .returned (.tuple #[.slice none 0 0, .bool false])))) ∧ Below w.heap.size w w'

theorem neg_rep (n : Nat) : neg (List.replicate n (-1)) = n := by
  unfold neg
  rw [List.countP_replicate]; simp

theorem find_first {r : List Nat} {p : Nat → Bool} {j i : Nat} (hi : r[j]? = some i) (hp : p i = true) (hno : ∀ (k : Nat) x, k < j → r[k]? = some x → p x = false) : r.find? p = some i := by
  rw [List.find?_eq_some_iff_append]
  refine ⟨hp, r.take j, r.drop (j + 1), ?_, fun a ha => ?_⟩
  · obtain ⟨hj, e⟩ := List.getElem?_eq_some_iff.1 hi
    rw [← e, List.getElem_cons_drop, List.take_append_drop]
  · obtain ⟨k, hk, rfl⟩ := List.getElem_of_mem ha
    have hkj : k < j := by simp at hk; omega
    have h1 : k < r.length := by simp at hk; omega
    have := hno k (r[k]'h1) hkj (List.getElem?_eq_getElem h1)
    rw [List.getElem_take]
    simp [this]

theorem oth_sum {ns : List (Nat × Nat)} {i h : Nat} {e : Nat × Nat} (he : ns[i]? = some e) (hi : inc ns i h = true) : e.1 + e.2 = h + oth ns i h := by
  obtain ⟨e', he', h1⟩ := inc_cases hi
  rw [he] at he'
  cases he'
  rcases h1 with ⟨h1, h2⟩ | ⟨h1, h2⟩
  · rw [h2, h1]
  · rw [h2, h1]; omega

theorem oth_lt {ns : List (Nat × Nat)} {n i h : Nat} (he : Ends n ns) (hi : inc ns i h = true) : oth ns i h < n := by
  obtain ⟨e, h0, h1⟩ := inc_cases hi
  have := he i e h0
  rcases h1 with ⟨_, h2⟩ | ⟨_, h2⟩ <;> rw [h2] <;> omega

/-- Where the path stands. -/
structure PathAt (w : World) (ns : List (Nat × Nat)) (rows : List (List Nat)) (GA capA n : Nat) (A : List Int) (a x : Nat) (v : Value) (out : List Nat) (wr : World) : Prop where
  reach : 0 ≤ ofList A x
  path : out ++ wayOf ns rows (ofList A) x = wayOf ns rows (ofList A) a
  len : out.length + (ofList A x).toNat ≤ n
  out_ : Own wr w.heap.size 3 natf v out
  own : Own wr w.heap.size 3 intf (.slice (some ⟨GA, 0, none⟩) n capA) A
  ne : v.ownBlock ≠ some GA
  below : Below w.heap.size w wr

theorem PathAt.of_below {w wr w1 : World} {ns : List (Nat × Nat)} {rows : List (List Nat)} {GA capA n : Nat} {A : List Int} {a x : Nat} {v : Value} {out : List Nat} (h : PathAt w ns rows GA capA n A a x v out wr) (hb : Below wr.heap.size wr w1) : PathAt w ns rows GA capA n A a x v out w1 :=
  ⟨h.reach, h.path, h.len, h.out_.below hb, h.own.below hb, h.ne, h.below.trans (hb.mono h.below.size)⟩

set_option maxRecDepth 100000 in
set_option maxHeartbeats 4000000 in
theorem way_any (n : Nat) (ve vat : Value) (ns : List (Nat × Nat)) (rows : List (List Nat)) (U : Nat → Bool) (a b : Nat) (w : World) (hn : n ≤ 1000) (hm : ns.length ≤ 4000) (hp : NPairs w ve ns) (hr : Rows w vat rows) (he : Ends n ns) (hok : RowOk ns U n rows) (ha : a < n) (hb : b < n) :
    Calls Try.prog 42 #[ve, vat, .int .i64 (a : Int), .int .i64 (b : Int)] w (WayPost w ns rows U a b) := by
  obtain ⟨ao, cap, rfl, h⟩ := hp.open_
  obtain ⟨ao2, cap2, rfl, h2⟩ := hr
  obtain ⟨rb, roff, rfl, hrlt, hrc⟩ := h2 (by rw [hok.1]; omega)
  have HE := Lib.hid he
  have HOK := Lib.hid hok
  have HRC := Lib.hid hrc
  have HH := Lib.hid h
  have hrl := hok.1
  rw [hrl]
  clear he hok hp h h2 hrc hrl
  have hi1 : Ints (w.alloc (.cells #[.int .i64 (-1)] 3)) (.slice (some ⟨w.heap.size, 0, none⟩) 1 1) [-1] := by
    refine ⟨_, 1, rfl, fun _ => ⟨_, _, rfl, by simp, fun k x hk => ?_⟩⟩
    match k, hk with
    | 0, hk => cases hk; rw [World.cell?_alloc_at _ _ _ _ rfl]; rfl
  go_enter Try.func42, Try.ntmps42
  go_wp2_with fail
  refine (repeat_any _ (-1) n _ hi1 (by omega) (by omega)).mono ?_
  rintro e w1 ⟨⟨u, rfl, hown⟩, hB1⟩
  obtain ⟨GA, capA, rfl, hg1, hg2, hg3⟩ := hown.form (by simp; omega)
  rw [List.length_replicate]
  have hB2 := below_new w (.cells #[.int .i64 (-1)] 3)
  have hB3 := bstep hB2 hB1
  have hsz1 : w.heap.size < w1.heap.size := by have := hB1.size; simp at this; omega
  rw [List.length_replicate] at hown
  have c1 := hown.cell (k := b) (x := -1) (by simp [hb])
  have f1 := hown.free b
  have HOWN := Lib.hid (hown.mono (base' := w.heap.size) (by simp))
  clear hown hi1 hB1
  unfold intf at c1
  go_wp2_with fail
  have hq0 : BQ w GA capA n ((w1.setCell ⟨GA, b, none⟩ (.int .i64 0)).alloc (.cells #[.int .i64 (b : Int)] 3)) w1.heap.size 0 1 [b] ((List.replicate n (-1)).set b 0) := by
    have hb0 : w.heap.size ≤ (w1.setCell ⟨GA, b, none⟩ (.int .i64 0)).heap.size := by simp; omega
    have q := Que.of_one (e := 3) (w1.setCell ⟨GA, b, none⟩ (.int .i64 0)) natf b hb0
    have hss : (w1.setCell ⟨GA, b, none⟩ (.int .i64 0)).heap.size = w1.heap.size := by simp
    rw [hss] at q
    refine ⟨q, (HOWN.out.set b 0).alloc _, by simp, by omega, fun v hv => by rw [List.mem_singleton.1 hv]; exact hb, fun v => ?_, ?_⟩
    · have hng := neg_set (List.replicate n (-1)) b (-1) 0 (by simp [hb]) (by omega) (by omega)
      rw [neg_rep] at hng
      rw [ofList_set (by simpa using hb), ofList_rep]
      unfold upd
      split
      · omega
      · show (-1 : Int) + _ ≤ _
        omega
    · exact (hB3.setCell (by have := (HOWN.out.lt GA rfl).1; simpa using this) _).alloc hb0 _
  have hn0 : 2 * neg ((List.replicate n (-1)).set b 0) + 1 ≤ 2 * n + 1 := by
    have hng := neg_set (List.replicate n (-1)) b (-1) 0 (by simp [hb]) (by omega) (by omega)
    rw [neg_rep] at hng
    omega
  have hbf0 : Bfs ns U b (ofList ((List.replicate n (-1)).set b 0)) [b] := by
    rw [ofList_set (by simpa using hb), ofList_rep]; exact Bfs.start ns U b
  clear HOWN c1 f1 hB2 hB3 hg1 hg2 hg3
  go_loopg [11] (2 * n + 1) (fun gk q wr => ∃ g off cp ql A, q = .slice (some ⟨g, off, none⟩) ql.length cp ∧ Hid (BQ w GA capA n wr g off cp ql A ∧ Bfs ns U b (ofList A) ql) ∧ 2 * neg A + ql.length ≤ gk ∧ gk ≤ 2 * n + 1)
  case atStart => exact ⟨_, _, _, [b], _, rfl, ⟨hq0, hbf0⟩, hn0, Nat.le_refl _⟩
  case round =>
    obtain ⟨g, off, cp, ql, A, rfl, H, hgk, hgn⟩ := hrel
    clear hq0 hn0 hbf0
    cases ql with
    | nil =>
      obtain ⟨hbq, hbf⟩ := H.out
      clear H
      obtain ⟨x, hx⟩ : ∃ x, A[a]? = some x := ⟨_, List.getElem?_eq_getElem (by rw [hbq.len]; exact ha)⟩
      have c2 := hbq.own.cell hx
      have HD := Lib.hid hbf.finish
      have HA := Lib.hid (ofList_get hx)
      have HBQ := Lib.hid hbq
      unfold intf at c2
      clear hx hbq hbf
      by_cases hx0 : x < 0
      · go_wp2
        go_ret2
        exact ⟨⟨_, HD.out, .inr ⟨by rw [HA.out]; exact hx0, rfl⟩⟩, HBQ.out.below⟩
      · have hx1 : 0 ≤ x := by omega
        clear hx0
        have hbdx : ofList A a ≤ n := by have := HBQ.out.bd a; omega
        have hp0 : PathAt w ns rows GA capA n A a a (.slice none 0 0) [] wr := ⟨by rw [HA.out]; exact hx1, rfl, by simp; omega, Own.nil _ _ _ _, HBQ.out.own, by simp [Value.ownBlock], HBQ.out.below⟩
        have HP0 := Lib.hid hp0
        have HBD := Lib.hid HBQ.out.bd
        have HLEN := Lib.hid HBQ.out.len
        clear hp0 HBQ hbdx
        go_wp2
        clear c2
        go_loopg [2, 15] (ofList A a).toNat (fun gk s2 s15 wr => ∃ (x : Nat) (out : List Nat), s2 = .int .i64 x ∧ x < n ∧ Hid (PathAt w ns rows GA capA n A a x s15 out wr ∧ (ofList A x).toNat ≤ gk))
        case atStart => exact ⟨a, [], rfl, ha, HP0.out, Nat.le_refl _⟩
        case round =>
          rename_i gk' wr'
          obtain ⟨y, out, rfl, hy, H⟩ := hrel
          by_cases hyb : y = b
          · subst hyb
            have hb0 := bne_no (show (y : Int) = (y : Int) from rfl)
            go_wp2
            go_ret2
            have hP := H.out.1
            have hz := HD.out.zero
            have e1 := hP.path
            rw [wayOf_end hz, List.append_nil] at e1
            exact ⟨⟨_, HD.out, .inl ⟨by rw [HA.out]; exact hx1, _, rfl, by rw [← e1]; exact hP.out_⟩⟩, hP.below⟩
          · have hb0 := bne_yes (show (y : Int) ≠ (b : Int) by omega)
            have hge : 1 ≤ ofList A y ∧ ∃ i, U i = true ∧ inc ns i y = true ∧ ofList A (oth ns i y) = ofList A y - 1 := by
              have h1 := H.out.1.reach
              rcases HD.out.from_ y with h2 | ⟨h2, _⟩ | h2
              · omega
              · exact absurd h2 hyb
              · exact h2
            have HGE := Lib.hid hge
            obtain ⟨r, hr⟩ : ∃ r, rows[y]? = some r := ⟨_, List.getElem?_eq_getElem (by rw [HOK.out.1]; exact hy)⟩
            obtain ⟨u, hu, hnr⟩ := HRC.out y r hr
            obtain ⟨ao3, cap3, rfl, h3⟩ := hnr
            have hrlen := (HOK.out.2 y r hr).1
            have HR := Lib.hid hr
            have H3 := Lib.hid h3
            have hru := (H.out.1.below.cell (p := ⟨rb, roff + y, none⟩) hrlt).trans hu
            have HYB := Lib.hid hyb
            clear hge hr h3 hu hyb
            go_wp2
            clear hru
            go_loopw [2, 15, 85] (fun s2 s15 s85 wr2 => ∃ j : Nat, s85 = .int .i64 j ∧ s2 = .int .i64 y ∧ j ≤ r.length ∧ Hid (PathAt w ns rows GA capA n A a y s15 out wr2 ∧ ∀ (k : Nat) i, k < j → r[k]? = some i → (ofList A (oth ns i y) == ofList A y - 1) = false)) (fun _ _ s85 _ => r.length - (intOf s85).toNat)
            case atStart => exact ⟨0, rfl, rfl, Nat.zero_le _, H.out.1, fun k i hk => by omega⟩
            case round =>
              rename_i wr2
              obtain ⟨j, rfl, rfl, hj, H2⟩ := hrel
              by_cases hjl : j < r.length
              · obtain ⟨i, hi⟩ : ∃ i, r[j]? = some i := ⟨_, List.getElem?_eq_getElem hjl⟩
                obtain ⟨b3, off3, rfl, hb3, hc3⟩ := H3.out (by omega)
                have hci := (H2.out.1.below.cell (p := ⟨b3, off3 + j, none⟩) hb3).trans (hc3 j i hi)
                have hui := ((HOK.out.2 y r HR.out).2 i).1 (List.mem_of_getElem? hi)
                have hil := inc_lt hui.2
                obtain ⟨⟨p, q⟩, hpq⟩ : ∃ e, ns[i]? = some e := ⟨_, List.getElem?_eq_getElem hil⟩
                have hends := HE.out i _ hpq
                simp only at hends
                obtain ⟨eb, eoff, rfl, heb, hec⟩ := HH.out (by omega)
                obtain ⟨he1, he2⟩ := hec i _ hpq
                have hd1 := (H2.out.1.below.cell (p := ⟨eb, eoff + i * 2, none⟩) heb).trans he1
                have hd2 := (H2.out.1.below.cell (p := ⟨eb, eoff + i * 2 + 1, none⟩) heb).trans he2
                have hsum := oth_sum hpq hui.2
                have hkl := oth_lt HE.out hui.2
                obtain ⟨k, hk⟩ : ∃ k, oth ns i y = k := ⟨_, rfl⟩
                simp only at hd1 hd2 hsum
                rw [hk] at hsum hkl
                have HK := Lib.hid hk
                have HI := Lib.hid hi
                obtain ⟨pq1, pq2, _⟩ := hends
                have HSUM := Lib.hid hsum
                have HUI := Lib.hid hui
                clear hk hi hc3 hui hpq hec he1 he2 hsum
                go_wp2_with fail
                refine (other_nat p q y k HSUM.out (by omega) (by omega) _).mono ?_
                rintro e w9 ⟨rfl, hb9⟩
                have HP9 := Lib.hid (PathAt.of_below H2.out.1 hb9)
                obtain ⟨zk, hzk⟩ : ∃ z, A[k]? = some z := ⟨_, List.getElem?_eq_getElem (by rw [HLEN.out]; exact hkl)⟩
                obtain ⟨zy, hzy⟩ : ∃ z, A[y]? = some z := ⟨_, List.getElem?_eq_getElem (by rw [HLEN.out]; exact hy)⟩
                have ck := HP9.out.own.cell hzk
                have cy := HP9.out.own.cell hzy
                have ek := ofList_get hzk
                have ey := ofList_get hzy
                have by1 := HGE.out.1
                have by2 := HBD.out y
                rw [ey] at by1 by2
                have bzy : 1 ≤ zy ∧ zy ≤ 1000 := by omega
                have EK := Lib.hid ek
                have EY := Lib.hid ey
                unfold intf at ck cy
                have k0 : (0 : Int) ≤ (k : Int) := Int.natCast_nonneg _
                have k1 : (k : Int) < (n : Int) := by omega
                have y0 : (0 : Int) ≤ (y : Int) := Int.natCast_nonneg _
                have y1 : (y : Int) < (n : Int) := by omega
                have HJ2 := Lib.hid H2.out.2
                have hw1 : IntKind.i64.wrap (zy - 1) = zy - 1 := IntWalk.i64_in _ (by omega)
                clear hzk hzy ek ey by1 by2 hd1 hd2 hb9 hci HUI
                by_cases hz : zk = zy - 1
                · have hzb := beq_yes hz
                  have HZ := Lib.hid hz
                  clear hz
                  go_wp2
                  go_quiet (fail)
                  clear hw1
                  have HF := Lib.hid (find_first (p := fun i => ofList A (oth ns i y) == ofList A y - 1) HI.out (by rw [HK.out, EK.out, EY.out]; simpa using HZ.out) HJ2.out)
                  have hlen1 : out.length + 1 ≤ 1099511627776 := by have := HP9.out.len; omega
                  have hbase := HP9.out.below.size
                  go_wp2_with (at_builtin; refine wpList_push (w9.drewN _) rfl _ _ 25 rfl 3 8 elemInt w.heap.size natf _ out i rfl (HP9.out.out_.drawN _) rfl rfl hlen1 (by omega) hbase ?_; intro v' w' hown' hg' hat')
                  have hst := wayOf_step HR.out HF.out (by have := HGE.out.1; omega)
                  have hP := HP9.out
                  go_roundg (ofList A k).toNat
                  case measure =>
                    have h1 := H.out.2
                    have h2 := EK.out
                    have h3 := EY.out
                    have h4 := HZ.out
                    omega
                  case rel =>
                    have h2 := EK.out
                    have h3 := EY.out
                    have h4 := HZ.out
                    refine ⟨k, out ++ [i], rfl, hkl, ⟨by omega, ?_, ?_, hown', ?_, ?_, ?_⟩, Nat.le_refl _⟩
                    · rw [← hP.path, hst, HK.out]; simp
                    · have := hP.len; simp only [List.length_append, List.length_singleton]; omega
                    · exact (hP.own.drawN _).only hg' (fun g0 e => by cases e; exact fun e => hP.ne e.symm)
                    · rcases hat' with h5 | ⟨g5, h5, h6⟩
                      · rw [h5]; exact hP.ne
                      · rw [h6]
                        intro e
                        have := (hP.own.lt GA rfl).2
                        injection e with e
                        have : g5 < w9.heap.size := by omega
                        exact absurd h5 (by simp; omega)
                    · exact below_grown (below_drewN' hP.below _) hg' hbase (fun g0 e => (hP.out_.lt g0 e).1)
                · have hzb := beq_no hz
                  have HZ := Lib.hid hz
                  clear hz
                  go_wp2
                  go_quiet (fail)
                  clear hw1
                  go_wp2
                  go_roundw
                  case rel =>
                    refine ⟨j + 1, by go_num, rfl, by omega, PathAt.of_below HP9.out (bdraw _), fun k' i' hk' hi' => ?_⟩
                    by_cases e : k' = j
                    · subst e
                      rw [HI.out] at hi'
                      cases hi'
                      rw [HK.out, EK.out, EY.out]
                      exact beq_no HZ.out
                    · exact HJ2.out k' i' (by omega) hi'
                  case measure => simp [intOf]; omega
              · exfalso
                obtain ⟨i, h1, h2, h3⟩ := HGE.out.2
                have hm := ((HOK.out.2 y r HR.out).2 i).2 ⟨h1, h2⟩
                obtain ⟨k', hk', rfl⟩ := List.getElem_of_mem hm
                have := H2.out.2 k' _ (by omega) (List.getElem?_eq_getElem hk')
                rw [h3] at this
                simp at this
    | cons h t =>
      have hhn : h < n := H.out.1.low h (by simp)
      have hq := H.out.1.que.cell (k := 0) (x := h) rfl
      obtain ⟨r, hr⟩ : ∃ r, rows[h]? = some r := ⟨_, List.getElem?_eq_getElem (by rw [HOK.out.1]; exact hhn)⟩
      obtain ⟨u, hu, hnr⟩ := HRC.out h r hr
      obtain ⟨ao3, cap3, rfl, h3⟩ := hnr
      have hrlen := (HOK.out.2 h r hr).1
      have hru := (H.out.1.below.cell (p := ⟨rb, roff + h, none⟩) hrlt).trans hu
      have HR := Lib.hid hr
      have H3 := Lib.hid h3
      have HG := Lib.hid hgk
      unfold natf at hq
      rw [Nat.add_zero] at hq
      clear hr h3 hu hgk
      go_wp2
      clear hq hru
      go_loopw [11, 40] (fun s11 s40 wr2 => ∃ (j : Nat) (g off cp : Nat) (t' : List Nat) (A' : List Int), s40 = .int .i64 j ∧ j ≤ r.length ∧ s11 = .slice (some ⟨g, off, none⟩) (t'.length + 1) cp ∧
          Hid (BQ w GA capA n wr2 g off cp (h :: t') A' ∧ Bfr ns U b (ofList A') h t' (r.take j) ∧ 2 * neg A' + t'.length + 1 ≤ gk)) (fun _ s40 _ => r.length - (intOf s40).toNat)
      case atStart => exact ⟨0, g, off, cp, t, A, rfl, Nat.zero_le _, rfl, H.out.1, Bfr.start H.out.2, by have := HG.out; simp only [List.length_cons] at this; omega⟩
      case round =>
        clear H HG
        obtain ⟨j, g, off, cp, t', A', rfl, hj, rfl, H⟩ := hrel
        by_cases hjl : j < r.length
        · obtain ⟨i, hi⟩ : ∃ i, r[j]? = some i := ⟨_, List.getElem?_eq_getElem hjl⟩
          obtain ⟨b3, off3, rfl, hb3, hc3⟩ := H3.out (by omega)
          have hci := (H.out.1.below.cell (p := ⟨b3, off3 + j, none⟩) hb3).trans (hc3 j i hi)
          have hui := ((HOK.out.2 h r HR.out).2 i).1 (List.mem_of_getElem? hi)
          have hil := inc_lt hui.2
          obtain ⟨⟨p, q⟩, hpq⟩ : ∃ e, ns[i]? = some e := ⟨_, List.getElem?_eq_getElem hil⟩
          have hends := HE.out i _ hpq
          simp only at hends
          obtain ⟨eb, eoff, rfl, heb, hec⟩ := HH.out (by omega)
          obtain ⟨he1, he2⟩ := hec i _ hpq
          have hd1 := (H.out.1.below.cell (p := ⟨eb, eoff + i * 2, none⟩) heb).trans he1
          have hd2 := (H.out.1.below.cell (p := ⟨eb, eoff + i * 2 + 1, none⟩) heb).trans he2
          have hsum := oth_sum hpq hui.2
          have hkl := oth_lt HE.out hui.2
          obtain ⟨k, hk⟩ : ∃ k, oth ns i h = k := ⟨_, rfl⟩
          simp only at hd1 hd2 hsum
          rw [hk] at hsum hkl
          have HK := Lib.hid hk
          have HI := Lib.hid hi
          obtain ⟨pq1, pq2, _⟩ := hends
          have HSUM := Lib.hid hsum
          have HUI := Lib.hid hui
          have hq := H.out.1.que.cell (k := 0) (x := h) rfl
          unfold natf at hq
          rw [Nat.add_zero] at hq
          have HTK := Lib.hid (show r.take (j + 1) = r.take j ++ [i] by
            rw [List.take_succ_eq_append_getElem hjl, (List.getElem?_eq_some_iff.1 hi).2])
          have i0 : (0 : Int) ≤ (i : Int) := Int.natCast_nonneg _
          have i1 : (i : Int) < (ns.length : Int) := by omega
          have hzw := H.out.1.below.size
          have hgw := H.out.1.que.lt.2
          clear hk hi hc3 hui hpq hec he1 he2 hsum
          go_wp2
          go_region_held3 (fun w' => w'.cell? ⟨eb, eoff + i * 2, none⟩ = some (.int .i64 (p : Int)) ∧ w'.cell? ⟨eb, eoff + i * 2 + 1, none⟩ = some (.int .i64 (q : Int)) ∧ w'.cell? ⟨g, off, none⟩ = some (.int .i64 (h : Int)))
            (first
              | go_keep
              | (go_split_ands
                 refine ⟨?_, ?_, ?_⟩
                 · exact (hb9.cell (p := ⟨eb, eoff + i * 2, none⟩) (show eb < wr.heap.size by omega)).trans hd1
                 · exact (hb9.cell (p := ⟨eb, eoff + i * 2 + 1, none⟩) (show eb < wr.heap.size by omega)).trans hd2
                 · exact (hb9.cell (p := ⟨g, off, none⟩) (show g < wr.heap.size by omega)).trans hq))
            ((go_at_call 40; refine (other_nat p q h k HSUM.out (by omega) (by omega) _).mono ?_; rintro e w9 ⟨rfl, hb9⟩))
          have HQ9 := Lib.hid (BQ.of_below (BQ.of_below H.out.1 ((Below.refl _ _).drew)) hb9)
          obtain ⟨zk, hzk⟩ : ∃ z, A'[k]? = some z := ⟨_, List.getElem?_eq_getElem (by rw [HQ9.out.len]; exact hkl)⟩
          obtain ⟨zh, hzh⟩ : ∃ z, A'[h]? = some z := ⟨_, List.getElem?_eq_getElem (by rw [HQ9.out.len]; exact hhn)⟩
          have ck := HQ9.out.own.cell hzk
          have ch := HQ9.out.own.cell hzh
          have fk := HQ9.out.own.free k
          have hq9 := HQ9.out.que.cell (k := 0) (x := h) rfl
          have bh1 := H.out.2.1.all.seen h (by simp)
          have bh2 := HQ9.out.bd h
          rw [ofList_get hzh] at bh1 bh2
          have bzh : 0 ≤ zh ∧ zh ≤ 1000 := by omega
          have HZK := Lib.hid hzk
          have HZH := Lib.hid hzh
          have HB2 := Lib.hid bh2
          have HJ := Lib.hid H.out.2
          unfold intf at ck ch
          unfold natf at hq9
          rw [Nat.add_zero] at hq9
          have hw1 : IntKind.i64.wrap (zh + 1) = zh + 1 := IntWalk.i64_in _ (by omega)
          clear hzk hzh bh1 bh2 hd1 hd2 hq hci hb9 H hzw hgw
          by_cases hz : zk < 0
          · have HZ := Lib.hid hz
            have hkh : k ≠ h := fun e => by
              subst e
              have h1 := HZK.out
              rw [HZH.out] at h1
              cases h1
              omega
            have HKH := Lib.hid hkh
            have hnegA := neg_set A' k zk (zh + 1) HZK.out hz (by omega)
            have HNG := Lib.hid hnegA
            have hlen1 : (h :: t').length + 1 ≤ 1099511627776 := by
              have := HJ.out.2
              simp only [List.length_cons]
              omega
            have hbase := HQ9.out.below.size
            have hqs : Que (w9.setCell ⟨GA, k, none⟩ (.int .i64 (zh + 1))) w.heap.size 3 natf g off cp (h :: t') := HQ9.out.que.only (only_set w9 GA k (.int .i64 (zh + 1))) (by
              intro e
              injection e with e
              exact HQ9.out.ne e)
            have HQS := Lib.hid hqs
            clear hkh hnegA hqs
            go_wp2_with (at_builtin; refine wpList_pushQ (w9.setCell ⟨GA, k, none⟩ (.int .i64 (zh + 1))) rfl _ _ 25 rfl 3 8 elemInt w.heap.size natf g off cp (h :: t') k (fun _ => rfl) HQS.out rfl w9.heap.size (by simp) rfl hlen1 (by omega) (by simpa using hbase) ?_; intro g' off' cap' w' hq' hg' hat')
            go_roundw
            case rel =>
              have hA := HJ.out.1
              have hn1 : ofList A' (oth ns i h) < 0 := by rw [HK.out, ofList_get HZK.out]; exact HZ.out
              have hnew := Bfr.new hA HUI.out.1 HUI.out.2 hn1
              rw [HK.out, ofList_get HZH.out, ← ofList_set (A := A') (by rw [HQ9.out.len]; exact hkl), ← HTK.out] at hnew
              refine ⟨j + 1, g', off', cap', t' ++ [k], A'.set k (zh + 1), by go_num, by omega, by simp, ?_, hnew, ?_⟩
              · exact BQ.push HQ9.out HZK.out HZ.out (by omega) (by have := HB2.out; omega) hq' hg' hat'
              · have h1 := HNG.out
                have h2 := HJ.out.2
                simp only [List.length_append, List.length_singleton]
                omega
            case measure => simp [intOf]; omega
          · go_wp2
            go_roundw
            case rel =>
              have hold := Bfr.old HJ.out.1 (i := i) (by rw [HK.out, ofList_get HZK.out]; omega)
              rw [← HTK.out] at hold
              exact ⟨j + 1, g, off, cp, t', A', by go_num, by omega, rfl, HQ9.out, hold, HJ.out.2⟩
            case measure => simp [intOf]; omega
        · have hjr : j = r.length := by omega
          have hcp := H.out.1.que.len.1
          simp only [List.length_cons] at hcp
          have HN : Hid (Bfs ns U b (ofList A') t') := by
            refine Bfr.next H.out.2.1 (fun i h1 h2 => ?_)
            rw [List.take_of_length_le (by omega)]
            exact ((HOK.out.2 h r HR.out).2 i).2 ⟨h1, h2⟩
          have HM := Lib.hid H.out.2.2
          have HBQ := Lib.hid H.out.1
          clear H
          by_cases hc1 : cp = 1
          · subst hc1
            have ht0 : t'.length = 0 := by omega
            have HT0 := Lib.hid ht0
            clear ht0 hcp
            go_wp2
            go_roundg (gk - 1)
            case measure => have := HM.out; omega
            case rel => exact ⟨g, off, 0, t', A', rfl, ⟨HBQ.out.last, HN.out⟩, by have := HM.out; omega, by omega⟩
          · go_wp2
            go_roundg (gk - 1)
            case measure => have := HM.out; omega
            case rel => exact ⟨g, off + 1, cp - 1, t', A', rfl, ⟨HBQ.out.tail, HN.out⟩, by have := HM.out; omega, by omega⟩
end Go.Proofs.Ytcaeemcobgopmaa
