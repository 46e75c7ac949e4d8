/-
  Graph: Forest, Count, Parts.
-/
import Derived.Test.YtcaeemcobgopmaaGrC
import Derived.Test.YtcaeemcobgopmaaGrP
import Derived.Test.YtcaeemcobgopmaaMap
namespace Go.Proofs.Ytcaeemcobgopmaa
open Go.RowKit
set_option linter.unusedVariables false

theorem inF_len (ns : List (Nat × Nat)) : (inF ns).length = ns.length := by simp [inF]

theorem Own.bools {w : World} {base : Nat} {e : TypeId} {v : Value} {l : List Bool} (h : Own w base e boolf v l) : Bools w v l := h.sl

theorem forestNo_any (n : Int) (v : Value) (l : List (Int × Int)) (w : World) (hp : Pairs w v l) (hl : l.length ≤ 140737488355328) (hv : vld n l = false) :
    Calls Try.prog 18 #[.int .i64 n, v] w fun e w' => e = .returned (.tuple #[.slice none 0 0, .int .i64 1]) ∧ Below w.heap.size w w' := by
  have HV := Lib.hid hv
  clear hv
  go_enter Try.func18, Try.ntmps18
  go_wp2_with (first
    | (go_at_call 19; refine (valid_any n _ l _ hp hl).mono ?_; rw [HV.out]; rintro e w9 ⟨rfl, hb1⟩))
  go_ret2
  exact ⟨rfl, hb1⟩

theorem countNo_any (n : Int) (v : Value) (l : List (Int × Int)) (w : World) (hp : Pairs w v l) (hl : l.length ≤ 140737488355328) (hv : vld n l = false) :
    Calls Try.prog 28 #[.int .i64 n, v] w fun e w' => e = .returned (.tuple #[.int .i64 0, .int .i64 1]) ∧ Below w.heap.size w w' := by
  have HV := Lib.hid hv
  clear hv
  go_enter Try.func28, Try.ntmps28
  go_wp2_with (first
    | (go_at_call 19; refine (valid_any n _ l _ hp hl).mono ?_; rw [HV.out]; rintro e w9 ⟨rfl, hb1⟩))
  go_ret2
  exact ⟨rfl, hb1⟩

theorem partsNo_any (n : Int) (v : Value) (l : List (Int × Int)) (w : World) (hp : Pairs w v l) (hl : l.length ≤ 140737488355328) (hv : vld n l = false) :
    Calls Try.prog 17 #[.int .i64 n, v] w fun e w' => e = .returned (.tuple #[.slice none 0 0, .int .i64 1]) ∧ Below w.heap.size w w' := by
  have HV := Lib.hid hv
  clear hv
  go_enter Try.func17, Try.ntmps17
  go_wp2_with (first
    | (go_at_call 19; refine (valid_any n _ l _ hp hl).mono ?_; rw [HV.out]; rintro e w9 ⟨rfl, hb1⟩))
  go_ret2
  exact ⟨rfl, hb1⟩

/-- What a graph is, as these contracts take it. -/
structure Gr (w : World) (n : Nat) (v : Value) (ns : List (Nat × Nat)) : Prop where
  pairs : NPairs w v ns
  n_le : n ≤ 1000
  m_le : ns.length ≤ 4000
  ends : Ends n ns
  ok : vld (n : Int) (cst ns) = true
theorem Gr.below {w w1 : World} {n : Nat} {v : Value} {ns : List (Nat × Nat)} (h : Gr w n v ns) (hb : Below w.heap.size w w1) : Gr w1 n v ns := ⟨h.pairs.below hb, h.n_le, h.m_le, h.ends, h.ok⟩

def OwnRet (w : World) (l : List Nat) (e : Ending) (w' : World) : Prop :=
  (∃ u, e = .returned (.tuple #[u, .int .i64 0]) ∧ Own w' w.heap.size 3 natf u l) ∧ Below w.heap.size w w'

theorem forest_ok (n : Nat) (v : Value) (ns : List (Nat × Nat)) (w : World) (hg : Gr w n v ns) :
    Calls Try.prog 18 #[.int .i64 (n : Int), v] w (OwnRet w (forestOf ns)) := by
  have hcl : (cst ns).length ≤ 140737488355328 := by rw [cst_len]; have := hg.m_le; omega
  have HO := Lib.hid hg.ok
  have hn := hg.n_le
  have hm := hg.m_le
  go_enter Try.func18, Try.ntmps18
  go_wp2_with fail
  refine (valid_any n _ (cst ns) _ hg.pairs hcl).mono ?_
  rw [HO.out]
  rintro e w1 ⟨rfl, hb1⟩
  go_wp2_with fail
  refine (forest_any n _ ns _ hn hm (hg.pairs.below hb1) hg.ends).mono ?_
  rintro e w2 ⟨a, u, L, rfl, ha, hu, hL, huf, hb2⟩
  go_wp2_with fail
  refine (indices_any _ (inF ns) true _ ha.bools (by rw [inF_len]; omega)).mono ?_
  rintro e w3 ⟨q, rfl, hq, hb3⟩
  have hB2 := bstep hb1 hb2
  have hB3 := bstep hB2 hb3
  go_wp2
  go_ret2
  exact ⟨⟨q, rfl, hq.mono hB2.size⟩, hB3⟩

theorem count_ok (n : Nat) (v : Value) (ns : List (Nat × Nat)) (w : World) (hg : Gr w n v ns) :
    Calls Try.prog 28 #[.int .i64 (n : Int), v] w fun e w' => e = .returned (.tuple #[.int .i64 ((otherOf ns).length : Int), .int .i64 0]) ∧ Below w.heap.size w w' := by
  have hcl : (cst ns).length ≤ 140737488355328 := by rw [cst_len]; have := hg.m_le; omega
  have HO := Lib.hid hg.ok
  have hn := hg.n_le
  have hm := hg.m_le
  go_enter Try.func28, Try.ntmps28
  go_wp2_with fail
  refine (valid_any n _ (cst ns) _ hg.pairs hcl).mono ?_
  rw [HO.out]
  rintro e w1 ⟨rfl, hb1⟩
  go_wp2_with fail
  refine (forest_any n _ ns _ hn hm (hg.pairs.below hb1) hg.ends).mono ?_
  rintro e w2 ⟨a, u, L, rfl, ha, hu, hL, huf, hb2⟩
  go_wp2_with fail
  refine (indices_any _ (inF ns) false _ ha.bools (by rw [inF_len]; omega)).mono ?_
  rintro e w3 ⟨q, rfl, hq, hb3⟩
  have hB2 := bstep hb1 hb2
  have hB3 := bstep hB2 hb3
  obtain ⟨ao, cp, rfl⟩ := hq.shape
  go_wp2
  go_ret2
  exact ⟨rfl, hB3⟩

/-- What the rounds of Parts keep: the sets lie below B, the map and the rows from B on. -/
structure PAt (w : World) (B g ucap n : Nat) (f : Nat → Nat) (i : Nat) (V : Value) (wr : World) : Prop where
  sets : ∃ L, L.length = n ∧ UF L f ∧ Own wr w.heap.size 3 natf (.slice (some ⟨g, 0, none⟩) n ucap) L
  map_ : ∃ c, c ≤ i ∧ IMap wr 3 (fun x : Nat => .int .i64 (x : Int)) 0 B c (rootIdx f i)
  mat : Mat wr B V (prt f i)
  low : g < B
  ge : w.heap.size ≤ B
  below : Below w.heap.size w wr

theorem Mat.mono {w : World} {base base' : Nat} {V : Value} {rows : List (List Nat)} (h : Mat w base V rows) (hb : base' ≤ base) : Mat w base' V rows := by
  obtain ⟨vals, h1, h2, h3, h4⟩ := h
  exact ⟨vals, h1, h2.mono hb, fun k v r hv hr => (h3 k v r hv hr).mono hb, h4⟩

theorem PAt.sz {w wr : World} {B g ucap n i : Nat} {f : Nat → Nat} {V : Value} (h : PAt w B g ucap n f i V wr) : B < wr.heap.size := by
  obtain ⟨c, _, hm⟩ := h.map_
  exact hm.lt

/-- A step that turned the sets alone. -/
theorem PAt.first {w wr w1 : World} {B g ucap n i j : Nat} {f : Nat → Nat} {V : Value} {e : Ending} (h : PAt w B g ucap n f i V wr) (hf : FirstPost wr w.heap.size g n ucap f j e w1) : e = .returned (.int .i64 (f j : Int)) ∧ PAt w B g ucap n f i V w1 := by
  obtain ⟨rfl, L, h1, h2, h3, h4, h5⟩ := hf
  refine ⟨rfl, ⟨⟨L, h1, h2, h3⟩, ?_, ?_, h.low, h.ge, ?_⟩⟩
  · obtain ⟨c, hc, hm⟩ := h.map_
    exact ⟨c, hc, hm.only h4 (by have := h.low; intro e; injection e with e; omega)⟩
  · exact h.mat.kept fun b hb hlt => h4.block b hlt (by have := h.low; intro e; injection e with e; omega)
  · exact below_grown h.below h4 h.below.size (fun b e => by cases e; exact (h3.lt g rfl).1)

/-- A block of cells from B on, seen in a world in which B is a map. -/
theorem PAt.next {w w4 w5 w6 w7 : World} {B g ucap n i c k G m c6 : Nat} {f : Nat → Nat} {V v7 : Value} {M : Nat → Option Nat} {rows : List (List Nat)} (h : PAt w B g ucap n f i V w4)
    (hmp : IMap w5 3 (fun x : Nat => .int .i64 (x : Int)) 0 B c M) (hg5 : w4.grownBy w5 (some B)) {r6 : Option Nat} (hg6 : w5.grownBy w6 r6) (h6 : ∀ b, r6 = some b → B ≤ b ∧ b ≠ B)
    {r7 : Option Nat} (hg7 : w6.grownBy w7 r7) (h7 : ∀ b, r7 = some b → B ≤ b ∧ b ≠ B) (hG : B ≤ G ∧ G ≠ B)
    (hc : c ≤ i + 1) (hM : M = rootIdx f (i + 1)) (hmat : Mat (w7.setCell ⟨G, k, none⟩ v7) B (.slice (some ⟨G, 0, none⟩) m c6) rows) (hrows : rows = prt f (i + 1)) :
    PAt w B g ucap n f (i + 1) (.slice (some ⟨G, 0, none⟩) m c6) (w7.setCell ⟨G, k, none⟩ v7) := by
  have hlow := h.low
  have hsz := h.sz
  have s5 := hg5.size
  have s6 := hg6.size
  have s7 := hg7.size
  have keep : ∀ b, b < B → (w7.setCell ⟨G, k, none⟩ v7).heap[b]? = w4.heap[b]? := by
    intro b hb
    rw [heap_setCell_other w7 ⟨G, k, none⟩ b v7 (fun e => by have : b = G := e; omega), hg7.block b (by omega) (fun e => by have := (h7 b e.symm).1; omega),
      hg6.block b (by omega) (fun e => by have := (h6 b e.symm).1; omega), hg5.block b (by omega) (fun e => by injection e with e; omega)]
  subst hM
  subst hrows
  refine ⟨?_, ⟨c, hc, ?_⟩, hmat, hlow, h.ge, ?_⟩
  · obtain ⟨L, h1, h2, h3⟩ := h.sets
    exact ⟨L, h1, h2, h3.kept fun b hb => by cases hb; exact keep _ hlow⟩
  · refine ((hmp.only hg6 (fun e => (h6 B e.symm).2 rfl)).only hg7 (fun e => (h7 B e.symm).2 rfl)).only (only_set w7 G k v7) (fun e => ?_)
    injection e with e
    exact hG.2 e.symm
  · have b5 := below_grown h.below hg5 h.below.size (fun b e => by cases e; exact h.ge)
    have b6 := below_grown b5 hg6 b5.size (fun b e => Nat.le_trans h.ge (h6 b e).1)
    have b7 := below_grown b6 hg7 b6.size (fun b e => Nat.le_trans h.ge (h7 b e).1)
    exact b7.setCell (Nat.le_trans h.ge hG.1) _

theorem MatVals.own_ne_map {w : World} {B c : Nat} {V : Value} {vals : List Value} {rows : List (List Nat)} {M : Nat → Option Nat} (h : MatVals w B V vals rows) (hm : IMap w 3 (fun x : Nat => .int .i64 (x : Int)) 0 B c M) : ∀ b, V.ownBlock = some b → B ≤ b ∧ b ≠ B := by
  intro b hb
  refine ⟨(h.2.1.lt b hb).1, ?_⟩
  rcases h.2.1.2 with ⟨rfl, _⟩ | ⟨g, cap, cur, rfl, _, hh, _⟩
  · cases hb
  · cases hb; exact hm.apart_cells hh
theorem Own.ne_map {w : World} {B B' c : Nat} {v : Value} {r : List Nat} {M : Nat → Option Nat} (h : Own w B' 3 natf v r) (hm : IMap w 3 (fun x : Nat => .int .i64 (x : Int)) 0 B c M) : ∀ b, v.ownBlock = some b → B' ≤ b ∧ b ≠ B := by
  intro b hb
  refine ⟨(h.lt b hb).1, ?_⟩
  rcases h.2 with ⟨rfl, _⟩ | ⟨g, cap, cur, rfl, _, hh, _⟩
  · cases hb
  · cases hb; exact hm.apart_cells hh

theorem PAt.len_eq {w wr : World} {B g ucap n i : Nat} {f : Nat → Nat} {V : Value} (h : PAt w B g ucap n f i V wr) : ∃ ao c, V = .slice ao (rootsTo f i).length c := by
  obtain ⟨vals, h1, h2, _⟩ := h.mat
  obtain ⟨ao, c, rfl⟩ := h2.shape
  refine ⟨ao, c, ?_⟩
  rw [h1, prt_len]

set_option maxRecDepth 100000 in
set_option maxHeartbeats 4000000 in
theorem parts_ok (n : Nat) (v : Value) (ns : List (Nat × Nat)) (w : World) (hg : Gr w n v ns) :
    Calls Try.prog 17 #[.int .i64 (n : Int), v] w fun e w' => (∃ V, e = .returned (.tuple #[V, .int .i64 0]) ∧ Mat w' w.heap.size V (partsOf n ns)) ∧ Below w.heap.size w w' := by
  have hcl : (cst ns).length ≤ 140737488355328 := by rw [cst_len]; have := hg.m_le; omega
  have HO := Lib.hid hg.ok
  have hn := hg.n_le
  have hm := hg.m_le
  have hmm := @run_makeMap Try.prog
  go_enter Try.func17, Try.ntmps17
  go_wp2_with fail
  refine (valid_any n _ (cst ns) _ hg.pairs hcl).mono ?_
  rw [HO.out]
  rintro e w1 ⟨rfl, hb1⟩
  go_wp2_with fail
  refine (forest_any n _ ns _ hn hm (hg.pairs.below hb1) hg.ends).mono ?_
  rintro e w2 ⟨a, u, L, rfl, ha, hu, hL, huf, hb2⟩
  go_wp2_with fail
  have hB2 := bstep hb1 hb2
  have hsz := hB2.size
  rcases Nat.eq_zero_or_pos n with hn0 | hn0
  · subst hn0
    have hB3 : Below w.heap.size w (w2.alloc (.map #[] 0)) := hB2.alloc hsz _
    clear hmm
    refine wp_loop_rounds 1 ?_
    rw [rounds_succ]
    go_wp2
    go_ret2
    exact ⟨⟨_, rfl, (Mat.new (n := 0) (Own.nil _ _ _ _))⟩, hB3⟩
  obtain ⟨g, ucap, hug, hgl, hgb, _⟩ := hu.form (by omega)
  rw [hL] at hug
  subst hug
  have HP : Hid (PAt w w2.heap.size g ucap n (lbl ns) 0 (.slice none 0 0) (w2.alloc (.map #[] 0))) :=
    ⟨⟨L, hL, huf, (hu.mono (hb1.size)).alloc _⟩, ⟨0, Nat.le_refl _, by
      have := IMap.new w2 3 (fun x : Nat => .int .i64 (x : Int)) 0
      have e : rootIdx (lbl ns) 0 = fun _ => none := by funext k; simp [rootIdx]
      rw [e]; exact this⟩, Mat.new (n := 0) (Own.nil _ _ _ _), hgl, hsz, hB2.alloc hsz _⟩
  obtain ⟨B, hBd⟩ : ∃ B, B = w2.heap.size := ⟨_, rfl⟩
  rw [← hBd] at HP
  rw [← hBd]
  clear hmm hu hL huf ha hb1 hb2 hB2 hsz hgl hgb hBd
  have hle := lbl_least ns
  have HLE := Lib.hid hle
  clear hle
  go_loopw [9, 25] (fun V s25 wr => ∃ i : Nat, i ≤ n ∧ s25 = .int .i64 i ∧ Hid (PAt w B g ucap n (lbl ns) i V wr)) (fun _ s25 _ => n - (intOf s25).toNat)
  case atStart => exact ⟨0, Nat.zero_le _, rfl, HP⟩
  case round =>
    clear HP
    obtain ⟨i, hi, rfl, H⟩ := hrel
    by_cases hin : i < n
    · obtain ⟨ao, vc, rfl⟩ := H.out.len_eq
      obtain ⟨L, hL, huf, hu⟩ := H.out.sets
      go_wp2_with fail
      refine (first_any w.heap.size g n ucap L (lbl ns) i _ hL hn hu huf hin).mono ?_
      intro e w3 hF
      obtain ⟨rfl, hP3⟩ := H.out.first hF
      clear hF hL huf hu
      obtain ⟨c, hc, hmp⟩ := hP3.map_
      have hlk := hmp.lookOk mapInt (x := lbl ns i) (by have := (HLE.out i).1; omega)
      have HC := Lib.hid hc
      have HMP := Lib.hid hmp
      have HP3 := Lib.hid hP3
      have hz3 := hP3.below.size
      have hs3 := hP3.sz
      clear hmp hc hP3
      by_cases hroot : lbl ns i = i
      · have hidx : rootIdx (lbl ns) i (lbl ns i) = none := by rw [hroot]; simp [rootIdx]
        rw [hidx] at hlk
        rw [hroot] at hlk ⊢
        have HR := Lib.hid hroot
        clear hidx hroot
        obtain ⟨L2, hL2, huf2, hu2⟩ := HP3.out.sets
        go_wp2_with fail
        clear hlk
        refine (first_any w.heap.size g n ucap L2 (lbl ns) i _ hL2 hn hu2 huf2 hin).mono ?_
        intro e w4 hF
        obtain ⟨rfl, hP4⟩ := HP3.out.first hF
        rw [HR.out]
        clear hF hL2 huf2 hu2
        obtain ⟨c4, hc4, hmp4⟩ := hP4.map_
        have HC4 := Lib.hid hc4
        have HMP4 := Lib.hid hmp4
        have HP4 := Lib.hid hP4
        have hz4 := hP4.below.size
        have hs4 := hP4.sz
        clear hmp4 hc4 hP4 HMP HC HP3 hz3 hs3
        have hk := rootsTo_le (lbl ns) i
        obtain ⟨k, hkd⟩ : ∃ k, (rootsTo (lbl ns) i).length = k := ⟨_, rfl⟩
        rw [hkd] at hk ⊢
        have HK := Lib.hid hkd
        clear hkd
        obtain ⟨vals, hmv⟩ := HP4.out.mat
        rw [HK.out] at hmv
        have HMV := Lib.hid hmv
        have hvl : vals.length = k := by rw [hmv.1, prt_len, HK.out]
        have HVL := Lib.hid hvl
        clear hmv hvl
        have hlen1 : vals.length + 1 ≤ 1099511627776 := by rw [HVL.out]; omega
        have HLEN := Lib.hid hlen1
        clear hlen1
        go_wp2_with (first
          | (at_mapUpdate; refine wpList_put _ rfl _ _ _ _ rfl 3 (fun x : Nat => .int .i64 (x : Int)) 0 mapInt B c4 _ HMP4.out (by have := HC4.out; omega) i (by omega) k (by omega) rfl rfl rfl ?_; intro w5 hmp5 hg5; have HM5 : Hid (MatVals w5 B _ vals (prt (lbl ns) i)) := HMV.out.kept (fun b hb hlt hcs => hg5.block b hlt (fun e => by (obtain ⟨cs, t, hcs⟩ := hcs; injection e with e; exact (HMP4.out.apart_cells hcs e)))); have hz5 := hg5.size; have HI5 := Lib.hid hmp5; clear hmp5)
          | (at_builtin; refine wpList_push w5 rfl _ _ 35 rfl 25 24 elemRow B rowf _ vals (.slice none 0 0) rfl HM5.out.2.1 rfl rfl HLEN.out (by omega) (by omega) ?_; intro V6 w6 ho6 hg6 hat6; obtain ⟨G, c6, hV6, hGl, hGb, _⟩ := ho6.form (by simp); rw [List.length_append, List.length_singleton, HVL.out] at hV6; subst hV6; have HM6 := Lib.hid (HM5.out.pushNilVals ho6 hg6); have HX6 := Lib.hid (HM5.out.own_ne_map HI5.out); have hcl6 : w6.cell? ⟨G, k, none⟩ = some (.slice none 0 0) := HM6.out.2.1.cell (k := k) (x := Value.slice none 0 0) (by rw [← HVL.out]; simp); have hfr6 := HM6.out.2.1.free k; have hz6 := hg6.size)
          | (at_builtin; refine wpList_push w6 rfl _ _ 25 rfl 3 8 elemInt B natf (.slice none 0 0) [] i rfl (Own.nil _ _ _ _) rfl rfl (by simp) (by omega) (by omega) ?_; intro v7 w7 ho7 hg7 hat7; obtain ⟨ao7, c7, rfl⟩ := ho7.shape; have hcl7 : w7.cell? ⟨G, k, none⟩ = some (.slice none 0 0) := (hg7.cell_far ⟨G, k, none⟩ hGl (by simp [Value.ownBlock])).trans hcl6; have hfr7 : w7.frozen? ⟨G, k, none⟩ = false := (hg7.frozen_far ⟨G, k, none⟩ hGl (by simp [Value.ownBlock])).trans hfr6))
        have HF : Hid (PAt w B g ucap n (lbl ns) (i + 1) (.slice (some ⟨G, 0, none⟩) (k + 1) c6) (w7.setCell ⟨G, k, none⟩ (.slice ao7 ([] ++ [i] : List Nat).length c7))) := by
          refine PAt.next HP4.out HI5.out hg5 hg6 HX6.out hg7 (fun b e => by cases e) ⟨hGb, fun e => ?_⟩ (by have := HC4.out; omega) ?_ (HM6.out.pushAt (k := k) (y := i) (v := .slice none 0 0) (r := []) (by rw [← HVL.out]; simp) (by rw [← HK.out, ← prt_len]; simp) ho7 hg7 hat7) ?_
          · have := HM6.out.own_ne_map (HI5.out.only hg6 (fun e => (HX6.out B e.symm).2 rfl)) G rfl
            exact this.2 e
          · rw [rootIdx_new HR.out, HK.out]; rfl
          · rw [prt_new HLE.out HR.out, HK.out]; rfl
        go_wp2
        go_roundw
        case rel => exact ⟨i + 1, by omega, by go_num, HF⟩
        case measure => simp [intOf]; omega
      · obtain ⟨r, hrd⟩ : ∃ r, lbl ns i = r := ⟨_, rfl⟩
        have hri : r < i := by have := (HLE.out i).1; omega
        have hrr : lbl ns r = r := by rw [← hrd]; exact (HLE.out i).2
        have hidx : rootIdx (lbl ns) i r = some (rootsTo (lbl ns) r).length := by rw [rootIdx, if_pos ⟨hri, hrr⟩]
        rw [hrd] at hlk ⊢
        rw [hidx] at hlk
        have hget := prt_row (f := lbl ns) (i := i) hrr hri
        have hk := rootsTo_le (lbl ns) r
        obtain ⟨k, hkd⟩ : ∃ k, (rootsTo (lbl ns) r).length = k := ⟨_, rfl⟩
        obtain ⟨q, hqd⟩ : ∃ q, (rootsTo (lbl ns) i).length = q := ⟨_, rfl⟩
        have hkq : k < q := by rw [← hkd, ← hqd, ← prt_len (lbl ns) i]; exact (List.getElem?_eq_some_iff.1 hget).1
        obtain ⟨vals, hmv⟩ := HP3.out.mat
        obtain ⟨row, hrow⟩ : ∃ row, (List.range i).filter (fun k => lbl ns k == r) = row := ⟨_, rfl⟩
        rw [hrow, hkd] at hget
        rw [hqd] at hmv
        rw [hkd] at hlk hk
        rw [hqd]
        have hvl : vals.length = q := by rw [hmv.1, prt_len, hqd]
        obtain ⟨v1, hv1⟩ : ∃ v, vals[k]? = some v := ⟨_, List.getElem?_eq_getElem (by omega)⟩
        obtain ⟨G, c6, hV6, hGl, hGb, _⟩ := hmv.2.1.form (by omega)
        rw [hvl] at hV6
        have hrl : row.length + 1 ≤ 1099511627776 := by
          have : row.length ≤ i := by rw [← hrow]; refine Nat.le_trans (List.length_filter_le _ _) ?_; simp
          omega
        have HR := Lib.hid hroot
        have HRD := Lib.hid hrd
        have HK := Lib.hid hkd
        have HQ := Lib.hid hqd
        have HGET := Lib.hid hget
        have HROW := Lib.hid hrow
        have HV1 := Lib.hid hv1
        cases hV6
        have HMV := Lib.hid hmv
        have hrow1 := hmv.2.2.1 k v1 row hv1 hget
        have hcl := hmv.2.1.cell hv1
        have hfr := hmv.2.1.free k
        obtain ⟨ao1, c1, hsh1⟩ := hrow1.shape
        have HS1 := Lib.hid hsh1
        have HRW := Lib.hid hrow1
        have hag : v1.ownBlock ≠ some G := fun e => hrow1.apart hmv.2.1 (by decide) _ e rfl
        unfold rowf at hcl
        clear hroot hrd hkd hqd hget hrow hv1 hmv hrow1 hsh1 hvl hidx hrr
        go_wp2_with (first
          | (at_builtin; refine wpList_push w3 rfl _ _ 25 rfl 3 8 elemInt B natf _ row i rfl HRW.out rfl rfl hrl (by omega) (by omega) ?_; intro v7 w7 ho7 hg7 hat7; obtain ⟨ao7, c7, rfl⟩ := ho7.shape; have hcl7 : w7.cell? ⟨G, k, none⟩ = some v1 := (hg7.cell_far ⟨G, k, none⟩ hGl (Ne.symm hag)).trans hcl; have hfr7 : w7.frozen? ⟨G, k, none⟩ = false := (hg7.frozen_far ⟨G, k, none⟩ hGl (Ne.symm hag)).trans hfr))
        have hcong : (PAt w B g ucap n (lbl ns) i (.slice (some ⟨G, 0, none⟩) q vc) w3) := by
          have := HP3.out
          rw [HQ.out] at this
          exact this
        have HF : Hid (PAt w B g ucap n (lbl ns) (i + 1) (.slice (some ⟨G, 0, none⟩) q vc) (w7.setCell ⟨G, k, none⟩ (.slice ao7 (row ++ [i]).length c7))) := by
          refine PAt.next hcong HMP.out (only_refl _ _) (only_refl _ none) (fun b e => by cases e) hg7 (HRW.out.ne_map HMP.out) (HMV.out.own_ne_map HMP.out G rfl) (by have := HC.out; omega) ?_ (HMV.out.pushAt (k := k) (y := i) HV1.out HGET.out ho7 hg7 hat7) ?_
          · rw [rootIdx_old HR.out]
          · rw [prt_old HLE.out HR.out, HRD.out, HK.out, HROW.out]
        rw [List.length_append, List.length_singleton] at HF
        go_wp2
        go_roundw
        case rel => exact ⟨i + 1, by omega, by go_num, HF⟩
        case measure => simp [intOf]; omega
    · have hkl : i = n := by omega
      subst hkl
      go_wp2
      go_ret2
      have hP := H.out
      exact ⟨⟨_, rfl, hP.mat.mono hP.ge⟩, hP.below⟩
end Go.Proofs.Ytcaeemcobgopmaa
