/-
  Shapes: the path of a bar.
-/
import Derived.Test.YtpidjgljeooblaaShB
import Derived.Test.YtpidjgljeooblaaLdH
namespace Go.Proofs.Ytpidjgljeooblaa
open Go.RowKit
set_option linter.unusedVariables false
set_option linter.unusedSimpArgs false

def stepP (p : Pt) (way : Nat) (n : Int) : Pt :=
  if way = 120 then ⟨p.x + n, p.y, p.z⟩ else if way = 88 then ⟨p.x - n, p.y, p.z⟩ else if way = 121 then ⟨p.x, p.y + n, p.z⟩ else if way = 89 then ⟨p.x, p.y - n, p.z⟩ else if way = 122 then ⟨p.x, p.y, p.z + n⟩ else p
/-- Where one is after k legs. -/
def posP (d : List Int) (ls : List (Nat × Nat)) (k : Nat) : Pt := (ls.take k).foldl (fun p l => stepP p l.2 (d[l.1]?.getD 0)) ⟨0, 0, 0⟩
def pathN (d : List Int) (ls : List (Nat × Nat)) (k : Nat) : List Pt := (List.range (k + 1)).map (posP d ls)
def pathOf (b : BarD) : List Pt := pathN b.dims (legsOf b.code) (legsOf b.code).length
theorem posP_succ {d : List Int} {ls : List (Nat × Nat)} {k : Nat} {l : Nat × Nat} (h : ls[k]? = some l) : posP d ls (k + 1) = stepP (posP d ls k) l.2 (d[l.1]?.getD 0) := by
  have hk := (List.getElem?_eq_some_iff.1 h).1
  unfold posP
  rw [List.take_succ_eq_append_getElem hk, List.foldl_append, (List.getElem?_eq_some_iff.1 h).2]
  rfl
theorem pathN_succ (d : List Int) (ls : List (Nat × Nat)) (k : Nat) : pathN d ls (k + 1) = pathN d ls k ++ [posP d ls (k + 1)] := by
  unfold pathN
  rw [List.range_succ, List.map_append]
  rfl
theorem pathN_len (d : List Int) (ls : List (Nat × Nat)) (k : Nat) : (pathN d ls k).length = k + 1 := by simp [pathN]

/-- What a valid bar's legs are like. -/
theorem legs_ok (code : Int) : ∀ l ∈ legsOf code, l.1 < dimsN code ∧ (l.2 = 120 ∨ l.2 = 88 ∨ l.2 = 121 ∨ l.2 = 89 ∨ l.2 = 122) := by
  rcases code_cases code with h | ⟨h, _⟩
  · rcases h with rfl | rfl | rfl | rfl | rfl | rfl | rfl | rfl <;> decide
  · rw [h]; intro p hp; cases hp
theorem barOk_parts {x : BarD} (h : barOk x = true) : x.dims.length = dimsN x.code ∧ (∀ d ∈ x.dims, 1 ≤ d) ∧ sumI x.dims ≤ 262144 ∧ 0 < dimsN x.code := by
  unfold barOk headB at h
  simp only [Bool.and_eq_true, decide_eq_true_eq] at h
  obtain ⟨⟨⟨⟨⟨_, _⟩, _⟩, h1⟩, h2⟩, h3⟩ := h
  have := dimsB_yes h3
  exact ⟨by omega, this.1, this.2, by omega⟩
theorem dims_le {l : List Int} (h : ∀ d ∈ l, 1 ≤ d) {i : Nat} {x : Int} (hi : l[i]? = some x) : x ≤ sumI l := by
  have h1 := sumI_le h (i + 1)
  rw [sumI_snoc hi] at h1
  have : 0 ≤ sumI (l.take i) := by
    have h2 := sumI_le (l := l.take i) (fun d hd => h d (List.mem_of_mem_take hd)) 0
    rw [List.take_zero] at h2
    exact h2
  omega
theorem pos_bd {d : List Int} {ls : List (Nat × Nat)} (hd : ∀ x ∈ d, 1 ≤ x) (hs : sumI d ≤ 262144) : ∀ k : Nat, PtIn (k * 262144) (posP d ls k)
  | 0 => by unfold posP PtIn; simp
  | k + 1 => by
    have ih := pos_bd (ls := ls) hd hs k
    rcases Nat.lt_or_ge k ls.length with hk | hk
    · obtain ⟨l, hl⟩ : ∃ l, ls[k]? = some l := ⟨_, List.getElem?_eq_getElem hk⟩
      rw [posP_succ hl]
      have hn : 0 ≤ d[l.1]?.getD 0 ∧ d[l.1]?.getD 0 ≤ 262144 := by
        cases hi : d[l.1]? with
        | none => simp
        | some x =>
          have := hd x (List.mem_of_getElem? hi)
          have := dims_le hd hi
          simp only [Option.getD_some]; omega
      generalize d[l.1]?.getD 0 = n at *
      generalize posP d ls k = p at *
      unfold stepP PtIn at *
      obtain ⟨h1, h2, h3, h4, h5, h6⟩ := ih
      have e : ((k + 1 : Nat) : Int) * 262144 = (k : Int) * 262144 + 262144 := by omega
      rw [e]
      repeat' split
      all_goals ((try simp only); omega)
    · have e : posP d ls (k + 1) = posP d ls k := by unfold posP; rw [List.take_of_length_le (by omega), List.take_of_length_le hk]
      rw [e]
      exact ih.mono (by omega)

theorem OwnN.far {α : Type} {n : Nat} {enc : α → List Value} {w : World} {base : Nat} {e : TypeId} {v : Value} {l : List α} (h : OwnN w base e n enc v l) {A i : Nat} {u : Value} (hA : A < base) : OwnN (w.setCell ⟨A, i, none⟩ u) base e n enc v l :=
  h.kept fun g hv => heap_setCell_other _ _ _ _ (by have := (h.lt g hv).1; simp; omega)

/-- The world of the loop: the bar's box, the place after j legs, the path after k legs, the legs. -/
structure PathW (w : World) (A : Nat) (bx : Array Value) (d : List Int) (ls : List (Nat × Nat)) (lv : Value) (k j : Nat) (o : Value) (wr : World) : Prop where
  below : Below w.heap.size w wr
  hA : w.heap.size < A
  box : BlkIs wr w.heap.size 54 bx
  pos : BlkIs wr A 31 #[.int .i64 (posP d ls j).x, .int .i64 (posP d ls j).y, .int .i64 (posP d ls j).z]
  own : OwnPts wr (A + 1) o (pathN d ls k)
  legs : Legs wr lv ls
  fresh : ∀ b off n c, lv = .slice (some ⟨b, off, none⟩) n c → b ≠ A ∧ b < wr.heap.size ∧ ∀ g, o.ownBlock = some g → b ≠ g
theorem PathW.leg {w : World} {A : Nat} {bx : Array Value} {d : List Int} {ls : List (Nat × Nat)} {lv : Value} {k j : Nat} {o : Value} {wr : World} (h : PathW w A bx d ls lv k j o wr) (ob : Obj) : PathW w A bx d ls lv k j o (wr.alloc ob) :=
  ⟨h.below.alloc h.below.size _, h.hA, h.box.alloc _, h.pos.alloc _, h.own.alloc _, h.legs.below (below_new _ _), fun b off n c e => by
    obtain ⟨h1, h2, h3⟩ := h.fresh b off n c e
    exact ⟨h1, by simp; omega, h3⟩⟩
theorem PathW.move {w : World} {A : Nat} {bx : Array Value} {d : List Int} {ls : List (Nat × Nat)} {lv : Value} {k j : Nat} {o : Value} {wr : World} (h : PathW w A bx d ls lv k j o wr) (i : Nat) (u : Value)
    (hu : (#[.int .i64 (posP d ls j).x, .int .i64 (posP d ls j).y, .int .i64 (posP d ls j).z] : Array Value).setIfInBounds i u = #[.int .i64 (posP d ls (j + 1)).x, .int .i64 (posP d ls (j + 1)).y, .int .i64 (posP d ls (j + 1)).z]) : PathW w A bx d ls lv k (j + 1) o (wr.setCell ⟨A, i, none⟩ u) := by
  refine ⟨h.below.setCell (by have := h.hA; simp; omega) _, h.hA, h.box.far (by have := h.hA; simp; omega) _, ?_, h.own.far (by omega), h.legs.keep (by simp) (fun b o hb he => ?_), fun b off n c e => ?_⟩
  · have := h.pos.set i u
    rw [hu] at this
    exact this
  · obtain ⟨off, n, c, e⟩ := he
    have h1 := (h.fresh _ _ _ _ e).1
    exact World.cell?_setCell_other _ _ _ _ (fun e => h1 (by injection e with e1 _; exact e1.symm))
  · obtain ⟨h1, h2, h3⟩ := h.fresh b off n c e
    exact ⟨h1, by simpa using h2, h3⟩
theorem PathW.push {w : World} {A : Nat} {bx : Array Value} {d : List Int} {ls : List (Nat × Nat)} {lv : Value} {k : Nat} {o v' : Value} {wr w' : World} (h : PathW w A bx d ls lv k (k + 1) o wr)
    (ho : OwnPts w' (A + 1) v' (pathN d ls k ++ [posP d ls (k + 1)])) (hg : wr.grownBy w' o.ownBlock) (hat : v'.ownBlock = o.ownBlock ∨ ∃ g, wr.heap.size ≤ g ∧ v'.ownBlock = some g) : PathW w A bx d ls lv (k + 1) (k + 1) v' w' := by
  have hn : ∀ g, o.ownBlock = some g → A + 1 ≤ g := fun g hg => (h.own.lt g hg).1
  have hA := h.hA
  refine ⟨h.below.grown hg h.below.size (fun j hj => by have := hn j hj; omega), h.hA, ?_, ?_, by rw [pathN_succ]; exact ho, h.legs.keep hg.size (fun b o' hb he => ?_), fun b off n c e => ?_⟩
  · exact (hg.block _ h.box.lt (fun e => by have := hn _ e.symm; omega)).trans h.box
  · exact (hg.block _ h.pos.lt (fun e => by have := hn _ e.symm; omega)).trans h.pos
  · obtain ⟨off, n, c, e⟩ := he
    obtain ⟨h1, h2, h3⟩ := h.fresh _ _ _ _ e
    exact World.cell?_of_block (a := ⟨b, o', none⟩) (hg.block b hb (fun e => h3 b e.symm rfl))
  · obtain ⟨h1, h2, h3⟩ := h.fresh b off n c e
    refine ⟨h1, Nat.lt_of_lt_of_le h2 hg.size, fun g hgv => ?_⟩
    rcases hat with e1 | ⟨g', h4, e1⟩
    · rw [e1] at hgv; exact h3 g hgv
    · rw [e1] at hgv; cases hgv; omega

theorem wpList_pushAt {α : Type} {P : Program} (w0 : World) (N : Nat) (hN : w0.heap.size = N) {ops : Array Oper} {rest : List Oper} {o : Oper} {a : Act} {Q : Exit → Act → World → Prop} (hgd : o.guard = none) (s x : Operand) (t : TypeId)
    (ho : o.op = .call { callee := .builtin .append, args := #[s, x], argTypes := #[t, t] })
    (e n bytes : Nat) (he : ElemN P t e n bytes) (base : Nat) (enc : α → List Value) (v : Value) (l : List α) (y : α) (cs : Array Value) (hcs : cs = (enc y).toArray) (hny : (enc y).length = n) (h1 : ∀ u ∈ enc y, u.oneCell' = true)
    (hown : OwnN w0 base e n enc v l) (hs : a.eval s = v) (hx : a.eval x = .slice (some ⟨N, 0, none⟩) 1 1)
    (h63 : l.length + 1 ≤ 1099511627776) (hby : bytes ≤ 120) (hbase : base ≤ N)
    (hK : ∀ v' w', OwnN w' base e n enc v' (l ++ [y]) → w0.grownBy w' v.ownBlock → (v'.ownBlock = v.ownBlock ∨ ∃ g, w0.heap.size ≤ g ∧ v'.ownBlock = some g) → wpList P ops Q rest (a.put o.dst v') w') :
    wpList P ops Q (o :: rest) a (w0.alloc (.cells cs e)) := by
  subst hN
  exact wpList_pushN w0 hgd s x t ho e n bytes he base enc v l y cs hcs hny h1 hown hs hx h63 hby hbase hK
set_option maxRecDepth 100000 in
set_option maxHeartbeats 4000000 in
theorem spath_any (x : BarD) (dv : Value) (w : World) (hd : Ints w dv x.dims) (hm : x.mark.size ≤ maxLen) (hok : barOk x = true) :
    Calls Try.prog 91 #[barv x dv] w fun e w' => ∃ o, e = .returned (.tuple #[o, .int .i64 0]) ∧ Hid (OwnPts w' w.heap.size o (pathOf x)) ∧ Below w.heap.size w w' := by
  obtain ⟨p1, p2, p3, p4⟩ := barOk_parts hok
  have hl5 : x.dims.length ≤ 5 := by rw [p1]; unfold dimsN; (repeat' split) <;> omega
  have HV : Hid (∀ W, Below w.heap.size w W → Calls Try.prog 59 #[barv x dv] W fun e w' => e = .returned (.bool true) ∧ Below W.heap.size W w') := fun W hW => by
    have := svalid_any x dv W (Sl.below hd hW) hm (by omega)
    rw [hok] at this
    exact this
  have HL := Lib.hid (fun W => slegs_full x.code W)
  have HK := Lib.hid (legs_ok x.code)
  have HN6 := Lib.hid (legs_len6 x.code)
  rw [← p1] at HK
  have HP : Hid (pathOf x = pathN x.dims (legsOf x.code) (legsOf x.code).length) := rfl
  have HB := Lib.hid (fun k => pos_bd (ls := legsOf x.code) p2 p3 k)
  have HDL : Hid (∀ (i : Nat) y, x.dims[i]? = some y → 1 ≤ y ∧ y ≤ 262144) := fun i y h => ⟨p2 y (List.mem_of_getElem? h), by have := dims_le p2 h; omega⟩
  generalize pathOf x = P at *
  obtain ⟨m, s, c, co, ds⟩ := x
  simp only at *
  generalize legsOf co = ls at *
  obtain ⟨ao, cap, rfl, hd2⟩ := hd
  have HDV := Lib.hid (show Ints w (.slice ao ds.length cap) ds from ⟨ao, cap, rfl, hd2⟩)
  clear hok p1 p2 p3 p4 hm hd2
  go_enter Try.func91, Try.ntmps91
  go_wp2_with fail
  refine (HV.out _ (by go_grown)).mono ?_
  rintro e w1 ⟨rfl, hb1⟩
  have HB1 := Lib.hid (bstep (by go_grown) hb1 : Below w.heap.size w w1)
  have BX1 : Hid (BlkIs w1 w.heap.size 54 #[.string m, .int .i64 s, .int .i64 c, .int .i64 co, .slice ao ds.length cap]) := (BlkIs.new w _ _).below hb1
  clear hb1
  have hz1 := BX1.out.lt
  have c3 := BX1.out.cell 3
  go_wp2_with fail
  refine (HL.out _).mono ?_
  rintro e w2 ⟨lv, rfl, HLV, HF, hb2⟩
  have HW0 : Hid (PathW w w1.heap.size #[.string m, .int .i64 s, .int .i64 c, .int .i64 co, .slice ao ds.length cap] ds ls lv 0 0 (.slice (some ⟨w1.heap.size + 1, 0, none⟩) 1 1) w2) := by
    have e0 : posP ds ls 0 = ⟨0, 0, 0⟩ := rfl
    refine ⟨bstep ((HB1.out.alloc HB1.out.size _).alloc (by have := HB1.out.size; simp; omega) _) hb2, hz1, ((BX1.out.alloc _).alloc _).below hb2, ?_, ?_, HLV.out, fun b off n c e => ?_⟩
    · rw [e0]; exact ((BlkIs.new w1 _ _).alloc _).below hb2
    · have h := own_lit (w1.alloc (.cells #[.int .i64 0, .int .i64 0, .int .i64 0] 31)) 31 3 ptCells (pathN ds ls 0) #[.int .i64 0, .int .i64 0, .int .i64 0] 1 (w1.heap.size + 1) (by simp) rfl rfl pt_len (by simp [pathN])
      rw [World.size_alloc] at h
      exact OwnN.below h hb2
    · obtain ⟨h1, hlt⟩ := HF.out _ _ _ e
      simp only [World.size_alloc] at h1
      refine ⟨by omega, hlt, fun g hg => ?_⟩
      have e9 : g = w1.heap.size + 1 := by cases hg; rfl
      omega
  obtain ⟨lo, lcap, rfl⟩ := HLV.out.at_
  clear hb2 HLV HF c3
  have hl6 := HN6.out
  go_wp2_with fail
  go_loopw [5, 18] (fun o i wr => ∃ k : Nat, k ≤ ls.length ∧ i = .int .i64 k ∧ PathW w w1.heap.size #[.string m, .int .i64 s, .int .i64 c, .int .i64 co, .slice ao ds.length cap] ds ls (.slice lo ls.length lcap) k k o wr) (fun _ i _ => ls.length - (intOf i).toNat)
  case atStart => exact ⟨0, Nat.zero_le _, rfl, HW0.out⟩
  case round =>
    obtain ⟨k, hk, rfl, HW⟩ := hrel
    by_cases hlt : k < ls.length
    · obtain ⟨⟨li, way⟩, hy⟩ : ∃ y, ls[k]? = some y := ⟨_, List.getElem?_eq_getElem hlt⟩
      obtain ⟨b, off, rfl, hbl, g0, g1⟩ := legs_get HW.legs hy
      obtain ⟨hli, hway⟩ := HK.out _ (List.mem_of_getElem? hy)
      simp only at g0 g1 hli hway
      obtain ⟨y, hyd⟩ : ∃ y, ds[li]? = some y := ⟨_, List.getElem?_eq_getElem hli⟩
      have HS := Lib.hid (posP_succ (d := ds) hy)
      simp only [hyd, Option.getD_some] at HS
      obtain ⟨q1, q2, q3, q4, q5, q6⟩ := HB.out k
      obtain ⟨y1, y2⟩ := HDL.out li y hyd
      obtain ⟨_, _, hv, hcc⟩ := HDV.out
      cases hv
      obtain ⟨db, doff, rfl, hdl, hcell⟩ := hcc (by omega)
      have hck := (HW.below.cell (p := ⟨db, doff + li, none⟩) hdl).trans (hcell li y hyd)
      have hdw : db < wr.heap.size := Nat.lt_of_lt_of_le hdl HW.below.size
      have c4 := HW.box.cell 4
      have t0 := HW.pos.cell 0
      have t1 := HW.pos.cell 1
      have t2 := HW.pos.cell 2
      have tf := HW.pos.free
      have hzw := HW.box.lt
      have hzA := HW.pos.lt
      have hplen : (pathN ds ls k).length + 1 ≤ 1099511627776 := by rw [pathN_len]; omega
      have l0 : (0 : Int) ≤ (li : Int) := by omega
      have l1 : (li : Int) < (ds.length : Int) := by omega
      obtain ⟨W, hWq⟩ : ∃ W, W = wr := ⟨_, rfl⟩
      have HW := Lib.hid HW
      have HM : Hid (∀ (i : Nat) (u : Value) (ob : Obj), (#[.int .i64 (posP ds ls k).x, .int .i64 (posP ds ls k).y, .int .i64 (posP ds ls k).z] : Array Value).setIfInBounds i u = #[.int .i64 (posP ds ls (k + 1)).x, .int .i64 (posP ds ls (k + 1)).y, .int .i64 (posP ds ls (k + 1)).z] →
          PathW w w1.heap.size #[.string m, .int .i64 s, .int .i64 c, .int .i64 co, .slice (some ⟨db, doff, none⟩) ds.length cap] ds ls (.slice (some ⟨b, off, none⟩) ls.length lcap) k (k + 1) _ ((wr.setCell ⟨w1.heap.size, i, none⟩ u).alloc ob)) := fun i u ob hu => (HW.out.move i u hu).leg ob
      generalize hq' : posP ds ls (k + 1) = q' at *
      have HQ := Lib.hid hq'
      clear hq'
      generalize posP ds ls k = q at *
      clear hy hyd hcc hcell hWq
      rcases hway with rfl | rfl | rfl | rfl | rfl
      · have HS2 := Lib.hid (show q' = ⟨q.x + y, q.y, q.z⟩ from HS.out)
        have g1' : wr.cell? ⟨b, off + k * 2 + 1, none⟩ = some (.int .u8 120) := g1
        clear g1
        have HM2 := Lib.hid (HM.out 0 (.int .i64 (q.x + y)) (.cells #[.int .i64 (li : Int), .int .u8 120] 101) (by rw [HS2.out]; rfl))
        go_wp2_with (at_builtin; refine wpList_pushAt _ (wr.heap.size + 1) (by simp) rfl _ _ 82 rfl 31 3 24 elemPt (w1.heap.size + 1) ptCells _ _ q' _ (by rw [HS2.out]; rfl) rfl (pt_one _) HM2.out.own rfl rfl hplen (by omega) (by omega) ?_; intro v' w' hown' hg' hat'; have HP9 := Lib.hid (HM2.out.push (by rw [HQ.out]; exact hown') hg' hat'); clear hown' hg' hat')
        go_roundw
        case rel => exact ⟨k + 1, by omega, by go_num, HP9.out⟩
        case measure => simp [intOf]; omega
      · have HS2 := Lib.hid (show q' = ⟨q.x - y, q.y, q.z⟩ from HS.out)
        have g1' : wr.cell? ⟨b, off + k * 2 + 1, none⟩ = some (.int .u8 88) := g1
        clear g1
        have HM2 := Lib.hid (HM.out 0 (.int .i64 (q.x - y)) (.cells #[.int .i64 (li : Int), .int .u8 88] 101) (by rw [HS2.out]; rfl))
        go_wp2_with (at_builtin; refine wpList_pushAt _ (wr.heap.size + 1) (by simp) rfl _ _ 82 rfl 31 3 24 elemPt (w1.heap.size + 1) ptCells _ _ q' _ (by rw [HS2.out]; rfl) rfl (pt_one _) HM2.out.own rfl rfl hplen (by omega) (by omega) ?_; intro v' w' hown' hg' hat'; have HP9 := Lib.hid (HM2.out.push (by rw [HQ.out]; exact hown') hg' hat'); clear hown' hg' hat')
        go_roundw
        case rel => exact ⟨k + 1, by omega, by go_num, HP9.out⟩
        case measure => simp [intOf]; omega
      · have HS2 := Lib.hid (show q' = ⟨q.x, q.y + y, q.z⟩ from HS.out)
        have g1' : wr.cell? ⟨b, off + k * 2 + 1, none⟩ = some (.int .u8 121) := g1
        clear g1
        have HM2 := Lib.hid (HM.out 1 (.int .i64 (q.y + y)) (.cells #[.int .i64 (li : Int), .int .u8 121] 101) (by rw [HS2.out]; rfl))
        go_wp2_with (at_builtin; refine wpList_pushAt _ (wr.heap.size + 1) (by simp) rfl _ _ 82 rfl 31 3 24 elemPt (w1.heap.size + 1) ptCells _ _ q' _ (by rw [HS2.out]; rfl) rfl (pt_one _) HM2.out.own rfl rfl hplen (by omega) (by omega) ?_; intro v' w' hown' hg' hat'; have HP9 := Lib.hid (HM2.out.push (by rw [HQ.out]; exact hown') hg' hat'); clear hown' hg' hat')
        go_roundw
        case rel => exact ⟨k + 1, by omega, by go_num, HP9.out⟩
        case measure => simp [intOf]; omega
      · have HS2 := Lib.hid (show q' = ⟨q.x, q.y - y, q.z⟩ from HS.out)
        have g1' : wr.cell? ⟨b, off + k * 2 + 1, none⟩ = some (.int .u8 89) := g1
        clear g1
        have HM2 := Lib.hid (HM.out 1 (.int .i64 (q.y - y)) (.cells #[.int .i64 (li : Int), .int .u8 89] 101) (by rw [HS2.out]; rfl))
        go_wp2_with (at_builtin; refine wpList_pushAt _ (wr.heap.size + 1) (by simp) rfl _ _ 82 rfl 31 3 24 elemPt (w1.heap.size + 1) ptCells _ _ q' _ (by rw [HS2.out]; rfl) rfl (pt_one _) HM2.out.own rfl rfl hplen (by omega) (by omega) ?_; intro v' w' hown' hg' hat'; have HP9 := Lib.hid (HM2.out.push (by rw [HQ.out]; exact hown') hg' hat'); clear hown' hg' hat')
        go_roundw
        case rel => exact ⟨k + 1, by omega, by go_num, HP9.out⟩
        case measure => simp [intOf]; omega
      · have HS2 := Lib.hid (show q' = ⟨q.x, q.y, q.z + y⟩ from HS.out)
        have g1' : wr.cell? ⟨b, off + k * 2 + 1, none⟩ = some (.int .u8 122) := g1
        clear g1
        have HM2 := Lib.hid (HM.out 2 (.int .i64 (q.z + y)) (.cells #[.int .i64 (li : Int), .int .u8 122] 101) (by rw [HS2.out]; rfl))
        go_wp2_with (at_builtin; refine wpList_pushAt _ (wr.heap.size + 1) (by simp) rfl _ _ 82 rfl 31 3 24 elemPt (w1.heap.size + 1) ptCells _ _ q' _ (by rw [HS2.out]; rfl) rfl (pt_one _) HM2.out.own rfl rfl hplen (by omega) (by omega) ?_; intro v' w' hown' hg' hat'; have HP9 := Lib.hid (HM2.out.push (by rw [HQ.out]; exact hown') hg' hat'); clear hown' hg' hat')
        go_roundw
        case rel => exact ⟨k + 1, by omega, by go_num, HP9.out⟩
        case measure => simp [intOf]; omega
    · obtain rfl : k = ls.length := by omega
      have HO := Lib.hid HW.own
      have HBW := Lib.hid HW.below
      have hz2 : w.heap.size ≤ w1.heap.size + 1 := by omega
      clear HW
      go_wp2
      go_ret2
      exact ⟨_, rfl, by rw [HP.out]; exact HO.out.mono hz2, HBW.out⟩
end Go.Proofs.Ytpidjgljeooblaa
