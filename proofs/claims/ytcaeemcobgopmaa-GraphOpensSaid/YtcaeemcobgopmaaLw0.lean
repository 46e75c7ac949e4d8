/-
  Laws of layer 5: Same, large, awake.
-/
import Derived.Test.YtcaeemcobgopmaaRfD
import Derived.Test.YtcaeemcobgopmaaGrY
import Derived.Test.YtcaeemcobgopmaaGrT
import Derived.Test.YtcaeemcobgopmaaGrG
namespace Go.Proofs.Ytcaeemcobgopmaa
open Go.RowKit
set_option linter.unusedVariables false

theorem natInj : Function.Injective (fun x : Nat => (x : Int)) := fun a b h => by simp only at h; omega
theorem equalN_any (v v' : Value) (l l' : List Nat) (w : World) (h : Nats w v l) (h' : Nats w v' l') (hl : l.length ≤ 140737488355328) (hl' : l'.length ≤ 140737488355328) :
    Calls Try.prog 14 #[v, v'] w fun e w' => e = .returned (.bool (decide (l = l'))) ∧ Below w.heap.size w w' := by
  refine (equal_any v v' _ _ w h.ints h'.ints (by simpa using hl) (by simpa using hl')).mono ?_
  rintro e w' ⟨rfl, hb⟩
  refine ⟨ret_bool (decide_eq_decide.2 ⟨fun h => ?_, fun h => by rw [h]⟩), hb⟩
  exact (List.map_inj_right (fun a b h => natInj h)).1 h

theorem equalN_yes (v v' : Value) (l l' : List Nat) (w : World) (h : Nats w v l) (h' : Nats w v' l') (hl : l.length ≤ 140737488355328) (he : l = l') :
    Calls Try.prog 14 #[v, v'] w fun e w' => e = .returned (.bool true) ∧ Below w.heap.size w w' := by
  have := equalN_any v v' l l' w h h' hl (by rw [← he]; exact hl)
  rw [decide_eq_true he] at this
  exact this

theorem sl_lit {α : Type} (w : World) (f : α → Value) (l : List α) (cs : Array Value) (t : TypeId) (n : Nat) (hcs : cs = (l.map f).toArray) (hn : n = l.length) : Sl (w.alloc (.cells cs t)) f (.slice (some ⟨w.heap.size, 0, none⟩) n n) l := by
  subst hcs hn
  refine ⟨_, _, rfl, fun _ => ⟨_, _, rfl, by simp, fun k x hx => ?_⟩⟩
  rw [World.cell?_alloc_at _ _ _ _ rfl, Nat.zero_add]
  simp [hx]

/-! ### large -/
def larg (n : Int) (m : Nat) : Bool := (decide (30 < n) && decide (n ≤ 1000)) || (decide (40 < m) && decide (m ≤ 4000)) || decide (4010 < m)

theorem large_any (n : Int) (v : Value) (m : Nat) (w : World) (hm : m ≤ 140737488355328) (hv : ∃ ao cap, v = .slice ao m cap) :
    Calls Try.prog 10 #[.int .i64 n, v] w fun e w' => e = .returned (.bool (larg n m)) ∧ w = w' := by
  obtain ⟨ao, cap, rfl⟩ := hv
  by_cases h1 : 30 < n
  · by_cases h2 : n ≤ 1000
    · have E := Lib.hid (show larg n m = true by unfold larg; rw [dec_yes h1, dec_yes h2]; simp)
      go_enter Try.func10, Try.ntmps10
      go_wp2
      go_ret
      exact ⟨ret_bool (by first | exact E.out.symm | (rw [E.out]; simp <;> omega)), rfl⟩
    · by_cases h3 : 40 < m
      · by_cases h4 : m ≤ 4000
        · have E := Lib.hid (show larg n m = true by unfold larg; rw [dec_yes h3, dec_yes h4]; simp)
          go_enter Try.func10, Try.ntmps10
          go_wp2
          go_ret
          exact ⟨ret_bool (by first | exact E.out.symm | (rw [E.out]; simp <;> omega)), rfl⟩
        · by_cases h5 : 4010 < m
          · have E := Lib.hid (show larg n m = true by unfold larg; rw [dec_yes h5]; simp)
            go_enter Try.func10, Try.ntmps10
            go_wp2
            go_ret
            exact ⟨ret_bool (by first | exact E.out.symm | (rw [E.out]; simp <;> omega)), rfl⟩
          · have E := Lib.hid (show larg n m = false by unfold larg; rw [dec_no h2, dec_no h4, dec_no h5]; simp)
            go_enter Try.func10, Try.ntmps10
            go_wp2
            go_ret
            exact ⟨ret_bool (by first | exact E.out.symm | (rw [E.out]; simp <;> omega)), rfl⟩
      · have h5 : ¬ 4010 < m := by omega
        have E := Lib.hid (show larg n m = false by unfold larg; rw [dec_no h2, dec_no h3, dec_no h5]; simp)
        go_enter Try.func10, Try.ntmps10
        go_wp2
        go_ret
        exact ⟨ret_bool (by first | exact E.out.symm | (rw [E.out]; simp <;> omega)), rfl⟩
  · by_cases h3 : 40 < m
    · by_cases h4 : m ≤ 4000
      · have E := Lib.hid (show larg n m = true by unfold larg; rw [dec_yes h3, dec_yes h4]; simp)
        go_enter Try.func10, Try.ntmps10
        go_wp2
        go_ret
        exact ⟨ret_bool (by first | exact E.out.symm | (rw [E.out]; simp <;> omega)), rfl⟩
      · by_cases h5 : 4010 < m
        · have E := Lib.hid (show larg n m = true by unfold larg; rw [dec_yes h5]; simp)
          go_enter Try.func10, Try.ntmps10
          go_wp2
          go_ret
          exact ⟨ret_bool (by first | exact E.out.symm | (rw [E.out]; simp <;> omega)), rfl⟩
        · have E := Lib.hid (show larg n m = false by unfold larg; rw [dec_no h1, dec_no h4, dec_no h5]; simp)
          go_enter Try.func10, Try.ntmps10
          go_wp2
          go_ret
          exact ⟨ret_bool (by first | exact E.out.symm | (rw [E.out]; simp <;> omega)), rfl⟩
    · have h5 : ¬ 4010 < m := by omega
      have E := Lib.hid (show larg n m = false by unfold larg; rw [dec_no h1, dec_no h3, dec_no h5]; simp)
      go_enter Try.func10, Try.ntmps10
      go_wp2
      go_ret
      exact ⟨ret_bool (by first | exact E.out.symm | (rw [E.out]; simp <;> omega)), rfl⟩

/-! ### Same, where it holds -/
theorem rows_get {w : World} {ao : Option Addr} {n cap k : Nat} {l : List (List Nat)} {r : List Nat} (h : Rows w (.slice ao n cap) l) (hk : l[k]? = some r) :
    ∃ b off, ao = some ⟨b, off, none⟩ ∧ b < w.heap.size ∧ ∃ uo uc, w.cell? ⟨b, off + k, none⟩ = some (.slice uo r.length uc) ∧ Nats w (.slice uo r.length uc) r := by
  obtain ⟨ao', cap', hv, h2⟩ := h
  cases hv
  obtain ⟨b, off, rfl, hlt, hc⟩ := h2 (by have := (List.getElem?_eq_some_iff.1 hk).1; omega)
  obtain ⟨u, hu, hn⟩ := hc k r hk
  have hn' := hn
  obtain ⟨uo, uc, rfl, _⟩ := hn
  exact ⟨b, off, rfl, hlt, uo, uc, hu, hn'⟩
theorem nats_get {w : World} {ao : Option Addr} {n cap k : Nat} {l : List Nat} {x : Nat} (h : Nats w (.slice ao n cap) l) (hk : l[k]? = some x) :
    ∃ b off, ao = some ⟨b, off, none⟩ ∧ b < w.heap.size ∧ w.cell? ⟨b, off + k, none⟩ = some (.int .i64 (x : Int)) := by
  obtain ⟨ao', cap', hv, h2⟩ := h
  cases hv
  obtain ⟨b, off, rfl, hlt, hc⟩ := h2 (by have := (List.getElem?_eq_some_iff.1 hk).1; omega)
  exact ⟨b, off, rfl, hlt, hc k x hk⟩

set_option maxRecDepth 100000 in
set_option maxHeartbeats 4000000 in
theorem same_yes (v v' : Value) (l : List (List Nat)) (w : World) (h : Rows w v l) (h' : Rows w v' l) (hl : l.length ≤ 1000000) (hr : ∀ r ∈ l, r.length ≤ 1000000) :
    Calls Try.prog 20 #[v, v'] w fun e w' => e = .returned (.bool true) ∧ Below w.heap.size w w' := by
  have HR := Lib.hid hr
  have H := Lib.hid h
  have H' := Lib.hid h'
  obtain ⟨ao, cap, rfl, _⟩ := h
  obtain ⟨ao', cap', rfl, _⟩ := h'
  clear hr
  have hne : ((l.length : Int) != (l.length : Int)) = false := by simp
  go_enter Try.func20, Try.ntmps20
  go_wp2_with fail
  go_loopw [5, 6] (fun s5 s6 wr => ∃ k : Nat, k ≤ l.length ∧ s5 = .int .i64 (k : Int) ∧ Below w.heap.size w wr) (fun s5 _ _ => l.length - (intOf s5).toNat)
  case atStart => exact ⟨0, Nat.zero_le _, rfl, Below.refl _ _⟩
  case round =>
    obtain ⟨k, hk, rfl, hB⟩ := hrel
    clear hne
    by_cases hlt : k < l.length
    · obtain ⟨r, hkr⟩ : ∃ r, l[k]? = some r := ⟨_, List.getElem?_eq_getElem hlt⟩
      have hrl := HR.out r (List.mem_of_getElem? hkr)
      have R := Lib.hid (Rows.below H.out hB)
      have R' := Lib.hid (Rows.below H'.out hB)
      obtain ⟨b, off, rfl, hbl, uo, uc, c1, N⟩ := rows_get R.out hkr
      obtain ⟨b', off', rfl, hbl', uo', uc', c1', N'⟩ := rows_get R'.out hkr
      have N := Lib.hid N
      have N' := Lib.hid N'
      have HK := Lib.hid hkr
      have hne : ((r.length : Int) != (r.length : Int)) = false := by simp
      have k0 : (0 : Int) ≤ (k : Int) := Int.natCast_nonneg _
      have k1 : (k : Int) < (l.length : Int) := by omega
      clear hkr
      go_wp2
      go_quiet (fail)
      go_wp2
      have C1 := Lib.hid c1
      have C1' := Lib.hid c1'
      clear c1 c1' hne
      generalize hW : World.drewN wr _ = W2
      have hB2 : Below wr.heap.size wr W2 := by rw [← hW]; exact bdraw _
      clear hW
      go_loopw [6] (fun s6 wr2 => ∃ j : Nat, j ≤ r.length ∧ s6 = .int .i64 (j : Int) ∧ Below wr.heap.size wr wr2) (fun s6 _ => r.length - (intOf s6).toNat)
      case atStart => exact ⟨0, Nat.zero_le _, rfl, hB2⟩
      case round =>
        obtain ⟨j, hj, rfl, hBj⟩ := hrel
        have c1 := (hBj.cell (p := ⟨b, off + k, none⟩) hbl).trans C1.out
        have c1' := (hBj.cell (p := ⟨b', off' + k, none⟩) hbl').trans C1'.out
        by_cases hjl : j < r.length
        · obtain ⟨x, hx⟩ : ∃ x, r[j]? = some x := ⟨_, List.getElem?_eq_getElem hjl⟩
          obtain ⟨rb, roff, rfl, hrb, c2⟩ := nats_get (N.out.below hBj) hx
          obtain ⟨rb', roff', rfl, hrb', c2'⟩ := nats_get (N'.out.below hBj) hx
          have hne : ((x : Int) != (x : Int)) = false := by simp
          have j0 : (0 : Int) ≤ (j : Int) := Int.natCast_nonneg _
          have j1 : (j : Int) < (r.length : Int) := by omega
          clear hx
          go_wp2
          go_quiet (fail)
          go_wp2
          go_roundw
          case rel => exact ⟨j + 1, by omega, by go_num, below_drewN' hBj _⟩
          case measure => simp [intOf]; omega
        · go_wp2
          go_roundw
          case rel => exact ⟨k + 1, by omega, by go_num, bstep hB hBj⟩
          case measure => simp [intOf]; omega
    · go_wp2
      go_ret
      exact ⟨rfl, hB⟩

/-! ### awake -/
def awNs : List (Nat × Nat) := [(0, 1), (1, 2), (0, 2), (2, 3)]
theorem aw_ends : Ends 4 awNs := by
  intro k e he
  match k, he with
  | 0, he => cases he; decide
  | 1, he => cases he; decide
  | 2, he => cases he; decide
  | 3, he => cases he; decide
  | k + 4, he => cases he
theorem aw_forest : forestOf awNs = [0, 1, 3] := by decide +kernel
theorem aw_cycles : cyclesOf 4 awNs = [[2, 1, 0]] := by decide +kernel
theorem aw_bridges : bridgesOf 4 awNs = [3] := by decide +kernel
theorem aw_way : wayTo awNs (fun _ => true) 4 3 0 = [2, 3] := by decide +kernel
theorem aw_dist : distOf awNs (fun _ => true) 4 3 0 = 2 := by decide +kernel
theorem aw_valid : vld 4 (cst awNs) = true := by decide +kernel

theorem aw_gr (w : World) (v : Value) (h : NPairs w v awNs) : Gr w 4 v awNs := ⟨h, by omega, by decide, aw_ends, aw_valid⟩

theorem sameLit (w : World) (o : Obj) (h : o = .cells #[.int .i64 2, .int .i64 1, .int .i64 0] 3) :
    Rows ((w.alloc o).alloc (.cells #[.slice (some ⟨w.heap.size, 0, none⟩) 3 3] 25)) (.slice (some ⟨w.heap.size + 1, 0, none⟩) 1 1) [[2, 1, 0]] := by
  subst h
  have h1 : Nats (w.alloc (.cells #[.int .i64 2, .int .i64 1, .int .i64 0] 3)) (.slice (some ⟨w.heap.size, 0, none⟩) 3 3) [2, 1, 0] := sl_lit w (fun x : Nat => .int .i64 (x : Int)) [2, 1, 0] _ _ 3 rfl rfl
  refine ⟨_, _, rfl, fun _ => ⟨_, _, rfl, by simp, fun k x hx => ?_⟩⟩
  match k, hx with
  | 0, hx =>
    cases hx
    refine ⟨_, ?_, h1.below (below_new _ _)⟩
    rw [World.cell?_alloc_at _ _ _ _ (by simp)]; rfl

set_option maxRecDepth 100000 in
set_option maxHeartbeats 4000000 in
theorem awake_any (w : World) : Calls Try.prog 9 #[] w fun e w' => e = .returned (.bool true) ∧ Below w.heap.size w w' := by
  have HP : Hid (NPairs (w.alloc (.cells #[.int .i64 0, .int .i64 1, .int .i64 1, .int .i64 2, .int .i64 0, .int .i64 2, .int .i64 2, .int .i64 3] 43)) (.slice (some ⟨w.heap.size, 0, none⟩) 4 4) awNs) := by
    refine ⟨_, _, rfl, fun _ => ⟨_, _, rfl, by simp, fun k x hx => ?_⟩⟩
    match k, hx with
    | 0, hx => cases hx; exact ⟨by rw [World.cell?_alloc_at _ _ _ _ rfl]; rfl, by rw [World.cell?_alloc_at _ _ _ _ rfl]; rfl⟩
    | 1, hx => cases hx; exact ⟨by rw [World.cell?_alloc_at _ _ _ _ rfl]; rfl, by rw [World.cell?_alloc_at _ _ _ _ rfl]; rfl⟩
    | 2, hx => cases hx; exact ⟨by rw [World.cell?_alloc_at _ _ _ _ rfl]; rfl, by rw [World.cell?_alloc_at _ _ _ _ rfl]; rfl⟩
    | 3, hx => cases hx; exact ⟨by rw [World.cell?_alloc_at _ _ _ _ rfl]; rfl, by rw [World.cell?_alloc_at _ _ _ _ rfl]; rfl⟩
  have hB0 := below_new w (.cells #[.int .i64 0, .int .i64 1, .int .i64 1, .int .i64 2, .int .i64 0, .int .i64 2, .int .i64 2, .int .i64 3] 43)
  go_enter Try.func9, Try.ntmps9
  go_wp2_with fail
  refine (forest_ok 4 _ awNs _ (aw_gr _ _ HP.out)).mono ?_
  rw [aw_forest]
  rintro e w1 ⟨⟨u1, rfl, hu1⟩, hb1⟩
  have hB1 := bstep hB0 hb1
  go_wp2_with fail
  refine (cycles_ok 4 _ awNs _ (aw_gr _ _ (HP.out.below hb1))).mono ?_
  rw [aw_cycles]
  rintro e w2 ⟨⟨u2, rfl, hu2⟩, hb2⟩
  have hB2 := bstep hB1 hb2
  have HP2 := Lib.hid ((HP.out.below hb1).below hb2)
  go_wp2_with fail
  refine (bridges_ok 4 _ awNs _ (aw_gr _ _ HP2.out)).mono ?_
  rw [aw_bridges]
  rintro e w3 ⟨⟨u3, rfl, hu3⟩, hb3⟩
  have hB3 := bstep hB2 hb3
  go_wp2_with fail
  refine (path_ok 4 0 3 _ awNs _ (aw_gr _ _ (HP2.out.below hb3)) (by omega) (by omega)).mono ?_
  intro e w4 hp4
  unfold PathRet at hp4
  rw [aw_way, aw_dist] at hp4
  obtain ⟨⟨_, u4, rfl, hu4⟩ | ⟨h, _⟩, hb4⟩ := hp4
  · have hB4 := bstep hB3 hb4
    have N1 := Lib.hid (((hu1.sl.below hb2).below hb3).below hb4)
    have N2 := Lib.hid ((hu2.rows.below hb3).below hb4)
    have N3 := Lib.hid (hu3.sl.below hb4)
    have N4 := Lib.hid hu4.sl
    clear hu1 hu2 hu3 hu4 hb1 hb2 hb3 hb4 hB0 hB1 hB2 hB3 HP HP2
    go_wp2_with fail
    have L1 := Lib.hid (sl_lit w4 (fun x : Nat => .int .i64 (x : Int)) [0, 1, 3] #[.int .i64 0, .int .i64 1, .int .i64 3] 3 3 rfl rfl)
    have hB5 : Below w.heap.size w (w4.alloc (.cells #[.int .i64 0, .int .i64 1, .int .i64 3] 3)) := hB4.alloc hB4.size _
    refine (equalN_yes _ _ [0, 1, 3] [0, 1, 3] _ (N1.out.below (below_new _ _)) L1.out (by simp) rfl).mono ?_
    rintro e w5 ⟨rfl, hb5⟩
    have hB6 := bstep hB5 hb5
    have N2 := Lib.hid ((N2.out.below (below_new _ _)).below hb5)
    have N3 := Lib.hid ((N3.out.below (below_new _ _)).below hb5)
    have N4 := Lib.hid ((N4.out.below (below_new _ _)).below hb5)
    clear N1 L1 hb5 hB4 hB5
    go_wp2_with fail
    have L2 := Lib.hid (sameLit w5 _ rfl)
    have hB7 : Below w5.heap.size w5 ((w5.alloc (.cells #[.int .i64 2, .int .i64 1, .int .i64 0] 3)).alloc (.cells #[.slice (some ⟨w5.heap.size, 0, none⟩) 3 3] 25)) := (below_new w5 _).alloc (by simp) _
    refine (same_yes _ _ [[2, 1, 0]] _ (N2.out.below hB7) L2.out (by simp) (by simp)).mono ?_
    rintro e w6 ⟨rfl, hb6⟩
    have hB8 := bstep (bstep hB6 hB7) hb6
    have N3 := Lib.hid ((N3.out.below hB7).below hb6)
    have N4 := Lib.hid ((N4.out.below hB7).below hb6)
    clear N2 L2 hB6 hB7 hb6
    go_wp2_with fail
    have L3 := Lib.hid (sl_lit w6 (fun x : Nat => .int .i64 (x : Int)) [3] #[.int .i64 3] 3 1 rfl rfl)
    have hB9 : Below w.heap.size w (w6.alloc (.cells #[.int .i64 3] 3)) := hB8.alloc hB8.size _
    refine (equalN_yes _ _ [3] [3] _ (N3.out.below (below_new _ _)) L3.out (by simp) rfl).mono ?_
    rintro e w7 ⟨rfl, hb7⟩
    have hB10 := bstep hB9 hb7
    have N4 := Lib.hid ((N4.out.below (below_new _ _)).below hb7)
    clear N3 L3 hB8 hB9 hb7
    go_wp2_with fail
    have L4 := Lib.hid (sl_lit w7 (fun x : Nat => .int .i64 (x : Int)) [2, 3] #[.int .i64 2, .int .i64 3] 3 2 rfl rfl)
    have hB11 : Below w.heap.size w (w7.alloc (.cells #[.int .i64 2, .int .i64 3] 3)) := hB10.alloc hB10.size _
    refine (equalN_yes _ _ [2, 3] [2, 3] _ (N4.out.below (below_new _ _)) L4.out (by simp) rfl).mono ?_
    rintro e w8 ⟨rfl, hb8⟩
    have hB12 := bstep hB11 hb8
    clear N4 L4 hB10 hB11 hb8
    go_wp2
    go_ret
    exact ⟨rfl, hB12⟩
  · omega
end Go.Proofs.Ytcaeemcobgopmaa
