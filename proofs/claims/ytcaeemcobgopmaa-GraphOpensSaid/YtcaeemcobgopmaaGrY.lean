/-
  Graph: Bridges.
-/
import Derived.Test.YtcaeemcobgopmaaGrX
import Derived.Test.YtcaeemcobgopmaaBrd
import Derived.Laws.EntriesVeiled

namespace Go.Proofs.Ytcaeemcobgopmaa
open Go.RowKit
set_option linter.unusedVariables false

theorem bridgesNo_any (n : Int) (v : Value) (l : List (Int × Int)) (w : World) (hp : Pairs w v l) (hl : l.length ≤ 140737488355328) (hv : vld n l = false) (hvs : ∃ ao len cap, v = .slice ao len cap) :
    Calls Try.prog 11 #[.int .i64 n, v] w fun e w' => e = .returned (.tuple #[.slice none 0 0, .int .i64 1]) ∧ Below w.heap.size w w' := by
  have HV := Lib.hid hv
  obtain ⟨ao, len, cap, rfl⟩ := hvs
  have hB0 := below_new w (.cells #[.slice ao len cap] 22)
  clear hv
  go_enter Try.func11, Try.ntmps11
  go_wp2_with fail
  refine (valid_any n _ l _ (hp.below hB0) hl).mono ?_
  rw [HV.out]
  rintro e w9 ⟨rfl, hb1⟩
  go_wp2
  go_ret2
  exact ⟨rfl, bstep hB0 hb1⟩

theorem bridgesClos (k : Int) (W : World) : Calls Try.prog 38 #[.int .i64 k] W fun e w1 => e = .returned (.bool true) ∧ W = w1 := by
  go_enter Try.func38, Try.ntmps38
  go_wp2
  go_ret
  exact ⟨rfl, rfl⟩

/-- Behind the two slices and their boxes, in whatever order they were made. -/
structure MkH (W3 : World) (n : Nat) (wx : World) (O L GO GL : Nat) : Prop where
  below : Below W3.heap.size W3 wx
  o : wx.heap[O]? = some (.cells #[.slice (some ⟨GO, 0, none⟩) n n] 25 (0, 0))
  l : wx.heap[L]? = some (.cells #[.slice (some ⟨GL, 0, none⟩) n n] 25 (0, 0))
  oo : wx.heap[GO]? = some (.cells (madeCells #[.int .i64 0] n) 3 (0, 0))
  ol : wx.heap[GL]? = some (.cells (madeCells #[.int .i64 0] n) 3 (0, 0))
  ne : GO ≠ GL
  ge : W3.heap.size ≤ GO ∧ W3.heap.size ≤ GL

section
variable (W : World) (o0 o1 o2 o3 : Obj)
theorem four_below : Below W.heap.size W ((((W.alloc o0).alloc o1).alloc o2).alloc o3).drew := below_drewN' ((((below_new W o0).alloc (by simp only [World.size_alloc]; omega) o1).alloc (by simp only [World.size_alloc]; omega) o2).alloc (by simp only [World.size_alloc]; omega) o3) 1
theorem four3 : ((((W.alloc o0).alloc o1).alloc o2).alloc o3).drew.heap[W.heap.size + 1 + 1 + 1]? = some o3 := by
  have h := heap_alloc_new (((W.alloc o0).alloc o1).alloc o2) o3
  rw [World.size_alloc, World.size_alloc, World.size_alloc] at h
  exact h
theorem four2 : ((((W.alloc o0).alloc o1).alloc o2).alloc o3).drew.heap[W.heap.size + 1 + 1]? = some o2 := by
  have h := heap_alloc_new ((W.alloc o0).alloc o1) o2
  rw [World.size_alloc, World.size_alloc] at h
  exact (heap_alloc_old (((W.alloc o0).alloc o1).alloc o2) o3 (by simp)).trans h
theorem four1 : ((((W.alloc o0).alloc o1).alloc o2).alloc o3).drew.heap[W.heap.size + 1]? = some o1 := by
  have h := heap_alloc_new (W.alloc o0) o1
  rw [World.size_alloc] at h
  exact (heap_alloc_old (((W.alloc o0).alloc o1).alloc o2) o3 (by simp only [World.size_alloc]; omega)).trans ((heap_alloc_old ((W.alloc o0).alloc o1) o2 (by simp)).trans h)
theorem four0 : ((((W.alloc o0).alloc o1).alloc o2).alloc o3).drew.heap[W.heap.size]? = some o0 :=
  (heap_alloc_old (((W.alloc o0).alloc o1).alloc o2) o3 (by simp only [World.size_alloc]; omega)).trans ((heap_alloc_old ((W.alloc o0).alloc o1) o2 (by simp only [World.size_alloc]; omega)).trans ((heap_alloc_old (W.alloc o0) o1 (by simp)).trans (heap_alloc_new W o0)))
end

theorem mk_ex {W3 wx : World} {n O L GO GL : Nat} (h : Below W3.heap.size W3 wx) (h1 : wx.heap[O]? = some (.cells #[.slice (some ⟨GO, 0, none⟩) n n] 25 (0, 0))) (h2 : wx.heap[L]? = some (.cells #[.slice (some ⟨GL, 0, none⟩) n n] 25 (0, 0)))
    (h3 : wx.heap[GO]? = some (.cells (madeCells #[.int .i64 0] n) 3 (0, 0))) (h4 : wx.heap[GL]? = some (.cells (madeCells #[.int .i64 0] n) 3 (0, 0))) (h5 : GO ≠ GL) (h6 : W3.heap.size ≤ GO ∧ W3.heap.size ≤ GL) :
    ∃ O' L' GO' GL', Value.pointer (some ⟨O, 0, none⟩) = .pointer (some ⟨O', 0, none⟩) ∧ Value.pointer (some ⟨L, 0, none⟩) = .pointer (some ⟨L', 0, none⟩) ∧ Hid (MkH W3 n wx O' L' GO' GL') :=
  ⟨O, L, GO, GL, rfl, rfl, ⟨h, h1, h2, h3, h4, h5, h6⟩⟩

theorem own_blk {α : Type} {w : World} {base g n : Nat} {e : TypeId} {f : α → Value} {x : α} (h : w.heap[g]? = some (.cells (madeCells #[f x] n) e (0, 0))) (hn : n ≤ 1099511627776) (hb : base ≤ g) : Own w base e f (.slice (some ⟨g, 0, none⟩) n n) (List.replicate n x) := by
  have hc : (madeCells #[f x] n).toList = List.replicate n (f x) := toList_madeCells_one _ _
  have hs : (madeCells #[f x] n).size = n * 1 := by rw [← Array.length_toList, hc]; simp
  unfold Own
  rw [List.length_replicate, List.map_replicate, ← hc]
  exact ⟨by simpa using hs, .inr ⟨g, n, _, rfl, hb, h, Nat.le_refl _, by unfold maxLen; omega, hs, List.take_of_length_le (by rw [Array.length_toList, hs]; exact Nat.le_refl _)⟩⟩

theorem undrew_heap {w : World} {b : Nat} {o : Obj} (h : w.drew.heap[b]? = some o) : w.heap[b]? = some o := h

theorem bridges_start {W3 W4 w2 : World} {n O L GO GL E : Nat} {ve vat : Value} (hE : Box W3 E 22 ve) (h : MkH W3 n W4 O L GO GL) (hW : W3 = w2.alloc (.cells #[vat] 35)) (m : Nat) (hn : n ≤ 1000) (hm : m ≤ 4000) :
    DAt W3 n m ⟨W4.heap.size + 1 + 1, O, L, w2.heap.size, E, W4.heap.size + 1 + 1 + 1, W4.heap.size + 1, GO, GL, W4.heap.size, ve, vat⟩
      ((((W4.alloc (.cells (madeCells #[.bool false] m) 4)).alloc (.cells #[.slice (some ⟨W4.heap.size, 0, none⟩) m m] 55)).alloc (.cells #[.int .i64 0] 3)).alloc
        (.cells #[.func (.func 39) #[] #[.pointer (some ⟨W4.heap.size + 1 + 1, 0, none⟩), .pointer (some ⟨O, 0, none⟩), .pointer (some ⟨L, 0, none⟩), .pointer (some ⟨w2.heap.size, 0, none⟩), .pointer (some ⟨E, 0, none⟩), .pointer (some ⟨W4.heap.size + 1 + 1 + 1, 0, none⟩), .pointer (some ⟨W4.heap.size + 1, 0, none⟩)]] 56))
      (start n m) := by
  obtain ⟨o0, h0⟩ : ∃ o, o = Obj.cells (madeCells #[.bool false] m) 4 := ⟨_, rfl⟩
  obtain ⟨o1, h1⟩ : ∃ o, o = Obj.cells #[.slice (some ⟨W4.heap.size, 0, none⟩) m m] 55 := ⟨_, rfl⟩
  obtain ⟨o2, h2⟩ : ∃ o, o = Obj.cells #[.int .i64 0] 3 := ⟨_, rfl⟩
  obtain ⟨o3, h3⟩ : ∃ o, o = Obj.cells #[.func (.func 39) #[] #[.pointer (some ⟨W4.heap.size + 1 + 1, 0, none⟩), .pointer (some ⟨O, 0, none⟩), .pointer (some ⟨L, 0, none⟩), .pointer (some ⟨w2.heap.size, 0, none⟩), .pointer (some ⟨E, 0, none⟩), .pointer (some ⟨W4.heap.size + 1 + 1 + 1, 0, none⟩), .pointer (some ⟨W4.heap.size + 1, 0, none⟩)]] 56 := ⟨_, rfl⟩
  rw [← h0, ← h1, ← h2, ← h3]
  have hb : Below W4.heap.size W4 ((((W4.alloc o0).alloc o1).alloc o2).alloc o3) := (((below_new W4 o0).alloc (by simp only [World.size_alloc]; omega) o1).alloc (by simp only [World.size_alloc]; omega) o2).alloc (by simp only [World.size_alloc]; omega) o3
  have s4 := h.below.size
  have lt1 : w2.heap.size < W3.heap.size := by rw [hW]; simp
  have ltE := hE.lt
  have blk : ∀ b o, W4.heap[b]? = some o → ((((W4.alloc o0).alloc o1).alloc o2).alloc o3).heap[b]? = some o := fun b o hbo => (hb.block b (Array.getElem?_eq_some_iff.1 hbo).1).trans hbo
  have k0 := undrew_heap (four0 W4 o0 o1 o2 o3)
  have k1 := undrew_heap (four1 W4 o0 o1 o2 o3)
  have k2 := undrew_heap (four2 W4 o0 o1 o2 o3)
  have k3 := undrew_heap (four3 W4 o0 o1 o2 o3)
  have hA : Box W3 w2.heap.size 35 vat := by rw [hW]; exact heap_alloc_new w2 _
  have ltGO : GO < W4.heap.size := (Array.getElem?_eq_some_iff.1 h.oo).1
  have ltGL : GL < W4.heap.size := (Array.getElem?_eq_some_iff.1 h.ol).1
  refine ⟨h.below.trans (hb.mono s4), hE, ?_, blk _ _ h.o, blk _ _ h.l, ?_, ?_, ?_, own_blk (f := natf) (x := 0) (blk _ _ h.oo) (by omega) h.ge.1, own_blk (f := natf) (x := 0) (blk _ _ h.ol) (by omega) h.ge.2, own_blk (f := boolf) (x := false) (k0.trans (by rw [h0]; rfl)) (by omega) s4, ⟨?_, ?_, h.ne⟩, ?_⟩
  · exact k2.trans (by rw [h2]; rfl)
  · exact blk _ _ ((h.below.block _ lt1).trans hA)
  · exact k3.trans (by rw [h3]; rfl)
  · exact k1.trans (by rw [h1])
  · show W4.heap.size + 1 + 1 ≠ GO
    omega
  · show W4.heap.size + 1 + 1 ≠ GL
    omega
  · show W3.heap.size ≤ W4.heap.size + 1 + 1
    omega

set_option maxRecDepth 100000 in
set_option maxHeartbeats 4000000 in
theorem bridges_ok (n : Nat) (v : Value) (ns : List (Nat × Nat)) (w : World) (hg : Gr w n v ns) :
    Calls Try.prog 11 #[.int .i64 (n : Int), v] w (OwnRet w (bridgesOf n ns)) := by
  have hcl : (cst ns).length ≤ 140737488355328 := by rw [cst_len]; have := hg.m_le; omega
  have HO := Lib.hid hg.ok
  have hn := hg.n_le
  have hm := hg.m_le
  have HG := Lib.hid hg
  have hp := hg.pairs
  obtain ⟨eao, ecap, rfl, hec⟩ := hp.open_
  clear hec hg
  have hB0 := below_new w (.cells #[.slice eao ns.length ecap] 22)
  have HE0 : Hid (Box (w.alloc (.cells #[.slice eao ns.length ecap] 22)) w.heap.size 22 (.slice eao ns.length ecap)) := heap_alloc_new w _
  go_enter Try.func11, Try.ntmps11
  go_wp2_with fail
  refine (valid_any n _ (cst ns) _ (hp.below hB0) hcl).mono ?_
  rw [HO.out]
  rintro e w1 ⟨rfl, hb1⟩
  have hB1 := bstep hB0 hb1
  have HE1 := Lib.hid (HE0.out.below hb1)
  have c1 := HE1.out.cell
  clear HE0 hB0 hb1
  go_wp2_with fail
  refine (beside_any 38 #[] (fun _ => true) n _ ns w1 hn hm (hp.below hB1) HG.out.ends (fun xs W => by rfl) (fun k W _ _ => bridgesClos k W)).mono ?_
  rintro e w2 ⟨V, rfl, hM, hb2⟩
  have hB2 := bstep hB1 hb2
  have HE2 := Lib.hid (HE1.out.below hb2)
  have hV := hM
  obtain ⟨vals, hMV⟩ := hV
  obtain ⟨vo, vc, rfl⟩ := hMV.2.1.shape
  have hvl : vals.length = n := by rw [hMV.1, besTo_len]
  rw [hvl] at hM ⊢
  have HM := Lib.hid hM
  clear hMV hM hvl HE1 c1 hb2
  go_wp2_with fail
  obtain ⟨W3, hW3⟩ : ∃ W3, W3 = w2.alloc (.cells #[.slice vo n vc] 35) := ⟨_, rfl⟩
  rw [← hW3]
  have HW3 := Lib.hid hW3
  clear hW3
  have hmk := fun W => run_make_one (P := Try.prog) 25 3 8 (.int .i64 0) Try.underlying25 (by kernel_rfl) (by omega) n (by omega) W
  go_cut [7, 8] (fun s7 s8 wx => ∃ O L GO GL, s7 = .pointer (some ⟨O, 0, none⟩) ∧ s8 = .pointer (some ⟨L, 0, none⟩) ∧ Hid (MkH W3 n wx O L GO GL))
  case first =>
    go_region
    all_goals
      go_wp2_with fail
      go_meet
      case rel =>
        exact mk_ex (four_below _ _ _ _ _) (by first | exact four3 _ _ _ _ _ | exact four2 _ _ _ _ _ | exact four1 _ _ _ _ _ | exact four0 _ _ _ _ _) (by first | exact four3 _ _ _ _ _ | exact four2 _ _ _ _ _ | exact four1 _ _ _ _ _ | exact four0 _ _ _ _ _) (by first | exact four3 _ _ _ _ _ | exact four2 _ _ _ _ _ | exact four1 _ _ _ _ _ | exact four0 _ _ _ _ _) (by first | exact four3 _ _ _ _ _ | exact four2 _ _ _ _ _ | exact four1 _ _ _ _ _ | exact four0 _ _ _ _ _) (by omega) (by omega)
  case rest =>
    obtain ⟨O, L, GO, GL, rfl, rfl, H4⟩ := hcut
    clear hmk
    obtain ⟨W4, rfl⟩ : ∃ W4, W4 = wc := ⟨_, rfl⟩
    have HE3 : Hid (Box W3 w.heap.size 22 (.slice eao ns.length ecap)) := by rw [HW3.out]; exact HE2.out.below (below_new w2 _)
    have c1 := (HE3.out.below H4.out.below).cell
    have hmk := fun W => run_make_one (P := Try.prog) 55 4 1 (.bool false) Try.underlying55 (by kernel_rfl) (by omega) ns.length (by omega) W
    have hf1 : ∀ o0 o1 o2 : Obj, ((((W4.alloc o0).alloc o1).alloc o2).alloc (.cells #[.nilFunc] 56)).cell? ⟨W4.heap.size + 1 + 1 + 1, 0, none⟩ = some .nilFunc := fun o0 o1 o2 => by
      have h := four3 W4 o0 o1 o2 (.cells #[.nilFunc] 56)
      exact Box.cell (w := ((((W4.alloc o0).alloc o1).alloc o2).alloc (.cells #[.nilFunc] 56))) h
    have hf2 : ∀ o0 o1 o2 : Obj, ((((W4.alloc o0).alloc o1).alloc o2).alloc (.cells #[.nilFunc] 56)).frozen? ⟨W4.heap.size + 1 + 1 + 1, 0, none⟩ = false := fun o0 o1 o2 => by
      have h := four3 W4 o0 o1 o2 (.cells #[.nilFunc] 56)
      exact Box.free (w := ((((W4.alloc o0).alloc o1).alloc o2).alloc (.cells #[.nilFunc] 56))) h
    go_wp2_with fail
    clear hmk hf1 hf2 c1
    obtain ⟨rows, hrows⟩ : ∃ rows, besTo n ns (fun _ => true) ns.length = rows := ⟨_, rfl⟩
    have hRO : RowOk ns (fun _ => true) n rows := by rw [← hrows]; exact besTo_rowOk HG.out.ends HG.out.m_le
    have HD0 := Lib.hid (bridges_start HE3.out H4.out HW3.out (ve := .slice eao ns.length ecap) (vat := .slice vo n vc) ns.length (by omega) (by omega))
    have HROWS := Lib.hid hrows
    have HRO := Lib.hid hRO
    have HRW : Hid (Rows W3 (.slice vo n vc) rows) := by
      rw [HW3.out, ← hrows]
      exact Rows.below (HM.out.rows) (below_new w2 _)
    have HNP : Hid (NPairs W3 (.slice eao ns.length ecap) ns) := by
      rw [HW3.out]
      exact (hp.below hB2).below (below_new w2 _)
    clear hrows hRO hp HE2 HM HE3
    obtain ⟨d, hd⟩ : ∃ d : Ids, d = ⟨W4.heap.size + 1 + 1, O, L, w2.heap.size, w.heap.size, W4.heap.size + 1 + 1 + 1, W4.heap.size + 1, GO, GL, W4.heap.size, .slice eao ns.length ecap, .slice vo n vc⟩ := ⟨_, rfl⟩
    go_loopw [12, 29] (fun _ s29 wr => ∃ k : Nat, k ≤ n ∧ s29 = .int .i64 k ∧ Hid (DAt W3 n ns.length ⟨W4.heap.size + 1 + 1, O, L, w2.heap.size, w.heap.size, W4.heap.size + 1 + 1 + 1, W4.heap.size + 1, GO, GL, W4.heap.size, .slice eao ns.length ecap, .slice vo n vc⟩ wr (visitAll rows ns n k (start n ns.length)) ∧ All n ns k (visitAll rows ns n k (start n ns.length)))) (fun _ s29 _ => n - (intOf s29).toNat)
    case atStart => exact ⟨0, Nat.zero_le _, rfl, HD0.out, All.start n ns⟩
    case round =>
      clear HD0
      obtain ⟨k, hk, rfl, H⟩ := hrel
      by_cases hlt : k < n
      · have HNX : Hid (All n ns (k + 1) (visitAll rows ns n (k + 1) (start n ns.length))) := All.all HG.out.ends HRO.out (k + 1) (by omega)
        have HV : Hid (visitAll rows ns n (k + 1) (start n ns.length) = if (visitAll rows ns n k (start n ns.length)).ord.getD k 0 = 0 then visitF rows ns n k (-1) (visitAll rows ns n k (start n ns.length)) else visitAll rows ns n k (start n ns.length)) := by rw [visitAll]; exact rfl
        obtain ⟨s, hs⟩ : ∃ s, visitAll rows ns n k (start n ns.length) = s := ⟨_, rfl⟩
        rw [hs] at H HV
        have HS := Lib.hid hs
        clear hs
        obtain ⟨x, hx⟩ : ∃ x, s.ord[k]? = some x := ⟨_, List.getElem?_eq_getElem (by rw [H.out.2.ok.ord]; exact hlt)⟩
        have c1 := H.out.1.o.cell
        have c2 := H.out.1.oo.cell hx
        have hgx : s.ord.getD k 0 = x := by simp [List.getD, hx]
        have HGX := Lib.hid hgx
        have HX := Lib.hid hx
        simp only at c1 c2
        unfold natf at c2
        clear hx hgx
        by_cases hx0 : x = 0
        · subst hx0
          have c3 := H.out.1.v.cell
          simp only at c3
          unfold Ids.caps at c3
          have hz : zeros s.ord ≤ n := by have := H.out.2.ok.cnt; omega
          have HC := Lib.hid (visit_any W3 n _ ns rows (fun _ => true) hn hm HNP.out HRW.out HG.out.ends HRO.out n k (-1) s _ hlt HX.out H.out.2.ok hz H.out.1)
          clear hz
          go_wp2_with fail
          refine HC.out.mono ?_
          rintro e w10 ⟨rfl, hD10⟩
          have H10 := Lib.hid hD10
          clear hD10 c1 c2 c3
          go_wp2
          go_roundw
          case rel => exact ⟨k + 1, by omega, by go_num, by rw [HV.out, if_pos HGX.out]; exact H10.out, HNX.out⟩
          case measure => simp [intOf]; omega
        · have hx1 : ((x : Int) == 0) = false := by simpa using hx0
          have HX0 := Lib.hid hx0
          clear hx0
          go_wp2
          go_roundw
          case rel => exact ⟨k + 1, by omega, by go_num, by rw [HV.out, if_neg (by rw [HGX.out]; exact HX0.out)]; exact H.out.1, HNX.out⟩
          case measure => simp [intOf]; omega
      · obtain rfl : k = n := by omega
        have c1 := H.out.1.b.cell
        simp only at c1
        go_wp2_with fail
        refine (indices_any _ _ true _ H.out.1.ob.bools (by rw [H.out.2.ok.br]; omega)).mono ?_
        rintro e w10 ⟨u, rfl, hu, hb10⟩
        have HU := Lib.hid hu
        clear hu c1
        go_wp2
        go_ret2
        have hBw : Below w.heap.size w _ := (hB2.trans ((show Below w2.heap.size w2 W3 by rw [HW3.out]; exact below_new w2 _).mono hB2.size)).trans (H.out.1.below.mono (by have := hB2.size; rw [HW3.out]; simp; omega))
        refine ⟨⟨u, rfl, ?_⟩, bstep hBw hb10⟩
        unfold bridgesOf
        rw [HROWS.out]
        exact HU.out.mono hBw.size
end Go.Proofs.Ytcaeemcobgopmaa
