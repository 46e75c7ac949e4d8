/-
  Law GraphPaths: the walk.
-/
import Derived.Test.YtcaeemcobgopmaaLwB
import Derived.Test.YtcaeemcobgopmaaLwP
import Derived.Test.YtcaeemcobgopmaaLbF
import Derived.Test.YtcaeemcobgopmaaWlk
namespace Go.Proofs.Ytcaeemcobgopmaa
open Go.RowKit
set_option linter.unusedVariables false

theorem joinClos (a b A B : Nat) (u : Value) (r : List Nat) (W : World) (ha : W.cell? ⟨A, 0, none⟩ = some (.int .i64 (a : Int))) (hb : W.cell? ⟨B, 0, none⟩ = some (.int .i64 (b : Int))) (hr : Nats W u r) (hl : r.length ≤ 140737488355328) :
    Calls Try.prog 25 #[u, .pointer (some ⟨A, 0, none⟩), .pointer (some ⟨B, 0, none⟩)] W fun e w1 => e = .returned (.bool (decide (a ∈ r) && decide (b ∈ r))) ∧ Below W.heap.size W w1 := by
  obtain ⟨p, hp⟩ : ∃ p, decide (a ∈ r) = p := ⟨_, rfl⟩
  obtain ⟨q, hq⟩ : ∃ p, decide (b ∈ r) = p := ⟨_, rfl⟩
  rw [hp, hq]
  have H1 := containsN_any u r a W hr hl
  have H2 := containsN_any u r b W hr hl
  rw [hp] at H1
  rw [hq] at H2
  have H1 := Lib.hid H1
  have H2 := Lib.hid H2
  clear hp hq
  cases p
  · skip
    go_enter Try.func25, Try.ntmps25
    go_wp2_with fail
    refine H1.out.mono ?_
    rintro e w9 ⟨rfl, rfl⟩
    go_wp2
    go_ret
    exact ⟨rfl, Below.refl _ _⟩
  · skip
    go_enter Try.func25, Try.ntmps25
    go_wp2_with fail
    refine H1.out.mono ?_
    rintro e w9 ⟨rfl, rfl⟩
    go_wp2_with fail
    refine H2.out.mono ?_
    rintro e w9 ⟨rfl, rfl⟩
    go_wp2
    go_ret
    exact ⟨rfl, Below.refl _ _⟩

theorem rgt_gr {w : World} {n : Int} {v : Value} {l : List (Int × Int)} (hp : Pairs w v l) (h : rgt n l = true) : vld n l = true := by
  unfold rgt at h
  rw [Bool.and_eq_true] at h
  exact h.2

set_option maxRecDepth 100000 in
set_option maxHeartbeats 4000000 in
theorem pathsRange_walk (w : World) (n : Int) (v : Value) (l : List (Int × Int)) (hp : Pairs w v l) (hbl : l.length ≤ 140737488355328) (a b c : Int) (hr : rgt n l = false ∨ a < 0 ∨ n ≤ a ∨ b < 0 ∨ n ≤ b ∨ c < 0 ∨ n ≤ c) :
    Calls Try.prog 5 #[.int .i64 n, v, .int .i64 a, .int .i64 b, .int .i64 c] w fun e w' => e = .returned (.bool true) ∧ Below w.heap.size w w' := by
  have HP := Lib.hid hp
  obtain ⟨ao, cap, rfl, _⟩ := hp
  have hB0 : Below w.heap.size w ((w.alloc (.cells #[.int .i64 a] 3)).alloc (.cells #[.int .i64 b] 3)) := (below_new w _).alloc (by simp) _
  have hca : ((w.alloc (.cells #[.int .i64 a] 3)).alloc (.cells #[.int .i64 b] 3)).cell? ⟨w.heap.size, 0, none⟩ = some (.int .i64 a) := by go_cell
  have hcb : ((w.alloc (.cells #[.int .i64 a] 3)).alloc (.cells #[.int .i64 b] 3)).cell? ⟨w.heap.size + 1, 0, none⟩ = some (.int .i64 b) := by
    rw [World.cell?_alloc_at _ _ _ _ (by simp)]; rfl
  have HCA := Lib.hid hca
  have HCB := Lib.hid hcb
  clear hca hcb
  cases hg : rgt n l
  · have HG := Lib.hid hg
    clear hg hr
    go_enter Try.func5, Try.ntmps5
    go_wp2_with fail
    refine (awake_any _).mono ?_
    rintro e w1 ⟨rfl, hb1⟩
    have hB1 := bstep hB0 hb1
    go_wp2_with fail
    refine (right_any n _ l _ (HP.out.below hB1) hbl).mono ?_
    rw [HG.out]
    rintro e w2 ⟨rfl, hb2⟩
    have hB2 := bstep hB1 hb2
    go_wp2
    go_ret
    exact ⟨rfl, hB2⟩
  · have HG := Lib.hid hg
    have HR : Hid (a < 0 ∨ n ≤ a ∨ b < 0 ∨ n ≤ b ∨ c < 0 ∨ n ≤ c) := by
      show _ ∨ _
      rcases hr with h | h
      · rw [hg] at h; cases h
      · exact h
    clear hg hr
    go_enter Try.func5, Try.ntmps5
    go_wp2_with fail
    refine (awake_any _).mono ?_
    rintro e w1 ⟨rfl, hb1⟩
    have hB1 := bstep hB0 hb1
    go_wp2_with fail
    refine (right_any n _ l _ (HP.out.below hB1) hbl).mono ?_
    rw [HG.out]
    rintro e w2 ⟨rfl, hb2⟩
    have hB2 := bstep hB1 hb2
    have hb12 := bstep hb1 hb2
    have c1 := (hb12.cell (p := ⟨w.heap.size, 0, none⟩) (by simp; omega)).trans HCA.out
    have c2 := (hb12.cell (p := ⟨w.heap.size + 1, 0, none⟩) (by simp)).trans HCB.out
    go_wp2_with fail
    all_goals first
      | (go_ret; exact ⟨rfl, hB2⟩)
      | (exfalso; have := HR.out; omega)

set_option maxRecDepth 100000 in
set_option maxHeartbeats 4000000 in
theorem pathsNone_walk (w : World) (N a b c : Nat) (v : Value) (ns : List (Nat × Nat)) (hg : Gr w N v ns) (hr : rgt N (cst ns) = true) (ha : a < N) (hb : b < N) (hc : c < N) (h0 : distOf ns (fun _ => true) N b a < 0) :
    Calls Try.prog 5 #[.int .i64 (N : Int), v, .int .i64 (a : Int), .int .i64 (b : Int), .int .i64 (c : Int)] w fun e w' => e = .returned (.bool true) ∧ Below w.heap.size w w' := by
  have hn := hg.n_le
  have HG := Lib.hid hg
  have HR := Lib.hid hr
  have hbl : (cst ns).length ≤ 140737488355328 := by rw [cst_len]; have := hg.m_le; omega
  have H0 := Lib.hid h0
  have HL : Hid (decide (lbl ns a = lbl ns b) = false) := dec_no (fun h => by have := (dist_lbl hg.ends hb).2 h; omega)
  have H0' : Hid (distOf ns (fun _ => true) N a b < 0) := by
    show _ < _
    by_cases h : 0 ≤ distOf ns (fun _ => true) N a b
    · have := dist_symm hg.ends hb ha h; omega
    · omega
  have HAB := Lib.hid (partsOf_both (ns := ns) ha hb)
  have HPR := Lib.hid (partsOf_rows N ns)
  obtain ⟨ao, cap, rfl, _⟩ := hg.pairs.open_
  have hB0 : Below w.heap.size w ((w.alloc (.cells #[.int .i64 (a : Int)] 3)).alloc (.cells #[.int .i64 (b : Int)] 3)) := (below_new w _).alloc (by simp) _
  have HCA : Hid (((w.alloc (.cells #[.int .i64 (a : Int)] 3)).alloc (.cells #[.int .i64 (b : Int)] 3)).cell? ⟨w.heap.size, 0, none⟩ = some (.int .i64 (a : Int))) := by
    exact (show ((w.alloc (.cells #[.int .i64 (a : Int)] 3)).alloc (.cells #[.int .i64 (b : Int)] 3)).cell? ⟨w.heap.size, 0, none⟩ = some (.int .i64 (a : Int)) by go_cell)
  have HCB : Hid (((w.alloc (.cells #[.int .i64 (a : Int)] 3)).alloc (.cells #[.int .i64 (b : Int)] 3)).cell? ⟨w.heap.size + 1, 0, none⟩ = some (.int .i64 (b : Int))) := by
    exact (show ((w.alloc (.cells #[.int .i64 (a : Int)] 3)).alloc (.cells #[.int .i64 (b : Int)] 3)).cell? ⟨w.heap.size + 1, 0, none⟩ = some (.int .i64 (b : Int)) by rw [World.cell?_alloc_at _ _ _ _ (by simp)]; rfl)
  clear hg hr h0
  go_enter Try.func5, Try.ntmps5
  go_wp2_with fail
  refine (awake_any _).mono ?_
  rintro e w1 ⟨rfl, hb1⟩
  have hB1 := bstep hB0 hb1
  go_wp2_with fail
  refine (right_any N _ (cst ns) _ (HG.out.below hB1).pairs hbl).mono ?_
  rw [HR.out]
  rintro e w2 ⟨rfl, hb2⟩
  have hB2 := bstep hB1 hb2
  have hb12 := bstep hb1 hb2
  have c1 := (hb12.cell (p := ⟨w.heap.size, 0, none⟩) (by simp; omega)).trans HCA.out
  have c2 := (hb12.cell (p := ⟨w.heap.size + 1, 0, none⟩) (by simp)).trans HCB.out
  go_wp2_with fail
  refine (path_ok N a b _ ns _ (HG.out.below hB2) ha hb).mono ?_
  rintro e w3 ⟨⟨h1, _⟩ | ⟨_, rfl⟩, hb3⟩
  · exact absurd h1 (by have := H0.out; omega)
  have hB3 := bstep hB2 hb3
  have hb13 := bstep hb12 hb3
  have c1 := (hb13.cell (p := ⟨w.heap.size, 0, none⟩) (by simp; omega)).trans HCA.out
  have c2 := (hb13.cell (p := ⟨w.heap.size + 1, 0, none⟩) (by simp)).trans HCB.out
  go_wp2_with fail
  refine (path_ok N b a _ ns _ (HG.out.below hB3) hb ha).mono ?_
  rintro e w4 ⟨⟨h1, _⟩ | ⟨_, rfl⟩, hb4⟩
  · exact absurd h1 (by have := H0'.out; omega)
  have hB4 := bstep hB3 hb4
  have hb14 := bstep hb13 hb4
  go_wp2_with fail
  refine (parts_ok N _ ns _ (HG.out.below hB4)).mono ?_
  rintro e w5 ⟨⟨V, rfl, hV⟩, hb5⟩
  have hB5 := bstep hB4 hb5
  have hb15 := bstep hb14 hb5
  have HV := Lib.hid hV.rows
  clear hV
  go_wp2_with fail
  refine (anyRows_any 25 #[.pointer (some ⟨w.heap.size, 0, none⟩), .pointer (some ⟨w.heap.size + 1, 0, none⟩)] (fun r => decide (a ∈ r) && decide (b ∈ r)) _ (partsOf N ns) w5 HV.out (by have := HPR.out.1; omega) (fun xs W => by rfl)
    (fun u r W hW hr hu => ?_)).mono ?_
  · have hbW := bstep hb15 hW
    exact joinClos a b _ _ u r W ((hbW.cell (p := ⟨w.heap.size, 0, none⟩) (by simp; omega)).trans HCA.out) ((hbW.cell (p := ⟨w.heap.size + 1, 0, none⟩) (by simp)).trans HCB.out) hu (by have := HPR.out.2 r hr; omega)
  rw [HAB.out, HL.out]
  rintro e w6 ⟨rfl, hb6⟩
  have hB6 := bstep hB5 hb6
  go_wp2
  go_ret
  exact ⟨rfl, hB6⟩
end Go.Proofs.Ytcaeemcobgopmaa
