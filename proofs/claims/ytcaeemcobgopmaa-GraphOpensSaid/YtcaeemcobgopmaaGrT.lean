/-
  Graph: Path.
-/
import Derived.Test.YtcaeemcobgopmaaGrF
import Derived.Test.YtcaeemcobgopmaaGrS
import Derived.Test.YtcaeemcobgopmaaGrD
namespace Go.Proofs.Ytcaeemcobgopmaa
open Go.RowKit
set_option linter.unusedVariables false

theorem pathNo_any (n a b : Int) (v : Value) (l : List (Int × Int)) (w : World) (hp : Pairs w v l) (hl : l.length ≤ 140737488355328) (hv : vld n l = false) :
    Calls Try.prog 12 #[.int .i64 n, v, .int .i64 a, .int .i64 b] w fun e w' => e = .returned (.tuple #[.slice none 0 0, .int .i64 1]) ∧ Below w.heap.size w w' := by
  have HV := Lib.hid hv
  clear hv
  go_enter Try.func12, Try.ntmps12
  go_wp2_with (first
    | (go_at_call 19; refine (valid_any n _ l _ hp hl).mono ?_; rw [HV.out]; rintro e w9 ⟨rfl, hb1⟩))
  go_ret2
  exact ⟨rfl, hb1⟩

def badNode (n a b : Int) : Bool := decide (a < 0) || decide (n ≤ a) || decide (b < 0) || decide (n ≤ b)

theorem pathRange_any (n a b : Int) (v : Value) (l : List (Int × Int)) (w : World) (hp : Pairs w v l) (hl : l.length ≤ 140737488355328) (hv : vld n l = true) (hr : badNode n a b = true) :
    Calls Try.prog 12 #[.int .i64 n, v, .int .i64 a, .int .i64 b] w fun e w' => e = .returned (.tuple #[.slice none 0 0, .int .i64 2]) ∧ Below w.heap.size w w' := by
  have HV := Lib.hid hv
  have HR : Hid (a < 0 ∨ n ≤ a ∨ b < 0 ∨ n ≤ b) := by
    unfold badNode at hr
    simp only [Bool.or_eq_true, decide_eq_true_eq] at hr
    exact Lib.hid (by omega)
  clear hv hr
  go_enter Try.func12, Try.ntmps12
  go_wp2_with (first
    | (go_at_call 19; refine (valid_any n _ l _ hp hl).mono ?_; rw [HV.out]; rintro e w9 ⟨rfl, hb1⟩))
  all_goals first
    | (go_ret2; exact ⟨rfl, hb1⟩)
    | (exfalso; have := HR.out; omega)


def PathRet (w : World) (ns : List (Nat × Nat)) (n a b : Nat) (e : Ending) (w' : World) : Prop :=
  ((0 ≤ distOf ns (fun _ => true) n b a ∧ ∃ u, e = .returned (.tuple #[u, .int .i64 0]) ∧ Own w' w.heap.size 3 natf u (wayTo ns (fun _ => true) n b a)) ∨
   (distOf ns (fun _ => true) n b a < 0 ∧ e = .returned (.tuple #[.slice none 0 0, .int .i64 12]))) ∧ Below w.heap.size w w'

theorem pathClos (k : Int) (W : World) : Calls Try.prog 43 #[.int .i64 k] W fun e w1 => e = .returned (.bool true) ∧ W = w1 := by
  go_enter Try.func43, Try.ntmps43
  go_wp2
  go_ret
  exact ⟨rfl, rfl⟩

theorem path_ok (n a b : Nat) (v : Value) (ns : List (Nat × Nat)) (w : World) (hg : Gr w n v ns) (ha : a < n) (hb : b < n) :
    Calls Try.prog 12 #[.int .i64 (n : Int), v, .int .i64 (a : Int), .int .i64 (b : Int)] w (PathRet w ns n a b) := by
  have hcl : (cst ns).length ≤ 140737488355328 := by rw [cst_len]; have := hg.m_le; omega
  have HO := Lib.hid hg.ok
  have hn := hg.n_le
  have hm := hg.m_le
  have HG := Lib.hid hg
  have hp := hg.pairs
  go_enter Try.func12, Try.ntmps12
  go_wp2_with fail
  refine (valid_any n _ (cst ns) _ hp hcl).mono ?_
  rw [HO.out]
  rintro e w1 ⟨rfl, hb1⟩
  go_wp2_with fail
  refine (beside_any 43 #[] (fun _ => true) n v ns w1 hn hm (hp.below hb1) HG.out.ends (fun xs W => by rfl) (fun k W _ _ => pathClos k W)).mono ?_
  rintro e w2 ⟨V, rfl, hM, hb2⟩
  go_wp2_with fail
  have hB2 := bstep hb1 hb2
  refine (way_any n v V ns _ (fun _ => true) a b w2 hn hm (hp.below hB2) hM.rows HG.out.ends (besTo_rowOk HG.out.ends hm) ha hb).mono ?_
  rintro e w3 ⟨⟨d, hd, hor⟩, hb3⟩
  have hB3 := bstep hB2 hb3
  obtain ⟨h1, h2⟩ := way_eq HG.out.ends ha hb hd
  rw [h2, h1] at hor
  have H1 := Lib.hid h1
  clear h1 h2 hd hM
  have hz := hB2.size
  rcases hor with ⟨h0, u, rfl, hu⟩ | ⟨h0, rfl⟩
  · obtain ⟨ao, cp, rfl⟩ := hu.shape
    have H0 := Lib.hid h0
    have HU := Lib.hid hu
    clear h0 hu
    go_wp2
    go_ret2
    exact ⟨.inl ⟨H0.out, _, rfl, HU.out.mono hz⟩, hB3⟩
  · have H0 := Lib.hid h0
    clear h0
    go_wp2
    go_ret2
    exact ⟨.inr ⟨H0.out, rfl⟩, hB3⟩
end Go.Proofs.Ytcaeemcobgopmaa
