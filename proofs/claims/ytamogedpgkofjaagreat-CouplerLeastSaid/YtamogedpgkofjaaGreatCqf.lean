/-
  Couplers: Needed.
-/
import Derived.Test.YtamogedpgkofjaaGreatCqd
import Derived.Test.YtamogedpgkofjaaGreatCqc
import Derived.Laws.EntriesVeiled
namespace Go.Proofs.YtamogedpgkofjaaGreat
section
open Go.RowKit
set_option linter.unusedVariables false
set_option linter.unusedSimpArgs false
attribute [local go_sem ↓] Go.wp_at_zero Go.wp_at_succ

def ndF (c : Int) (n : Nat) (es : List (Nat × Nat)) : Int × List Nat := if c = 0 then (if 12 < n then (6, []) else (0, needC n es)) else (c, [])
set_option maxRecDepth 100000 in
set_option maxHeartbeats 8000000 in
theorem cneeded_any (v vr xv : Value) (X : List Int) (l : List BarD) (rs : List RunD) (w : World) (hC : Cg w v vr xv X l rs) :
    Calls Tryz.prog 12 #[v, vr, xv] w (LPost w (ndF (sqC l rs X) (lgsOf l rs).length (sqEs l rs X))) := by
  by_cases hc : sqC l rs X = 0
  · have HB := Lib.hid (cbegin_good v vr xv X l rs w hC.hA hC.hx hC.hlx hc)
    have hn14 : (lgsOf l rs).length ≤ 14 := hC.hA.h14 (sqC_zero hc).1
    rw [hc]
    generalize sqEs l rs X = es at *
    generalize (lgsOf l rs).length = n at *
    clear hC hc
    by_cases h12 : 12 < n
    · have HR : Hid (ndF 0 n es = (6, [])) := by unfold Hid ndF; rw [if_pos rfl, if_pos h12]
      have d1 : decide ((12 : Int) < (n : Int)) = true := dec_yes (by omega)
      go_enter Tryz.func12, Tryz.ntmps12
      go_wp2_with fail
      refine HB.out.mono ?_
      rintro e w1 ⟨o, rfl, hd, hb1⟩
      obtain ⟨eo, ec, rfl, hop⟩ := hd.pairs.open_
      have HB1 := Lib.hid hb1
      clear hb1 hd HB hop
      generalize es.length = em at *
      go_wp2
      go_ret2
      exact lpost_nil HR.out (bstep HB1.out (below_new _ _))
    · have HR : Hid (ndF 0 n es = (0, needC n es)) := by unfold Hid ndF; rw [if_pos rfl, if_neg h12]
      rw [HR.out]
      clear HR
      have d1 : decide ((12 : Int) < (n : Int)) = false := dec_no (by omega)
      go_enter Tryz.func12, Tryz.ntmps12
      go_wp2_with fail
      refine HB.out.mono ?_
      rintro e w1 ⟨o, rfl, hd, hb1⟩
      have HB1 := Lib.hid hb1
      obtain ⟨eo, ec, rfl, hop⟩ := hd.pairs.open_
      have HD1 := Lib.hid hd
      clear hb1 hd HB hop
      generalize hem : es.length = em at *
      clear hem
      have q1 : IntKind.i64.wrap ((n : Int) + 1) = (n : Int) + 1 := IntWalk.i64_in _ (by omega)
      obtain ⟨G, hG⟩ : ∃ G, w1.heap.size = G := ⟨_, rfl⟩
      have hwG : w.heap.size ≤ G := by have := HB1.out.size; omega
      go_wp2_with fail
      obtain ⟨W5, hW5⟩ : ∃ W5, ((w1.alloc (.cells #[.int .i64 (n : Int), .slice eo em ec] 75)).alloc (.cells #[.slice none 0 0] 24)).alloc (.cells #[.func (.func 40) #[] #[.pointer (some ⟨G, 0, none⟩), .pointer (some ⟨G + 1, 0, none⟩), .pointer (some ⟨G + 1 + 1, 0, none⟩)]] 78) = W5 := ⟨_, rfl⟩
      have HN5 : Hid (NdB w1 G n es (.slice eo em ec) (chFn G) W5) := by
        rw [← hW5, ← hG]
        refine ⟨rfl, HD1.out, ?_, ((BlkIs.new w1 _ _).alloc _).alloc _, ?_, ?_, by simp⟩
        · exact ((below_new w1 _).alloc (by simp) _).alloc (by simp; omega) _
        · have := (BlkIs.new (w1.alloc (.cells #[.int .i64 (n : Int), .slice eo em ec] 75)) #[.slice none 0 0] 24)
          rw [World.size_alloc] at this
          exact this.alloc _
        · have := (BlkIs.new ((w1.alloc (.cells #[.int .i64 (n : Int), .slice eo em ec] 75)).alloc (.cells #[.slice none 0 0] 24)) #[chFn w1.heap.size] 78)
          rw [World.size_alloc, World.size_alloc] at this
          exact this
      rw [hW5]
      clear hW5
      have HCH := Lib.hid (fun (k : Nat) W (hW : NdB w1 G n es (.slice eo em ec) (chFn G) W) (hk : k ≤ n) => choose_any w1 G n es (.slice eo em ec) (chFn G) rfl (by omega) k [] (.slice none 0 0) 0 W hW (Own.nil _ _ _ _) (by simp; omega) (by omega))
      go_loopw [30] (fun i wr => ∃ k : Nat, k ≤ n + 1 ∧ i = .int .i64 (k : Int) ∧ Hid ((∀ j, j < k → chooseC n es j [] 0 = none) ∧ NdB w1 G n es (.slice eo em ec) (chFn G) wr)) (fun i _ => n + 1 - (intOf i).toNat)
      case atStart => exact ⟨0, Nat.zero_le _, rfl, fun j hj => absurd hj (by omega), HN5.out⟩
      case round =>
        clear HN5
        obtain ⟨k, hk, rfl, HI⟩ := hrel
        have hkn : k ≤ n := by
          rcases Nat.lt_or_eq_of_le hk with h1 | h1
          · omega
          · exact absurd (HI.out.1 n (by omega)) (choose_last n es)
        have d2 : decide ((k : Int) < (n : Int) + 1) = true := dec_yes (by omega)
        have c0 := HI.out.2.cb.cell 0
        have l0 := HI.out.2.cb.lt
        have HC := Lib.hid (HCH.out k wr HI.out.2 hkn)
        clear HCH
        unfold chFn at c0
        go_wp2_with fail
        refine HC.out.mono ?_
        rintro e w9 ⟨u, rfl, (⟨hr, rfl, hg, _⟩ | ⟨r, hr, rfl, ov, ho, hw, hb, _⟩)⟩
        · have HI9 := Lib.hid (HI.out.2.grown hg (fun g e => by cases e))
          have HR := Lib.hid hr
          clear hr hg HC c0 l0
          go_wp2
          go_roundw
          case rel =>
            refine ⟨k + 1, by omega, by go_num, fun j hj => ?_, HI9.out⟩
            rcases Nat.lt_or_eq_of_le (show j ≤ k by omega) with h1 | h1
            · exact HI.out.1 j h1
            · rw [h1]; exact HR.out
          case measure => simp [intOf]; omega
        · have HR := Lib.hid (need_at hkn HI.out.1 hr)
          have HO := Lib.hid hw
          have HB9 := Lib.hid (bstep HB1.out (by rw [hG]; exact hb) : Below w.heap.size w w9)
          obtain ⟨ro, rc, rfl⟩ := hw.shape
          have k0 := ho.cell 0
          have k1 := ho.lt
          clear hr ho hw hb HC c0 l0
          go_wp2
          go_ret2
          have HF : LPost w (0, needC n es) (.returned (.tuple #[.slice ro r.length rc, .int .i64 0])) w9 := by
            rw [HR.out]
            exact ⟨_, rfl, HO.out.mono (by omega), HB9.out⟩
          exact HF
  · have HB := Lib.hid (cbegin_bad v vr xv X l rs w hC.hA hC.hx hC.hlx _ rfl hc)
    have HR : Hid (ndF (sqC l rs X) (lgsOf l rs).length (sqEs l rs X) = (sqC l rs X, [])) := if_neg hc
    generalize sqC l rs X = c at *
    have hb : (c != 0) = true := bne_yes hc
    clear hC hc
    go_enter Tryz.func12, Tryz.ntmps12
    go_wp2_with fail
    refine HB.out.mono ?_
    rintro e w1 ⟨rfl, hb1⟩
    have HB1 := Lib.hid hb1
    clear hb1 HB
    go_wp2
    go_ret2
    exact lpost_nil HR.out (bstep HB1.out (below_new _ _))
end
end Go.Proofs.YtamogedpgkofjaaGreat
