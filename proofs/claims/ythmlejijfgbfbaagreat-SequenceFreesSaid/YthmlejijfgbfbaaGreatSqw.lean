/-
  package sequence: graph, Order, Loop, Check.
-/
import Derived.Test.YthmlejijfgbfbaaGreatSqm
import Derived.Test.YthmlejijfgbfbaaGreatKnl
namespace Go.Proofs.YthmlejijfgbfbaaGreat
section
open Go.RowKit
set_option linter.unusedVariables false
set_option linter.unusedSimpArgs false
attribute [local go_sem ↓] Go.wp_at_zero Go.wp_at_succ

/-- What the laid bars of the arguments are. -/
structure SqA (w : World) (v vr : Value) (l : List BarD) (rs : List RunD) : Prop where
  hp : Bars w v l
  hr : Runs w vr rs
  hl : l.length ≤ 140737488355328
  hlr : rs.length ≤ 140737488355328
  hf : FitB l
  h14 : laidOk l rs = true → (lgsOf l rs).length ≤ 14
theorem SqA.below {w W : World} {v vr : Value} {l : List BarD} {rs : List RunD} (h : SqA w v vr l rs) (hb : Below w.heap.size w W) : SqA W v vr l rs := ⟨h.hp.below hb, h.hr.below hb, h.hl, h.hlr, h.hf, h.h14⟩
theorem fewN {rs : List RunD} {l : List BarD} (h : laidOk l rs = true) (hq : (∀ r ∈ rs, 1 ≤ r.count ∧ r.count ≤ 2000) → rs.length ≤ 60 → sumC rs ≤ 14) : (lgsOf l rs).length ≤ 14 := by
  obtain ⟨s1, s2, s3, s4, s5⟩ := laid_sum h
  have := hq (fun r hr => by have := s3 r hr; omega) s2
  rw [lgsOf_len]
  omega
abbrev sqC (l : List BarD) (rs : List RunD) (X : List Int) : Int := allE (laidOk l rs) (lgsOf l rs).length X
abbrev sqEs (l : List BarD) (rs : List RunD) (X : List Int) : List (Nat × Nat) := edN (lgsOf l rs) (szsOf l rs) X (lgsOf l rs).length
theorem sqC_zero {l : List BarD} {rs : List RunD} {X : List Int} (h : sqC l rs X = 0) : laidOk l rs = true ∧ edgE (lgsOf l rs).length X = 0 := by
  unfold sqC allE at h
  cases hok : laidOk l rs with
  | false => rw [hok] at h; simp at h
  | true => rw [hok] at h; exact ⟨rfl, by simpa using h⟩
theorem prs_of {w : World} {v : Value} {l : List (Int × Int)} (h : Fl 2 prCells w v l) : Pairs w v l := by
  obtain ⟨ao, cap, rfl, h2⟩ := h
  refine ⟨ao, cap, rfl, fun hl => ?_⟩
  obtain ⟨b, off, rfl, hlt, hc⟩ := h2 hl
  exact ⟨b, off, rfl, hlt, fun k x hx => ⟨hc k x hx 0 _ rfl, hc k x hx 1 _ rfl⟩⟩
theorem dg_edges {w : World} {v : Value} {L : List (List Bx)} {Z : List Int} {X : List Int} {B : Nat} (h : OwnPr w B v (edgL L Z X L.length L.length)) (hn : L.length ≤ 14) : Dg w L.length v (edN L Z X L.length) := by
  have h1 : Pairs w v (edgL L Z X L.length L.length) := prs_of (OwnN.fl (fun _ => rfl) h)
  refine ⟨?_, by omega, ?_, edN_ends _ _ _ _⟩
  · unfold NPairs
    rw [edN_cst]
    exact h1
  · have h2 := edN_len L Z X L.length
    have : L.length * L.length ≤ 14 * 14 := Nat.mul_le_mul hn hn
    omega
theorem graph_bad (v vr xv : Value) (X : List Int) (l : List BarD) (rs : List RunD) (w : World) (hA : SqA w v vr l rs) (hx : Ints w xv X) (hlx : X.length ≤ 140737488355328) (c : Int) (hc : sqC l rs X = c) (h0 : c ≠ 0) :
    Calls Tryz.prog 56 #[v, vr, xv] w fun e w' => e = .returned (.tuple #[.int .i64 0, .slice none 0 0, .int .i64 c]) ∧ Below w.heap.size w w' := by
  have HE : Hid (Calls Tryz.prog 34 #[v, vr, xv] w fun e w' => e = .returned (.tuple #[.slice none 0 0, .int .i64 c]) ∧ Below w.heap.size w w') := by
    unfold Hid
    cases hok : laidOk l rs with
    | false =>
      unfold sqC allE at hc
      rw [hok] at hc
      obtain rfl : c = 1 := by simpa using hc.symm
      refine (edgesI_bad v vr xv l rs w hA.hp hA.hr hA.hl hA.hlr hA.hf hok).mono ?_
      rintro e w' ⟨o, rfl, _, h2, h3⟩
      rw [h2 h0]
      exact ⟨rfl, h3⟩
    | true =>
      unfold sqC allE at hc
      rw [hok] at hc
      obtain rfl : edgE (lgsOf l rs).length X = c := by simpa using hc
      refine (edgesI_good v vr xv X l rs w hA.hp hA.hr hx hA.hl hA.hlr hlx hA.hf hok).mono ?_
      rintro e w' ⟨o, rfl, _, h2, h3⟩
      rw [h2 h0]
      exact ⟨rfl, h3⟩
  have hb : (c != 0) = true := bne_yes h0
  clear hA hx hc
  go_enter Tryz.func56, Tryz.ntmps56
  go_wp2_with fail
  refine HE.out.mono ?_
  rintro e w1 ⟨rfl, hb1⟩
  have HB1 := Lib.hid hb1
  clear hb1 HE
  go_wp2
  refine bodyPost_ret (v := .tuple #[.int .i64 0, .slice none 0 0, .int .i64 c]) (by simp [results, Tryz.results56, go_sem]) rfl ⟨rfl, HB1.out⟩
theorem graph_good (v vr xv : Value) (X : List Int) (l : List BarD) (rs : List RunD) (w : World) (hA : SqA w v vr l rs) (hx : Ints w xv X) (hlx : X.length ≤ 140737488355328) (hc : sqC l rs X = 0) :
    Calls Tryz.prog 56 #[v, vr, xv] w fun e w' => ∃ o, e = .returned (.tuple #[.int .i64 ((lgsOf l rs).length : Int), o, .int .i64 0]) ∧ Dg w' (lgsOf l rs).length o (sqEs l rs X) ∧ Below w.heap.size w w' := by
  obtain ⟨hok, he⟩ := sqC_zero hc
  have h14 := hA.h14 hok
  have HE := Lib.hid (edgesI_good v vr xv X l rs w hA.hp hA.hr hx hA.hl hA.hlr hlx hA.hf hok)
  rw [he] at HE
  have HC := Lib.hid (fun W (hW : Below w.heap.size w W) => count_good v vr l rs W (hA.hp.below hW) (hA.hr.below hW) hA.hl hA.hlr hA.hf hok)
  have hcn : (cumN rs : Int) = ((lgsOf l rs).length : Int) := by rw [lgsOf_len]
  rw [hcn] at HC
  have hEl : (edgL (lgsOf l rs) (szsOf l rs) X (lgsOf l rs).length (lgsOf l rs).length).length ≤ 196 := Nat.le_trans (edgL_len _ _ _ _ _) (Nat.mul_le_mul h14 h14)
  have HD := Lib.hid (fun W B o (h : OwnPr W B o (edgL (lgsOf l rs) (szsOf l rs) X (lgsOf l rs).length (lgsOf l rs).length)) => dg_edges h h14)
  unfold sqEs
  generalize edN (lgsOf l rs) (szsOf l rs) X (lgsOf l rs).length = es at *
  generalize edgL (lgsOf l rs) (szsOf l rs) X (lgsOf l rs).length (lgsOf l rs).length = E at *
  generalize (lgsOf l rs).length = n at *
  have k1 : decide ((1000 : Int) < (E.length : Int)) = false := dec_no (by omega)
  have k2 : decide (1000 < E.length) = false := dec_no (by omega)
  clear hA hx hc hok he hcn
  go_enter Tryz.func56, Tryz.ntmps56
  go_wp2_with fail
  refine HE.out.mono ?_
  rintro e w1 ⟨o, rfl, h1, _, hb1⟩
  have HO := Lib.hid (h1 rfl)
  have HB1 := Lib.hid hb1
  obtain ⟨ao, cap, rfl⟩ := (h1 rfl).shape
  have HG := Lib.hid (HD.out _ _ _ HO.out)
  clear hb1 HE h1 HO HD
  generalize E.length = m at *
  go_wp2_with fail
  refine (HC.out _ HB1.out).mono ?_
  rintro e w2 ⟨rfl, hb2⟩
  have HB2 := Lib.hid (bstep HB1.out hb2)
  have HG2 := Lib.hid (HG.out.below hb2)
  clear hb2 HB1 HG
  go_wp2
  exact bodyPost_ret (v := .tuple #[.int .i64 (n : Int), .slice ao m cap, .int .i64 0]) (by simp [results, Tryz.results56, go_sem]) rfl ⟨_, rfl, HG2.out, HB2.out⟩

/-! ### Order, Loop, Check -/
def sqOrd (c : Int) (n : Nat) (es : List (Nat × Nat)) : Int × List Nat := if c = 0 then (match orderOf n es with | some D => (0, D) | none => (23, [])) else (c, [])
noncomputable def sqLop (c : Int) (n : Nat) (es : List (Nat × Nat)) : Int × List Nat := if c = 0 then (match loopOf n es with | some D => (0, D) | none => (12, [])) else (c, [])
def sqLay (c : Int) (n : Nat) (es : List (Nat × Nat)) : Int × List Int := if c = 0 then (match orderOf n es with | some D => (0, layT n es D D.length) | none => (23, [])) else (c, [])
def sqChk (c : Int) (n : Nat) (es : List (Nat × Nat)) (q : List Int) : Bool × Int := if c = 0 then chkRes n es q else (false, c)
def sqFst (c : Int) (n : Nat) (es : List (Nat × Nat)) (q : List Int) : Int × Int × Int := if c = 0 then fstR n es q else (0, 0, c)
def LPost (w : World) (R : Int × List Nat) (e : Ending) (w' : World) : Prop := ∃ o, e = .returned (.tuple #[o, .int .i64 R.1]) ∧ Own w' w.heap.size 3 natf o R.2 ∧ Below w.heap.size w w'
def LPostI (w : World) (R : Int × List Int) (e : Ending) (w' : World) : Prop := ∃ o, e = .returned (.tuple #[o, .int .i64 R.1]) ∧ Own w' w.heap.size 3 intf o R.2 ∧ Below w.heap.size w w'
theorem lpost_nil {w w' : World} {c : Int} {R : Int × List Nat} (h : R = (c, [])) (hb : Below w.heap.size w w') : LPost w R (.returned (.tuple #[.slice none 0 0, .int .i64 c])) w' := by
  subst h
  exact ⟨_, rfl, Own.nil _ _ _ _, hb⟩
theorem lpostI_nil {w w' : World} {c : Int} {R : Int × List Int} (h : R = (c, [])) (hb : Below w.heap.size w w') : LPostI w R (.returned (.tuple #[.slice none 0 0, .int .i64 c])) w' := by
  subst h
  exact ⟨_, rfl, Own.nil _ _ _ _, hb⟩
theorem own_mono {α : Type} {w : World} {base base' : Nat} {e : TypeId} {f : α → Value} {v : Value} {l : List α} (h : Own w base e f v l) (hb : base' ≤ base) : Own w base' e f v l := h.mono hb
theorem top_lpost {w W w' : World} {n : Nat} {es : List (Nat × Nat)} {e : Ending} (h : TopPost W n es e w') (hb : Below w.heap.size w W) : LPost w (sqOrd 0 n es) e w' := by
  obtain ⟨h1, h2⟩ := h
  unfold sqOrd
  rw [if_pos rfl]
  cases ho : orderOf n es with
  | none =>
    rw [ho] at h1
    subst h1
    exact ⟨_, rfl, Own.nil _ _ _ _, bstep hb h2⟩
  | some D =>
    rw [ho] at h1
    obtain ⟨v, rfl, hv⟩ := h1
    exact ⟨v, rfl, own_mono hv hb.size, bstep hb h2⟩
theorem loop_lpost {w W w' : World} {n : Nat} {es : List (Nat × Nat)} {e : Ending} (h : LoopPost W n es e w') (hb : Below w.heap.size w W) : LPost w (sqLop 0 n es) e w' := by
  obtain ⟨h1, h2⟩ := h
  unfold sqLop
  rw [if_pos rfl]
  cases ho : loopOf n es with
  | none =>
    rw [ho] at h1
    subst h1
    exact ⟨_, rfl, Own.nil _ _ _ _, bstep hb h2⟩
  | some D =>
    rw [ho] at h1
    obtain ⟨v, rfl, hv⟩ := h1
    exact ⟨v, rfl, own_mono hv hb.size, bstep hb h2⟩
theorem sorder_any (v vr xv : Value) (X : List Int) (l : List BarD) (rs : List RunD) (w : World) (hA : SqA w v vr l rs) (hx : Ints w xv X) (hlx : X.length ≤ 140737488355328) :
    Calls Tryz.prog 18 #[v, vr, xv] w (LPost w (sqOrd (sqC l rs X) (lgsOf l rs).length (sqEs l rs X))) := by
  by_cases hc : sqC l rs X = 0
  · have HG := Lib.hid (graph_good v vr xv X l rs w hA hx hlx hc)
    rw [hc]
    generalize sqEs l rs X = es at *
    generalize (lgsOf l rs).length = n at *
    clear hA hx hc
    go_enter Tryz.func18, Tryz.ntmps18
    go_wp2_with fail
    refine HG.out.mono ?_
    rintro e w1 ⟨o, rfl, hd, hb1⟩
    have HB1 := Lib.hid hb1
    have HO := Lib.hid (ordTop_ok n o es w1 hd)
    clear hb1 hd HG
    go_wp2_with fail
    refine HO.out.mono ?_
    intro e w2 h2
    obtain ⟨u, rfl, h3, h4⟩ := top_lpost h2 HB1.out
    have H3 := Lib.hid h3
    have H4 := Lib.hid h4
    clear h2 h3 h4
    go_wp2
    go_ret2
    exact ⟨u, rfl, H3.out, H4.out⟩
  · have HG := Lib.hid (graph_bad v vr xv X l rs w hA hx hlx _ rfl hc)
    have HR : Hid (sqOrd (sqC l rs X) (lgsOf l rs).length (sqEs l rs X) = (sqC l rs X, [])) := if_neg hc
    generalize sqOrd (sqC l rs X) (lgsOf l rs).length (sqEs l rs X) = R at *
    generalize sqC l rs X = c at *
    have hb : (c != 0) = true := bne_yes hc
    clear hA hx hc
    go_enter Tryz.func18, Tryz.ntmps18
    go_wp2_with fail
    refine HG.out.mono ?_
    rintro e w1 ⟨rfl, hb1⟩
    have HB1 := Lib.hid hb1
    clear hb1 HG
    go_wp2
    go_ret2
    exact lpost_nil HR.out HB1.out
theorem sloop_any (v vr xv : Value) (X : List Int) (l : List BarD) (rs : List RunD) (w : World) (hA : SqA w v vr l rs) (hx : Ints w xv X) (hlx : X.length ≤ 140737488355328) :
    Calls Tryz.prog 19 #[v, vr, xv] w (LPost w (sqLop (sqC l rs X) (lgsOf l rs).length (sqEs l rs X))) := by
  by_cases hc : sqC l rs X = 0
  · have HG := Lib.hid (graph_good v vr xv X l rs w hA hx hlx hc)
    rw [hc]
    generalize sqEs l rs X = es at *
    generalize (lgsOf l rs).length = n at *
    clear hA hx hc
    go_enter Tryz.func19, Tryz.ntmps19
    go_wp2_with fail
    refine HG.out.mono ?_
    rintro e w1 ⟨o, rfl, hd, hb1⟩
    have HB1 := Lib.hid hb1
    have HO := Lib.hid (loop_any n o es w1 hd)
    clear hb1 hd HG
    go_wp2_with fail
    refine HO.out.mono ?_
    intro e w2 h2
    obtain ⟨u, rfl, h3, h4⟩ := loop_lpost h2 HB1.out
    have H3 := Lib.hid h3
    have H4 := Lib.hid h4
    clear h2 h3 h4
    go_wp2
    go_ret2
    exact ⟨u, rfl, H3.out, H4.out⟩
  · have HG := Lib.hid (graph_bad v vr xv X l rs w hA hx hlx _ rfl hc)
    have HR : Hid (sqLop (sqC l rs X) (lgsOf l rs).length (sqEs l rs X) = (sqC l rs X, [])) := if_neg hc
    generalize sqLop (sqC l rs X) (lgsOf l rs).length (sqEs l rs X) = R at *
    generalize sqC l rs X = c at *
    have hb : (c != 0) = true := bne_yes hc
    clear hA hx hc
    go_enter Tryz.func19, Tryz.ntmps19
    go_wp2_with fail
    refine HG.out.mono ?_
    rintro e w1 ⟨rfl, hb1⟩
    have HB1 := Lib.hid hb1
    clear hb1 HG
    go_wp2
    go_ret2
    exact lpost_nil HR.out HB1.out
theorem scheck_any (v vr xv qv : Value) (X q : List Int) (l : List BarD) (rs : List RunD) (w : World) (hA : SqA w v vr l rs) (hx : Ints w xv X) (hlx : X.length ≤ 140737488355328) (hq : Ints w qv q) (hlq : q.length ≤ 140737488355328) :
    Calls Tryz.prog 25 #[v, vr, xv, qv] w fun e w' => e = .returned (.tuple #[.bool (sqChk (sqC l rs X) (lgsOf l rs).length (sqEs l rs X) q).1, .int .i64 (sqChk (sqC l rs X) (lgsOf l rs).length (sqEs l rs X) q).2]) ∧ Below w.heap.size w w' := by
  by_cases hc : sqC l rs X = 0
  · have HG := Lib.hid (graph_good v vr xv X l rs w hA hx hlx hc)
    have HR : Hid (sqChk 0 (lgsOf l rs).length (sqEs l rs X) q = chkRes (lgsOf l rs).length (sqEs l rs X) q) := if_pos rfl
    rw [hc, HR.out]
    have HQ := Lib.hid hq
    generalize sqEs l rs X = es at *
    generalize (lgsOf l rs).length = n at *
    clear hA hx hc hq
    have HCK := Lib.hid (fun o W (hd : Dg W n o es) (hW : Below w.heap.size w W) => check_any n o qv es q W hd (Sl.below HQ.out hW) hlq)
    obtain ⟨b, c, hbc⟩ : ∃ b c, chkRes n es q = (b, c) := ⟨_, _, rfl⟩
    unfold CheckPost at HCK
    rw [hbc] at HCK ⊢
    clear hbc HR
    go_enter Tryz.func25, Tryz.ntmps25
    go_wp2_with fail
    refine HG.out.mono ?_
    rintro e w1 ⟨o, rfl, hd, hb1⟩
    have HB1 := Lib.hid hb1
    have HO := Lib.hid (HCK.out o w1 hd hb1)
    clear hb1 hd HG HCK
    go_wp2_with fail
    refine HO.out.mono ?_
    rintro e w2 ⟨rfl, hb2⟩
    have HB2 := Lib.hid (bstep HB1.out hb2)
    clear hb2
    go_wp2
    go_ret2
    exact ⟨rfl, HB2.out⟩
  · have HG := Lib.hid (graph_bad v vr xv X l rs w hA hx hlx _ rfl hc)
    have HR : Hid (sqChk (sqC l rs X) (lgsOf l rs).length (sqEs l rs X) q = (false, sqC l rs X)) := if_neg hc
    rw [HR.out]
    generalize sqC l rs X = c at *
    have hb : (c != 0) = true := bne_yes hc
    clear hA hx hc HR
    go_enter Tryz.func25, Tryz.ntmps25
    go_wp2_with fail
    refine HG.out.mono ?_
    rintro e w1 ⟨rfl, hb1⟩
    have HB1 := Lib.hid hb1
    clear hb1 HG
    go_wp2
    go_ret2
    exact ⟨rfl, HB1.out⟩
end
end Go.Proofs.YthmlejijfgbfbaaGreat
