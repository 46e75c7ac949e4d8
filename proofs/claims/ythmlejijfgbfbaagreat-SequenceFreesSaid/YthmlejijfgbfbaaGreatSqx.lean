/-
  package sequence: First, Layers (printed by wip/gen_Sqx.py).
-/
import Derived.Test.YthmlejijfgbfbaaGreatSqw
import Derived.Test.YthmlejijfgbfbaaGreatOpc
namespace Go.Proofs.YthmlejijfgbfbaaGreat
section
open Go.RowKit
set_option linter.unusedVariables false
set_option linter.unusedSimpArgs false
attribute [local go_sem ↓] Go.wp_at_zero Go.wp_at_succ

theorem mem_cst {es : List (Nat × Nat)} {x y : Nat} : ((x : Int), (y : Int)) ∈ cst es ↔ (x, y) ∈ es := by
  unfold cst
  rw [List.mem_map]
  constructor
  · rintro ⟨e, he, h⟩
    obtain ⟨a, b⟩ := e
    simp only [Prod.mk.injEq] at h
    obtain ⟨h1, h2⟩ := h
    have : a = x := by omega
    have : b = y := by omega
    subst_vars
    exact he
  · intro h
    exact ⟨(x, y), h, rfl⟩
theorem pairIn_nat (es : List (Nat × Nat)) (x y : Nat) : pairIn (cst es) (x : Int) (y : Int) = decide ((x, y) ∈ es) := by
  unfold pairIn
  exact decide_eq_decide.2 mem_cst
theorem natL_get {q : List Int} (h : ∀ x ∈ q, 0 ≤ x) {k : Nat} (hk : k < q.length) : q[k]? = some (((q.map Int.toNat).getD k 0 : Nat) : Int) := by
  rw [List.getElem?_eq_getElem hk, List.getD_eq_getElem?_getD, List.getElem?_map, List.getElem?_eq_getElem hk]
  simp only [Option.map_some, Option.getD_some]
  have := h q[k] (List.getElem_mem hk)
  congr 1
  omega
theorem layS_bd {v : Nat} {A : List Int} {e : Nat × Nat} {c : Int} (h : ∀ x, 0 ≤ A.getD x 0 ∧ A.getD x 0 ≤ c) : ∀ x, 0 ≤ (layS v A e).getD x 0 ∧ (layS v A e).getD x 0 ≤ c + 1 := by
  intro x
  unfold layS
  split
  · by_cases hv : v < A.length
    · rw [List.getD_eq_getElem?_getD, List.getElem?_set]
      by_cases hx : v = x
      · subst hx
        rw [if_pos rfl, if_pos hv]
        simp only [Option.getD_some]
        have h1 := h v
        have h2 := h e.1
        unfold mx
        split <;> omega
      · rw [if_neg hx, ← List.getD_eq_getElem?_getD]
        have := h x
        omega
    · rw [List.set_eq_of_length_le (by omega)]
      have := h x
      omega
  · have := h x
    omega
theorem layR_bd {es : List (Nat × Nat)} {v : Nat} {A : List Int} {c : Int} (h : ∀ x, 0 ≤ A.getD x 0 ∧ A.getD x 0 ≤ c) : ∀ m, m ≤ es.length → ∀ x, 0 ≤ (layR es v A m).getD x 0 ∧ (layR es v A m).getD x 0 ≤ c + m
  | 0, _, x => by have := h x; show 0 ≤ A.getD x 0 ∧ A.getD x 0 ≤ c + ((0 : Nat) : Int); omega
  | m + 1, hm, x => by
    obtain ⟨e, he⟩ : ∃ e, es[m]? = some e := ⟨_, List.getElem?_eq_getElem (by omega)⟩
    rw [layR_succ he]
    have := layS_bd (v := v) (e := e) (layR_bd (es := es) (v := v) h m (by omega)) x
    omega
theorem layT_bd {n : Nat} {es : List (Nat × Nat)} {D : List Nat} : ∀ k, k ≤ D.length → ∀ x, 0 ≤ (layT n es D k).getD x 0 ∧ (layT n es D k).getD x 0 ≤ ((k * es.length : Nat) : Int)
  | 0, _, x => by
    have : (layT n es D 0).getD x 0 = 0 := by
      show (List.replicate n (0 : Int)).getD x 0 = 0
      rw [List.getD_eq_getElem?_getD, List.getElem?_replicate]
      split <;> rfl
    rw [this]
    exact ⟨Int.le_refl _, by omega⟩
  | k + 1, hk, x => by
    obtain ⟨v, hv⟩ : ∃ v, D[k]? = some v := ⟨_, List.getElem?_eq_getElem (by omega)⟩
    rw [layT_succ hv]
    have := layR_bd (es := es) (v := v) (layT_bd (n := n) (es := es) (D := D) k (by omega)) es.length (Nat.le_refl _) x
    rw [Nat.succ_mul]
    omega
theorem mx_max (a b : Int) : mx a b = max a b := by unfold mx; split <;> omega
theorem layS_yes {v : Nat} {A : List Int} {e : Nat × Nat} {y z : Int} (h : e.2 = v) (hy : A[v]? = some y) (hz : A[e.1]? = some z) : layS v A e = A.set v (max y (z + 1)) := by
  rw [← mx_max]
  unfold layS
  rw [if_pos h, List.getD_eq_getElem?_getD, hy, List.getD_eq_getElem?_getD, hz]
  rfl
theorem layS_no {v : Nat} {A : List Int} {e : Nat × Nat} (h : ¬ e.2 = v) : layS v A e = A := if_neg h
theorem getD_at {A : List Int} {k : Nat} {y : Int} (h : A[k]? = some y) : A.getD k 0 = y := by rw [List.getD_eq_getElem?_getD, h]; rfl

theorem capsLe {ao : Option Addr} {n cap : Nat} (h : Caps (.slice ao n cap)) : n ≤ cap := by
  rcases h with h | ⟨a, len, c, h, hle⟩
  · cases h; omega
  · cases h; exact hle

/-! ### First -/
theorem fst_no {es : List (Nat × Nat)} {q : List Int} {n : Nat} (h : ∀ a b, b < a → a < n → ((q.map Int.toNat).getD a 0, (q.map Int.toNat).getD b 0) ∉ es) : fstV es q n = (0, 0, 12) := by
  unfold fstV
  rw [(fstE_none n).2 h]
theorem fst_yes {es : List (Nat × Nat)} {q : List Int} {n i k : Nat} (h0 : ∀ a b, b < a → a < i → ((q.map Int.toNat).getD a 0, (q.map Int.toNat).getD b 0) ∉ es) (h1 : ∀ b, b < k → ((q.map Int.toNat).getD i 0, (q.map Int.toNat).getD b 0) ∉ es) (hk : k < i) (hi : i < n)
    (h : ((q.map Int.toNat).getD i 0, (q.map Int.toNat).getD k 0) ∈ es) : fstV es q n = ((((q.map Int.toNat).getD i 0 : Nat) : Int), (((q.map Int.toNat).getD k 0 : Nat) : Int), 0) := by
  unfold fstV
  rw [fstE_hit h0 h1 hk h n hi]
theorem fst_fn {es : List (Nat × Nat)} {q : List Int} {n : Nat} {f : Nat → Nat} (hf : ∀ k, (q.map Int.toNat).getD k 0 = f k) :
    ((∀ a b, b < a → a < n → (f a, f b) ∉ es) → fstV es q n = (0, 0, 12)) ∧ ∀ i k, (∀ a b, b < a → a < i → (f a, f b) ∉ es) → (∀ b, b < k → (f i, f b) ∉ es) → k < i → i < n → (f i, f k) ∈ es → fstV es q n = ((f i : Int), (f k : Int), 0) := by
  constructor
  · intro h
    exact fst_no (fun a b h1 h2 => by rw [hf, hf]; exact h a b h1 h2)
  · intro i k h0 h1 hk hi h
    rw [← hf i, ← hf k]
    exact fst_yes (fun a b h1 h2 => by rw [hf, hf]; exact h0 a b h1 h2) (fun b hb => by rw [hf, hf]; exact h1 b hb) hk hi (by rw [hf, hf]; exact h)
abbrev trip (R : Int × Int × Int) : Value := .tuple #[.int .i64 R.1, .int .i64 R.2.1, .int .i64 R.2.2]
set_option maxRecDepth 100000 in
set_option maxHeartbeats 8000000 in
theorem sfirst_any (v vr xv qv : Value) (X q : List Int) (l : List BarD) (rs : List RunD) (w : World) (hA : SqA w v vr l rs) (hx : Ints w xv X) (hlx : X.length ≤ 140737488355328) (hq : Ints w qv q) (hlq : q.length ≤ 140737488355328) (hcp : Caps qv) :
    Calls Tryz.prog 26 #[v, vr, xv, qv] w fun e w' => e = .returned (trip (sqFst (sqC l rs X) (lgsOf l rs).length (sqEs l rs X) q)) ∧ Below w.heap.size w w' := by
  by_cases hc : sqC l rs X = 0
  · have HG := Lib.hid (graph_good v vr xv X l rs w hA hx hlx hc)
    have HR : Hid (sqFst 0 (lgsOf l rs).length (sqEs l rs X) q = fstR (lgsOf l rs).length (sqEs l rs X) q) := if_pos rfl
    rw [hc, HR.out]
    have HQ := Lib.hid hq
    have hn14 := hA.h14 (sqC_zero hc).1
    generalize sqEs l rs X = es at *
    generalize (lgsOf l rs).length = n at *
    clear hA hx hc HR
    obtain ⟨qo, qc, rfl⟩ := Sl.at_ hq
    have HCK := Lib.hid (fun o W (hd : Dg W n o es) (hW : Below w.heap.size w W) => check_any n o (.slice qo q.length qc) es q W hd (Sl.below HQ.out hW) hlq)
    obtain ⟨b, c, hbc⟩ : ∃ b c, chkRes n es q = (b, c) := ⟨_, _, rfl⟩
    have hcn : c = nodesRes n q := by rw [← chk_nodes n es q, hbc]
    unfold CheckPost at HCK
    rw [hbc] at HCK
    clear hbc hq
    by_cases h0 : c = 0
    · subst h0
      obtain ⟨l1, l2, l3⟩ := nodes_zero hcn.symm
      have HR : Hid (fstR n es q = fstV es q n) := if_pos hcn.symm
      rw [HR.out]
      have HNN := Lib.hid (fun x hx => (bad_none l2 x hx).1 : ∀ x ∈ q, 0 ≤ x)
      have HNQ := Lib.hid l1
      obtain ⟨f, hf⟩ : ∃ f : Nat → Nat, ∀ k, (q.map Int.toNat).getD k 0 = f k := ⟨_, fun _ => rfl⟩
      have HQF : Hid (∀ k, k < q.length → q[k]? = some ((f k : Nat) : Int)) := fun k hk => by rw [← hf]; exact natL_get HNN.out hk
      have HFF := Lib.hid (fst_fn (es := es) (n := n) hf)
      clear hf
      have HCP := Lib.hid hcp
      clear hcn l1 l2 l3 HR hcp
      go_enter Tryz.func26, Tryz.ntmps26
      go_wp2_with fail
      refine HG.out.mono ?_
      rintro e w1 ⟨o, rfl, hd, hb1⟩
      have HB1 := Lib.hid hb1
      have HD1 := Lib.hid hd
      have HO := Lib.hid (HCK.out o w1 hd hb1)
      clear hb1 hd HG HCK
      go_wp2_with fail
      refine HO.out.mono ?_
      rintro e w2 ⟨rfl, hb2⟩
      have HB2 := Lib.hid (bstep HB1.out hb2)
      have HD2 := Lib.hid (HD1.out.below hb2)
      clear hb2 HO HD1 HB1
      go_wp2_with fail
      go_loopw [43] (fun i wr => ∃ k : Nat, k ≤ q.length ∧ i = .int .i64 (k : Int) ∧ Below w2.heap.size w2 wr ∧ Hid (∀ a b, b < a → a < k → (f a, f b) ∉ es)) (fun i _ => q.length - (intOf i).toNat)
      case atStart => exact ⟨0, Nat.zero_le _, rfl, Below.refl _ _, fun a b _ h => by omega⟩
      case round =>
        obtain ⟨i, hi, rfl, hBr, HNO⟩ := hrel
        obtain ⟨wo, rfl⟩ : ∃ wo : World, wo = wr := ⟨_, rfl⟩
        have HBo := Lib.hid hBr
        clear hBr
        by_cases hi2 : i < q.length
        · have hqi := HQF.out i hi2
          have HQo := Lib.hid (Sl.below HQ.out (bstep HB2.out HBo.out))
          obtain ⟨qb, qoff, rfl, hqb, g0⟩ := zints_get HQo.out hqi
          obtain ⟨po, pc, hsl, hpt⟩ := part_of HQo.out (capsLe HCP.out) i (by omega)
          have HPT := Lib.hid hpt
          have HQI := Lib.hid hqi
          clear hpt hqi
          go_wp2_with fail
          go_loopw [52] (fun i' wr => ∃ k : Nat, k ≤ i ∧ i' = .int .i64 (k : Int) ∧ Below wo.heap.size wo wr ∧ Hid (∀ b, b < k → (f i, f b) ∉ es)) (fun i' _ => i - (intOf i').toNat)
          case atStart => exact ⟨0, Nat.zero_le _, rfl, Below.refl _ _, fun b h => by omega⟩
          case round =>
            obtain ⟨k, hk, rfl, hBr, HNI⟩ := hrel
            have HB := Lib.hid hBr
            clear hBr
            by_cases hk2 : k < i
            · have hqk := HQF.out k (by omega)
              have hqt : (q.take i)[k]? = some ((f k : Nat) : Int) := by rw [List.getElem?_take, if_pos hk2]; exact hqk
              obtain ⟨pb, poff, rfl, hpb, g1⟩ := zints_get (Sl.below HPT.out HB.out) hqt
              have HCN := Lib.hid (containsPair_any o (cst es) ((f i : Nat) : Int) ((f k : Nat) : Int) wr (HD2.out.below (bstep HBo.out HB.out)).pairs (by rw [cst_len]; have := HD2.out.m_le; omega))
              rw [pairIn_nat] at HCN
              have HFY := Lib.hid (fun h => HFF.out.2 i k HNO.out HNI.out hk2 (by have := HNQ.out; omega) h)
              have HNI2 := Lib.hid (fun (h : (f i, f k) ∉ es) => (fun b hb => by
                by_cases e : b = k
                · subst e; exact h
                · exact HNI.out b (by omega) : ∀ b, b < k + 1 → (f i, f b) ∉ es))
              clear hqk hqt
              generalize f i = qi at *
              generalize f k = qk at *
              by_cases hm : (qi, qk) ∈ es
              · rw [dec_yes hm] at HCN
                have HV := Lib.hid (HFY.out hm)
                clear HFY HNI2 hm
                go_wp2_with fail
                refine HCN.out.mono ?_
                rintro e w3 ⟨rfl, hb3⟩
                have HB3 := Lib.hid (bstep HB2.out (bstep HBo.out (bstep HB.out hb3)))
                clear hb3 HCN
                go_wp2
                (try rw [Exit.noGoto_ret])
                exact bodyPost_ret (v := .tuple #[.int .i64 (qi : Int), .int .i64 (qk : Int), .int .i64 0]) (by simp [results, Tryz.results26, go_sem]) rfl ⟨by rw [HV.out], HB3.out⟩
              · rw [dec_no hm] at HCN
                have HN := Lib.hid (HNI2.out hm)
                clear HFY HNI2 hm
                go_wp2_with fail
                refine HCN.out.mono ?_
                rintro e w3 ⟨rfl, hb3⟩
                have HB3 := Lib.hid (bstep HB.out hb3)
                clear hb3 HCN
                go_wp2
                go_roundw
                case rel => exact ⟨k + 1, by omega, by go_num, HB3.out, HN.out⟩
                case measure => simp [intOf]; omega
            · obtain rfl : k = i := by omega
              go_wp2
              go_roundw
              case rel => exact ⟨k + 1, by omega, by go_num, bstep HBo.out HB.out, fun a b hab ha => by
                by_cases e : a = k
                · subst e; exact HNI.out b hab
                · exact HNO.out a b hab (by omega)⟩
              case measure => simp [intOf]; omega
        · obtain rfl : i = q.length := by omega
          have HV := Lib.hid (HFF.out.1 (fun a b hab ha => HNO.out a b hab (by have := HNQ.out; omega)))
          go_wp2
          exact bodyPost_ret (v := .tuple #[.int .i64 0, .int .i64 0, .int .i64 12]) (by simp [results, Tryz.results26, go_sem]) rfl ⟨by rw [HV.out], bstep HB2.out HBo.out⟩
    · have HR : Hid (fstR n es q = (0, 0, c)) := by
        unfold Hid fstR
        rw [if_neg (by rw [← hcn]; exact h0), ← hcn]
      rw [HR.out]
      have hb : (c != 0) = true := bne_yes h0
      clear hcn HR h0 hcp
      go_enter Tryz.func26, Tryz.ntmps26
      go_wp2_with fail
      refine HG.out.mono ?_
      rintro e w1 ⟨o, rfl, hd, hb1⟩
      have HB1 := Lib.hid hb1
      have HO := Lib.hid (HCK.out o w1 hd hb1)
      clear hb1 hd HG HCK
      go_wp2_with fail
      refine HO.out.mono ?_
      rintro e w2 ⟨rfl, hb2⟩
      have HB2 := Lib.hid (bstep HB1.out hb2)
      clear hb2
      go_wp2
      exact bodyPost_ret (v := .tuple #[.int .i64 0, .int .i64 0, .int .i64 c]) (by simp [results, Tryz.results26, go_sem]) rfl ⟨rfl, HB2.out⟩
  · have HG := Lib.hid (graph_bad v vr xv X l rs w hA hx hlx _ rfl hc)
    have HR : Hid (sqFst (sqC l rs X) (lgsOf l rs).length (sqEs l rs X) q = (0, 0, sqC l rs X)) := if_neg hc
    rw [HR.out]
    generalize sqC l rs X = c at *
    have hb : (c != 0) = true := bne_yes hc
    clear hA hx hc HR hcp
    go_enter Tryz.func26, Tryz.ntmps26
    go_wp2_with fail
    refine HG.out.mono ?_
    rintro e w1 ⟨rfl, hb1⟩
    have HB1 := Lib.hid hb1
    clear hb1 HG
    go_wp2
    exact bodyPost_ret (v := .tuple #[.int .i64 0, .int .i64 0, .int .i64 c]) (by simp [results, Tryz.results26, go_sem]) rfl ⟨rfl, HB1.out⟩

/-! ### Layers -/
/-- The world of the loops of Layers. -/
structure LyW (w2 : World) (g n : Nat) (A : List Int) (wr : World) : Prop where
  below : Below g w2 wr
  own : Own wr g 3 intf (.slice (some ⟨g, 0, none⟩) n n) A
theorem LyW.set {w2 wr : World} {g n : Nat} {A : List Int} (h : LyW w2 g n A wr) (i : Nat) (x : Int) : LyW w2 g n (A.set i x) (wr.setCell ⟨g, i, none⟩ (.int .i64 x)) := ⟨h.below.setCell (p := ⟨g, i, none⟩) (Nat.le_refl _) _, h.own.set i x⟩
theorem LyW.after {w2 wr w' : World} {g n : Nat} {A : List Int} (h : LyW w2 g n A wr) (hb : Below wr.heap.size wr w') : LyW w2 g n A w' := ⟨h.below.trans (hb.mono (by have := (h.own.lt g rfl).2; omega)), h.own.below hb⟩
set_option maxRecDepth 100000 in
set_option maxHeartbeats 8000000 in
theorem slayers_any (v vr xv : Value) (X : List Int) (l : List BarD) (rs : List RunD) (w : World) (hA : SqA w v vr l rs) (hx : Ints w xv X) (hlx : X.length ≤ 140737488355328) :
    Calls Tryz.prog 20 #[v, vr, xv] w (LPostI w (sqLay (sqC l rs X) (lgsOf l rs).length (sqEs l rs X))) := by
  by_cases hc : sqC l rs X = 0
  · have HG := Lib.hid (graph_good v vr xv X l rs w hA hx hlx hc)
    have hn14 := hA.h14 (sqC_zero hc).1
    have HEN := Lib.hid (edN_ends (lgsOf l rs) (szsOf l rs) X (lgsOf l rs).length)
    have HEL := Lib.hid (edN_len (lgsOf l rs) (szsOf l rs) X (lgsOf l rs).length)
    rw [hc]
    unfold sqEs at *
    generalize edN (lgsOf l rs) (szsOf l rs) X (lgsOf l rs).length = es at *
    generalize (lgsOf l rs).length = n at *
    have he196 : es.length ≤ 196 := Nat.le_trans HEL.out (Nat.mul_le_mul hn14 hn14)
    clear hA hx hc HEL
    cases ho : orderOf n es with
    | none =>
      have HR : Hid (sqLay 0 n es = (23, [])) := by unfold Hid sqLay; rw [if_pos rfl, ho]
      rw [HR.out]
      have HT := Lib.hid (fun o w1 (hd : Dg w1 n o es) => ordTop_ok n o es w1 hd)
      unfold TopPost at HT
      rw [ho] at HT
      clear ho HR
      go_enter Tryz.func20, Tryz.ntmps20
      go_wp2_with fail
      refine HG.out.mono ?_
      rintro e w1 ⟨o, rfl, hd, hb1⟩
      have HB1 := Lib.hid hb1
      have HO := Lib.hid (HT.out o w1 hd)
      clear hb1 hd HG HT
      go_wp2_with fail
      refine HO.out.mono ?_
      rintro e w2 ⟨rfl, h2⟩
      have HB2 := Lib.hid (bstep HB1.out h2)
      clear h2 HO
      go_wp2
      go_ret2
      exact ⟨_, rfl, Own.nil _ _ _ _, HB2.out⟩
    | some D =>
      have HR : Hid (sqLay 0 n es = (0, layT n es D D.length)) := by unfold Hid sqLay; rw [if_pos rfl, ho]
      rw [HR.out]
      have HT := Lib.hid (fun o w1 (hd : Dg w1 n o es) => ordTop_ok n o es w1 hd)
      unfold TopPost at HT
      rw [ho] at HT
      obtain ⟨hDl, hO⟩ := ordTo_ok n D ho
      have HDL := Lib.hid hO.lt
      have HTL := Lib.hid (layT_len n es D)
      have HTB := Lib.hid (layT_bd (n := n) (es := es) (D := D))
      clear ho HR hO
      go_enter Tryz.func20, Tryz.ntmps20
      go_wp2_with fail
      refine HG.out.mono ?_
      rintro e w1 ⟨o, rfl, hd, hb1⟩
      have HB1 := Lib.hid hb1
      have HD1 := Lib.hid hd
      have HO := Lib.hid (HT.out o w1 hd)
      clear hb1 hd HG HT
      go_wp2_with fail
      refine HO.out.mono ?_
      rintro e w2 ⟨⟨u, rfl, hu⟩, h2⟩
      have HB2 := Lib.hid (bstep HB1.out h2)
      have HG2 := Lib.hid (HD1.out.below h2)
      have HU := Lib.hid hu.sl
      obtain ⟨uo, uc, rfl⟩ := hu.shape
      obtain ⟨eo, ec, rfl⟩ : ∃ ao cap, o = .slice ao es.length cap := by
        obtain ⟨ao, cap, rfl, _⟩ := HG2.out.pairs.open_
        exact ⟨ao, cap, rfl⟩
      have HM := Lib.hid (own_made w2 3 intf 0 (.int .i64 0) rfl n (by omega) w2.heap.size (Nat.le_refl _))
      have hmk := fun W => run_make_one (P := Tryz.prog) 24 3 8 (.int .i64 0) Tryz.underlying24 (by kernel_rfl) (by omega) n (by omega) W
      have HL0 : Hid (LyW w2 w2.heap.size n (layT n es D 0) (w2.alloc (.cells (madeCells #[.int .i64 0] n) 3))) := ⟨below_new w2 _, HM.out⟩
      clear h2 hu HO HM
      generalize hDn : D.length = dn at *
      generalize hEn : es.length = en at *
      have HDN := Lib.hid hDl
      have hdn14 : dn ≤ 14 := by omega
      clear hDl
      go_wp2_with fail
      generalize w2.alloc (.cells (madeCells #[.int .i64 0] n) 3) = w3 at *
      go_loopw [41] (fun i wr => ∃ k : Nat, k ≤ dn ∧ i = .int .i64 (k : Int) ∧ LyW w2 w2.heap.size n (layT n es D k) wr) (fun i _ => dn - (intOf i).toNat)
      case atStart => exact ⟨0, Nat.zero_le _, rfl, HL0.out⟩
      case round =>
        clear HL0
        obtain ⟨k, hk, rfl, hLr⟩ := hrel
        obtain ⟨wo, rfl⟩ : ∃ wo : World, wo = wr := ⟨_, rfl⟩
        have HLo := Lib.hid hLr
        clear hLr
        by_cases hk2 : k < dn
        · obtain ⟨x, hxk⟩ : ∃ x, D[k]? = some x := ⟨_, List.getElem?_eq_getElem (by omega)⟩
          have hxn := HDL.out x (List.mem_of_getElem? hxk)
          have HXK := Lib.hid (layT_succ hxk n es)
          obtain ⟨ub, uoff, rfl, hub, g0⟩ := nats_get (Sl.below HU.out HLo.out.below) hxk
          have hTB := Lib.hid (HTB.out k (by omega))
          have hTL := HTL.out k
          have hkb : k * en ≤ 14 * 196 := Nat.mul_le_mul (by have := HDN.out; omega) (by omega)
          generalize layT n es D k = A0 at *
          clear hxk
          go_wp2_with fail
          go_loopw [47] (fun i wr => ∃ m : Nat, m ≤ en ∧ i = .int .i64 (m : Int) ∧ LyW w2 w2.heap.size n (layR es x A0 m) wr) (fun i _ => en - (intOf i).toNat)
          case atStart => exact ⟨0, Nat.zero_le _, rfl, HLo.out⟩
          case round =>
            clear HLo
            obtain ⟨m, hm, rfl, hLr⟩ := hrel
            have HL := Lib.hid hLr
            clear hLr
            by_cases hm2 : m < en
            · obtain ⟨ed, hed⟩ : ∃ e, es[m]? = some e := ⟨_, List.getElem?_eq_getElem (by omega)⟩
              obtain ⟨n1, n2⟩ := HEN.out m ed hed
              have HSN := Lib.hid (layR_succ hed x A0)
              have hbd := layR_bd (es := es) (v := x) hTB.out m (by omega)
              have hRl := layR_len es x A0 m
              obtain ⟨eb, eoff, he, heb, c0, c1⟩ := ((HG2.out.below HL.out.below).pairs).edge hed
              have HYS := Lib.hid (fun y z (h : ed.2 = x) (hy : (layR es x A0 m)[x]? = some y) (hz : (layR es x A0 m)[ed.1]? = some z) => layS_yes (e := ed) h hy hz)
              have HNS := Lib.hid (fun (h : ¬ ed.2 = x) => layS_no (v := x) (A := layR es x A0 m) (e := ed) h)
              generalize layR es x A0 m = A at *
              obtain ⟨y, hy⟩ : ∃ y, A[x]? = some y := ⟨_, List.getElem?_eq_getElem (by omega)⟩
              obtain ⟨z, hz⟩ : ∃ z, A[ed.1]? = some z := ⟨_, List.getElem?_eq_getElem (by omega)⟩
              have hbz := hbd ed.1
              have hby := hbd x
              rw [getD_at hz] at hbz
              rw [getD_at hy] at hby
              have HYS2 := Lib.hid (fun h => HYS.out y z h hy hz)
              have HA := Lib.hid (HL.out.after (below_new wr (.cells #[.int .i64 (ed.1 : Int), .int .i64 (ed.2 : Int)] 47)))
              have HYC := Lib.hid hy
              have HZC := Lib.hid hz
              obtain ⟨e1, e2⟩ := ed
              simp only at n1 n2 c0 c1 HA HYS2 HNS HSN HZC
              cases he
              clear hed hbd hy hz HYS
              by_cases hq : e2 = x
              · rw [HYS2.out hq] at HSN
                subst hq
                clear HYS2 HNS HL
                go_wp2_with fail
                generalize hgt : wr.heap.size = gx at *
                have x0 : (wr.alloc (.cells #[.int .i64 (e1 : Int), .int .i64 (e2 : Int)] 47)).cell? ⟨gx, 0, none⟩ = some (.int .i64 (e1 : Int)) := by subst hgt; go_cell
                generalize wr.alloc (.cells #[.int .i64 (e1 : Int), .int .i64 (e2 : Int)] 47) = wq at *
                have a0 := HA.out.own.cell HYC.out
                have a1 := HA.out.own.cell HZC.out
                have af := HA.out.own.free e2
                unfold intf at a0 a1
                have HST := Lib.hid (LyW.set ⟨HA.out.below.trans (Below.refl _ _).drew, HA.out.own.below (Below.refl _ _).drew⟩ e2 (max y (z + 1)) : LyW w2 w2.heap.size n (A.set e2 (max y (z + 1))) (wq.drew.setCell ⟨w2.heap.size, e2, none⟩ (.int .i64 (max y (z + 1)))))
                have k0 : (0 : Int) ≤ (e1 : Int) := Int.natCast_nonneg _
                have k1 : (e1 : Int) < (n : Int) := by omega
                have k2 : (0 : Int) ≤ (e2 : Int) := Int.natCast_nonneg _
                have k3 : (e2 : Int) < (n : Int) := by omega
                have k4 : IntKind.i64.wrap (z + 1) = z + 1 := IntWalk.i64_in _ (by omega)
                clear HA HYC HZC hgt
                go_still_tail 14, (by kernel_rfl)
                change wpList _ _ _ _ _ wq.drew
                obtain ⟨W10, hW10⟩ : ∃ W10, wq.drew = W10 := ⟨_, rfl⟩
                replace x0 : W10.cell? ⟨gx, 0, none⟩ = some (.int .i64 (e1 : Int)) := by rw [← hW10]; exact x0
                replace a1 : W10.cell? ⟨w2.heap.size, e1, none⟩ = some (.int .i64 z) := by rw [← hW10]; exact a1
                replace af : W10.frozen? ⟨w2.heap.size, e2, none⟩ = false := by rw [← hW10]; exact af
                replace a0 : W10.cell? ⟨w2.heap.size, e2, none⟩ = some (.int .i64 y) := by rw [← hW10]; exact a0
                rw [hW10] at HST
                rw [hW10]
                clear hW10
                go_wp2
                go_roundw
                case rel => first | exact ⟨m + 1, by omega, by go_num, by rw [HSN.out]; exact HST.out⟩ | ((repeat apply Exists.intro); exact ⟨⟨m + 1, by omega, by go_num, by rw [HSN.out]; exact HST.out⟩, rfl⟩)
                case measure => simp [intOf]; omega
              · rw [HNS.out hq] at HSN
                have d0 : ((e2 : Int) == (x : Int)) = false := beq_no (by omega)
                have d1 : decide ((e2 : Int) = (x : Int)) = false := dec_no (by omega)
                have d2 : (e2 == x) = false := by simpa using hq
                clear HYS2 HNS
                go_wp2
                go_roundw
                case rel => exact ⟨m + 1, by omega, by go_num, by rw [HSN.out]; exact HA.out⟩
                case measure => simp [intOf]; omega
            · obtain rfl : m = en := by omega
              go_wp2
              go_roundw
              case rel => exact ⟨k + 1, by omega, by go_num, by rw [HXK.out, hEn]; exact HL.out⟩
              case measure => simp [intOf]; omega
        · obtain rfl : k = dn := by omega
          have hsz := HB2.out.size
          go_wp2
          go_ret2
          exact ⟨_, rfl, HLo.out.own.mono hsz, bstep HB2.out HLo.out.below⟩
  · have HG := Lib.hid (graph_bad v vr xv X l rs w hA hx hlx _ rfl hc)
    have HR : Hid (sqLay (sqC l rs X) (lgsOf l rs).length (sqEs l rs X) = (sqC l rs X, [])) := if_neg hc
    generalize sqLay (sqC l rs X) (lgsOf l rs).length (sqEs l rs X) = R at *
    generalize sqC l rs X = c at *
    have hb : (c != 0) = true := bne_yes hc
    clear hA hx hc
    go_enter Tryz.func20, Tryz.ntmps20
    go_wp2_with fail
    refine HG.out.mono ?_
    rintro e w1 ⟨rfl, hb1⟩
    have HB1 := Lib.hid hb1
    clear hb1 HG
    go_wp2
    go_ret2
    exact lpostI_nil HR.out HB1.out
end
end Go.Proofs.YthmlejijfgbfbaaGreat
