/-
  All laid bars with their paths: the iterator tells each one's points.
-/
import Derived.Test.YtpidjgljeooblaaScE
import Derived.Test.YtpidjgljeooblaaMkp
import Derived.Test.YtpidjgljeooblaaTld
namespace Go.Proofs.Ytpidjgljeooblaa
open Go.RowKit Go.Shelf
set_option linter.unusedVariables false
set_option linter.unusedSimpArgs false
attribute [local go_sem ↓] Go.wp_at_zero Go.wp_at_succ
attribute [local go_sem] Oper.semAt_some

/-! ### what keeps all cells -/
structure Kc (W W' : World) : Prop where
  size : W.heap.size ≤ W'.heap.size
  cell : ∀ p u, W.cell? p = some u → W'.cell? p = some u
theorem Kc.refl (W : World) : Kc W W := ⟨Nat.le_refl _, fun _ _ h => h⟩
theorem Kc.trans {A B C : World} (h : Kc A B) (k : Kc B C) : Kc A C := ⟨Nat.le_trans h.size k.size, fun p u e => k.cell p u (h.cell p u e)⟩
theorem Kc.below {A B : World} (h : Below A.heap.size A B) : Kc A B := ⟨h.size, fun p u e => (h.cell (block_lt_of_cell e)).trans e⟩
theorem Kc.put (W : World) (l : Nat) (o o' : Obj) (hl : W.heap[l]? = some o) (ho : o.isCells = false) : Kc W (W.putObj l o') := by
  have hg := grownBy_putObj' W l o'
  refine ⟨hg.size, fun p u e => ?_⟩
  have hb := block_lt_of_cell e
  refine (World.cell?_of_block (hg.block p.block hb (fun e1 => ?_))).trans e
  have e2 : p.block = l := by injection e1
  unfold World.cell? at e
  rw [e2, hl] at e
  cases o <;> simp_all [Obj.isCells]
theorem Fl.kc {α : Type} {n : Nat} {enc : α → List Value} {w w1 : World} {v : Value} {l : List α} (h : Fl n enc w v l) (hk : Kc w w1) : Fl n enc w1 v l := by
  obtain ⟨ao, cap, rfl, h⟩ := h
  refine ⟨ao, cap, rfl, fun hl => ?_⟩
  obtain ⟨b, off, rfl, hlt, hc⟩ := h hl
  exact ⟨b, off, rfl, Nat.lt_of_lt_of_le hlt hk.size, fun k x hx j u hu => hk.cell _ _ (hc k x hx j u hu)⟩
theorem Sl.kc {α : Type} {w w1 : World} {f : α → Value} {v : Value} {l : List α} (h : Sl w f v l) (hk : Kc w w1) : Sl w1 f v l := by
  obtain ⟨ao, cap, rfl, h⟩ := h
  refine ⟨ao, cap, rfl, fun hl => ?_⟩
  obtain ⟨b, off, rfl, hlt, hc⟩ := h hl
  exact ⟨b, off, rfl, Nat.lt_of_lt_of_le hlt hk.size, fun k x hx => hk.cell _ _ (hc k x hx)⟩
theorem Bars.kc {w w1 : World} {v : Value} {l : List BarD} (h : Bars w v l) (hk : Kc w w1) : Bars w1 v l := by
  obtain ⟨ao, cap, rfl, h⟩ := h
  refine ⟨ao, cap, rfl, fun hl => ?_⟩
  obtain ⟨b, off, rfl, hlt, hc⟩ := h hl
  refine ⟨b, off, rfl, Nat.lt_of_lt_of_le hlt hk.size, fun k x hx => ?_⟩
  obtain ⟨h1, h2, h3, h4, uo, uc, h5, h6⟩ := hc k x hx
  exact ⟨hk.cell _ _ h1, hk.cell _ _ h2, hk.cell _ _ h3, hk.cell _ _ h4, uo, uc, hk.cell _ _ h5, Sl.kc h6 hk⟩

/-! ### all laid bars -/
def ptsOf (l : List BarD) (r : RunD) : List Pt := match lineOf l r.mark with | some b => turnedOf b r | none => []
def barPts (l : List BarD) (r : RunD) (k : Nat) : List Pt := (ptsOf l r).map (shiftP r (k : Int))
def laidPts (l : List BarD) (rs : List RunD) : List (List Pt) := rs.flatMap fun r => (List.range r.count.toNat).map (barPts l r)
def cumN (rs : List RunD) : Nat := (rs.map fun r => r.count.toNat).sum
theorem laidPts_len (l : List BarD) (rs : List RunD) : (laidPts l rs).length = cumN rs := by
  induction rs with
  | nil => rfl
  | cons r rs ih =>
    have e : laidPts l (r :: rs) = (List.range r.count.toNat).map (barPts l r) ++ laidPts l rs := rfl
    have e2 : cumN (r :: rs) = r.count.toNat + cumN rs := by simp [cumN]
    rw [e, List.length_append, ih, e2]; simp
theorem laidPts_at {l : List BarD} {rs : List RunD} {i k : Nat} {r : RunD} (hr : rs[i]? = some r) (hk : k < r.count.toNat) : (laidPts l rs)[cumN (rs.take i) + k]? = some (barPts l r k) := by
  have hi := (List.getElem?_eq_some_iff.1 hr).1
  have e : laidPts l rs = laidPts l (rs.take i) ++ laidPts l (rs.drop i) := by
    unfold laidPts
    rw [← List.flatMap_append, List.take_append_drop]
  have e2 : rs.drop i = r :: rs.drop (i + 1) := by rw [List.drop_eq_getElem_cons hi, (List.getElem?_eq_some_iff.1 hr).2]
  have e3 : laidPts l (rs.drop i) = (List.range r.count.toNat).map (barPts l r) ++ laidPts l (rs.drop (i + 1)) := by rw [e2]; rfl
  rw [e, List.getElem?_append_right (by rw [laidPts_len]; omega), laidPts_len, e3, List.getElem?_append_left (by simp; omega)]
  simp [hk]
theorem cumN_snoc {rs : List RunD} {k : Nat} {r : RunD} (h : rs[k]? = some r) : cumN (rs.take (k + 1)) = cumN (rs.take k) + r.count.toNat := by
  have hk := (List.getElem?_eq_some_iff.1 h).1
  unfold cumN
  rw [List.take_succ_eq_append_getElem hk, List.map_append, List.sum_append, (List.getElem?_eq_some_iff.1 h).2]
  simp
theorem cumN_sum {rs : List RunD} (h : ∀ r ∈ rs, 1 ≤ r.count) : (cumN rs : Int) = sumC rs := by
  have key : ∀ (l : List Int) (m : Int), l.foldl (· + ·) m = m + l.foldl (· + ·) 0 := by
    intro l
    induction l with
    | nil => intro m; simp
    | cons a l ih => intro m; simp only [List.foldl_cons]; rw [ih (m + a), ih (0 + a)]; omega
  induction rs with
  | nil => rfl
  | cons r rs ih =>
    have h1 := h r (List.mem_cons_self ..)
    have h2 := ih (fun x hx => h x (List.mem_cons_of_mem _ hx))
    have e : sumC (r :: rs) = r.count + sumC rs := by
      unfold sumC sumI
      simp only [List.map_cons, List.foldl_cons]
      rw [key]; omega
    have e2 : cumN (r :: rs) = r.count.toNat + cumN rs := by simp [cumN]
    rw [e, e2]; omega
theorem cumN_take_le (rs : List RunD) (k : Nat) : cumN (rs.take k) ≤ cumN rs := by
  have e : cumN rs = cumN (rs.take k) + cumN (rs.drop k) := by
    unfold cumN
    rw [← List.sum_append, ← List.map_append, List.take_append_drop]
  omega

/-- A run that is right: its line, and what bounds its points. -/
theorem right_parts {l : List BarD} {r : RunD} (hs : schedOk l = true) (h : rightB l r = true) :
    ∃ b, lineOf l r.mark = some b ∧ barOk b = true ∧ turnB r.tx r.ty = true ∧ ptIn 1048576 r.at_ = true ∧ 1 ≤ r.count ∧ r.count ≤ 1000 ∧ (1 < r.count → ptIn 2097152 r.step = true) ∧ chkB (turnedOf b r) r 0 = true ∧ chkB (turnedOf b r) r 1 = true := by
  cases hl : lineOf l r.mark with
  | none => rw [rightB_none hl] at h; cases h
  | some b =>
    rw [rightB_some hl] at h
    obtain ⟨i, hi1, hi2, _⟩ := lineOf_some hl
    simp only [Bool.and_eq_true, decide_eq_true_eq] at h
    obtain ⟨⟨⟨⟨⟨h1, h2⟩, h3⟩, h4⟩, h5⟩, h6, h7⟩ := h
    refine ⟨b, rfl, (sched_line hs hi2).1, h1, h4, h2, h3, fun h8 => ?_, h6, h7⟩
    unfold stepB at h5
    rw [dec_no (p := r.count ≤ 1) (by omega)] at h5
    simp only [Bool.false_or, Bool.and_eq_true] at h5
    exact h5.2

/-- What the iterator hands over, of the x.1-th laid bar. -/
def Told (l : List BarD) (rs : List RunD) (B : Nat) (x : Nat × Value) (W : World) : Prop := ∃ q, (laidPts l rs)[x.1]? = some q ∧ OwnPts W B x.2 q
theorem told_own (l : List BarD) (rs : List RunD) (B N : Nat) : OwnFrom N (Told l rs B) := by
  rintro x W W' row ⟨q, h1, h2⟩ hg hr
  refine ⟨q, h1, OwnN.only h2 hg (fun g hgv e => ?_)⟩
  obtain ⟨_, o, ho, hc⟩ := hr g e.symm
  rcases h2.2 with ⟨h', _⟩ | ⟨g', cap', cur, h', hb, hh, _⟩
  · rw [h'] at hgv; cases hgv
  · rw [h'] at hgv; cases hgv
    rw [hh] at ho; cases ho; cases hc
end Go.Proofs.Ytpidjgljeooblaa
