/-
  Base texts, shaken by wip/shake.py: FaP FaW LpP LpA Top.
-/
import Derived.Deep.RegionHeld3
import Derived.BigRegion
import Derived.Test.YtamogedpgkofjaaGreatKmm
import Derived.Test.YtamogedpgkofjaaGreatKdo
import Derived.Test.YtamogedpgkofjaaGreatKda
namespace Go.Proofs.YtamogedpgkofjaaGreat
section
open Go.RowKit
set_option linter.unusedVariables false

/-- d is the number of edges to b. -/
structure IsFar (es : List (Nat × Nat)) (b : Nat) (d : Nat → Int) : Prop where
  zero : d b = 0
  from_ : ∀ v, d v = -1 ∨ (v = b ∧ d v = 0) ∨ (1 ≤ d v ∧ ∃ k, (v, k) ∈ es ∧ d k = d v - 1)
  to_ : ∀ v, 0 ≤ d v → ∀ i, (i, v) ∈ es → 0 ≤ d i ∧ d i ≤ d v + 1

theorem IsFar.le {es : List (Nat × Nat)} {b : Nat} {d d' : Nat → Int} (h : IsFar es b d) (h' : IsFar es b d') : ∀ (k : Nat) v, d v = k → 0 ≤ d' v ∧ d' v ≤ k := by
  intro k
  induction k with
  | zero =>
    intro v hv
    rcases h.from_ v with h1 | ⟨rfl, h1⟩ | ⟨h1, _⟩
    · omega
    · rw [h'.zero]; omega
    · omega
  | succ k ih =>
    intro v hv
    rcases h.from_ v with h1 | ⟨rfl, h1⟩ | ⟨h1, i, hi, ho⟩
    · omega
    · omega
    · obtain ⟨a1, a2⟩ := ih i (by omega)
      have := h'.to_ i a1 v hi
      omega

theorem IsFar.unique {es : List (Nat × Nat)} {b : Nat} {d d' : Nat → Int} (h : IsFar es b d) (h' : IsFar es b d') : d = d' := by
  funext v
  have lo : ∀ v, d v = -1 ∨ 0 ≤ d v := fun v => by rcases h.from_ v with h1 | ⟨_, h1⟩ | ⟨h1, _⟩ <;> omega
  have lo' : ∀ v, d' v = -1 ∨ 0 ≤ d' v := fun v => by rcases h'.from_ v with h1 | ⟨_, h1⟩ | ⟨h1, _⟩ <;> omega
  rcases lo v with h1 | h1
  · rcases lo' v with h2 | h2
    · omega
    · obtain ⟨k, hk⟩ := Int.eq_ofNat_of_zero_le h2
      have := h'.le h k v hk
      omega
  · obtain ⟨k, hk⟩ := Int.eq_ofNat_of_zero_le h1
    have a1 := h.le h' k v hk
    obtain ⟨k', hk'⟩ := Int.eq_ofNat_of_zero_le a1.1
    have a2 := h'.le h k' v hk'
    omega

def upd (a : Nat → Int) (k : Nat) (x : Int) : Nat → Int := fun v => if v = k then x else a v

structure Bfd (es : List (Nat × Nat)) (b : Nat) (a : Nat → Int) (q : List Nat) : Prop where
  zero : a b = 0
  from_ : ∀ v, a v = -1 ∨ (v = b ∧ a v = 0) ∨ (1 ≤ a v ∧ ∃ k, (v, k) ∈ es ∧ a k = a v - 1)
  seen : ∀ v ∈ q, 0 ≤ a v
  sorted : q.Pairwise fun u v => a u ≤ a v
  near : ∀ h t, q = h :: t → ∀ v, a v ≤ a h + 1
  done : ∀ v, 0 ≤ a v → v ∉ q → ∀ i, (i, v) ∈ es → 0 ≤ a i ∧ a i ≤ a v + 1

theorem Bfd.start (es : List (Nat × Nat)) (b : Nat) : Bfd es b (upd (fun _ => -1) b 0) [b] := by
  have h0 : upd (fun _ => (-1 : Int)) b 0 b = 0 := by simp [upd]
  have h1 : ∀ v, v ≠ b → upd (fun _ => (-1 : Int)) b 0 v = -1 := fun v hv => by simp [upd, hv]
  refine ⟨h0, fun v => ?_, fun v hv => ?_, by simp, fun h t e v => ?_, fun v hv hn => ?_⟩
  · by_cases e : v = b
    · subst e; exact .inr (.inl ⟨rfl, h0⟩)
    · exact .inl (h1 v e)
  · rw [List.mem_singleton.1 hv, h0]; omega
  · cases e
    rw [h0]
    by_cases e : v = b
    · subst e; rw [h0]; omega
    · rw [h1 v e]; omega
  · have : v ≠ b := fun e => hn (by simp [e])
    rw [h1 v this] at hv
    omega

theorem Bfd.finish {es : List (Nat × Nat)} {b : Nat} {a : Nat → Int} (h : Bfd es b a []) : IsFar es b a :=
  ⟨h.zero, h.from_, fun v hv => h.done v hv (by simp)⟩

/-- Within a round: the head's 'row' has been looked at. -/
structure Bfe (es : List (Nat × Nat)) (b : Nat) (a : Nat → Int) (h : Nat) (t : List Nat) (row : List Nat) : Prop where
  all : Bfd es b a (h :: t)
  mine : ∀ i ∈ row, 0 ≤ a i ∧ a i ≤ a h + 1

theorem Bfe.start {es : List (Nat × Nat)} {b : Nat} {a : Nat → Int} {h : Nat} {t : List Nat} (hb : Bfd es b a (h :: t)) : Bfe es b a h t [] := ⟨hb, by simp⟩

theorem Bfe.old {es : List (Nat × Nat)} {b : Nat} {a : Nat → Int} {h : Nat} {t row : List Nat} (hb : Bfe es b a h t row) {i : Nat} (hi : 0 ≤ a i) : Bfe es b a h t (row ++ [i]) := by
  refine ⟨hb.all, fun j hj => ?_⟩
  rcases List.mem_append.1 hj with hj | hj
  · exact hb.mine j hj
  · rw [List.mem_singleton.1 hj]; exact ⟨hi, hb.all.near h t rfl _⟩

theorem Bfe.new {es : List (Nat × Nat)} {b : Nat} {a : Nat → Int} {h : Nat} {t row : List Nat} (hb : Bfe es b a h t row) {k : Nat} (hinc : (k, h) ∈ es) (hi : a k < 0) :
    Bfe es b (upd a k (a h + 1)) h (t ++ [k]) (row ++ [k]) := by
  have hA := hb.all
  have hh : 0 ≤ a h := hA.seen h (by simp)
  have hkh : h ≠ k := fun e => by rw [← e] at hi; omega
  have e1 : upd a k (a h + 1) k = a h + 1 := by simp [upd]
  have e2 : ∀ v, v ≠ k → upd a k (a h + 1) v = a v := fun v hv => by simp [upd, hv]
  have e3 : ∀ v, 0 ≤ a v → upd a k (a h + 1) v = a v := fun v hv => e2 v (fun e => by rw [e] at hv; omega)
  refine ⟨⟨?_, fun v => ?_, fun v hv => ?_, ?_, fun h' t' e v => ?_, fun v hv hn j hj => ?_⟩, fun j hj => ?_⟩
  · rw [e3 b (by rw [hA.zero]; omega)]; exact hA.zero
  · by_cases e : v = k
    · subst e
      rw [e1]
      exact .inr (.inr ⟨by omega, h, hinc, by rw [e3 h hh]; omega⟩)
    · rw [e2 v e]
      rcases hA.from_ v with h1 | h1 | ⟨h1, j, h2, h4⟩
      · exact .inl h1
      · exact .inr (.inl h1)
      · exact .inr (.inr ⟨h1, j, h2, by rw [e3 _ (by omega)]; exact h4⟩)
  · rw [← List.cons_append, List.mem_append] at hv
    rcases hv with hv | hv
    · rw [e3 v (hA.seen v hv)]; exact hA.seen v hv
    · rw [List.mem_singleton.1 hv, e1]; omega
  · rw [← List.cons_append, List.pairwise_append]
    refine ⟨?_, by simp, fun u hu v hv => ?_⟩
    · refine List.Pairwise.imp_of_mem ?_ hA.sorted
      intro u v hu hv huv
      rw [e3 u (hA.seen u hu), e3 v (hA.seen v hv)]
      exact huv
    · rw [List.mem_singleton.1 hv, e1, e3 u (hA.seen u hu)]
      exact hA.near h t rfl u
  · cases e
    rw [e3 h hh]
    by_cases e : v = k
    · subst e; rw [e1]; omega
    · rw [e2 v e]; exact hA.near h t rfl v
  · rw [← List.cons_append, List.mem_append, not_or] at hn
    have hvk : v ≠ k := fun e => hn.2 (by simp [e])
    rw [e2 v hvk] at hv ⊢
    have := hA.done v hv hn.1 j hj
    rw [e3 _ this.1]
    exact this
  · rw [e3 h hh]
    rcases List.mem_append.1 hj with hj | hj
    · have := hb.mine j hj
      rw [e3 _ this.1]; exact this
    · rw [List.mem_singleton.1 hj, e1]; omega

/-- The round's end: the head has been looked at whole. -/
theorem Bfe.next {es : List (Nat × Nat)} {b : Nat} {a : Nat → Int} {h : Nat} {t row : List Nat} (hb : Bfe es b a h t row) (hrow : ∀ i, (i, h) ∈ es → i ∈ row) : Bfd es b a t := by
  have hA := hb.all
  refine ⟨hA.zero, hA.from_, fun v hv => hA.seen v (by simp [hv]), (List.pairwise_cons.1 hA.sorted).2, fun h' t' e v => ?_, fun v hv hn i hi => ?_⟩
  · have h1 := hA.near h t rfl v
    have h2 := (List.pairwise_cons.1 hA.sorted).1 h' (by simp [e])
    omega
  · by_cases e : v = h
    · subst e
      exact hb.mine i (hrow i hi)
    · exact hA.done v hv (by simp [e, hn]) i hi

def flipTo (rows : List (List Nat)) : Nat → List (Nat × Nat)
  | 0 => []
  | i + 1 => flipTo rows i ++ (rows.getD i []).map fun k => (k, i)
theorem flipTo_mem {rows : List (List Nat)} {k i : Nat} : ∀ m, (k, i) ∈ flipTo rows m ↔ i < m ∧ k ∈ rows.getD i [] := by
  intro m
  induction m with
  | zero => simp [flipTo]
  | succ m ih =>
    rw [flipTo, List.mem_append, ih, List.mem_map]
    constructor
    · rintro (⟨h1, h2⟩ | ⟨a, h1, h2⟩)
      · exact ⟨by omega, h2⟩
      · cases h2
        exact ⟨by omega, h1⟩
    · rintro ⟨h1, h2⟩
      rcases Nat.lt_or_ge i m with h | h
      · exact .inl ⟨h, h2⟩
      · obtain rfl : i = m := by omega
        exact .inr ⟨k, h2, rfl⟩
theorem flipTo_len {rows : List (List Nat)} {n : Nat} (h : ∀ r ∈ rows, r.length ≤ n) : ∀ m, (flipTo rows m).length ≤ m * n := by
  intro m
  induction m with
  | zero => simp [flipTo]
  | succ m ih =>
    rw [flipTo, List.length_append, List.length_map, Nat.succ_mul]
    have : (rows.getD m []).length ≤ n := by
      rw [List.getD_eq_getElem?_getD]
      cases hr : rows[m]? with
      | none => simp
      | some r => exact h r (List.mem_of_getElem? hr)
    omega
/-- How many numbers are negative. -/
def neg (A : List Int) : Nat := A.countP fun x => decide (x < 0)
theorem neg_set (A : List Int) (k : Nat) (x y : Int) (hx : A[k]? = some x) (h : x < 0) (hy : 0 ≤ y) : neg (A.set k y) + 1 = neg A := by
  induction A generalizing k with
  | nil => simp at hx
  | cons z r ih =>
    cases k with
    | zero =>
      simp only [List.getElem?_cons_zero, Option.some.injEq] at hx
      subst hx
      simp only [List.set_cons_zero, neg, List.countP_cons]
      have h1 : decide (y < 0) = false := by simp; omega
      have h2 : decide (z < 0) = true := by simp; omega
      simp [h1, h2]
    | succ k =>
      simp only [List.getElem?_cons_succ] at hx
      have := ih k hx
      simp only [neg, List.set_cons_succ, List.countP_cons] at this ⊢
      omega

def ofList (A : List Int) : Nat → Int := fun v => A.getD v (-1)
theorem ofList_get {A : List Int} {k : Nat} {x : Int} (h : A[k]? = some x) : ofList A k = x := by unfold ofList; simp [List.getD, h]
theorem ofList_set {A : List Int} {k : Nat} {x : Int} (h : k < A.length) : ofList (A.set k x) = upd (ofList A) k x := by
  funext v
  unfold ofList upd
  by_cases e : v = k
  · subst e; simp [List.getD, h]
  · rw [if_neg e]
    simp only [List.getD]
    rw [List.getElem?_set_ne (fun e' => e e'.symm)]
theorem ofList_rep (n : Nat) : ofList (List.replicate n (-1)) = fun _ => -1 := by
  funext v
  unfold ofList
  simp only [List.getD]
  cases h : (List.replicate n (-1 : Int))[v]? with
  | none => rfl
  | some x =>
    have := (List.getElem?_eq_some_iff.1 h).2
    simp at this
    simp [this.symm]

structure BQ (w : World) (GA capA n : Nat) (wr : World) (g off cap : Nat) (ql : List Nat) (A : List Int) : Prop where
  que : Que wr w.heap.size 3 natf g off cap ql
  own : Own wr w.heap.size 3 intf (.slice (some ⟨GA, 0, none⟩) n capA) A
  len : A.length = n
  ne : g ≠ GA
  low : ∀ v ∈ ql, v < n
  bd : ∀ v, ofList A v + neg A ≤ n
  below : Below w.heap.size w wr

section
variable {w wr w1 : World} {GA capA n g off cap : Nat} {ql : List Nat} {A : List Int}
theorem BQ.push (h : BQ w GA capA n wr g off cap ql A) {k : Nat} {z y : Int} (hk : A[k]? = some z) (hz : z < 0) (hy : 0 ≤ y) (hyb : y + neg A ≤ n + 1) {w2 : World} {g' off' cap' : Nat}
    (hq : Que w2 w.heap.size 3 natf g' off' cap' (ql ++ [k])) (hg : (wr.setCell ⟨GA, k, none⟩ (intf y)).grownBy w2 (some g)) (hat : (g' = g ∧ off' = off) ∨ (wr.heap.size ≤ g' ∧ off' = 0)) :
    BQ w GA capA n w2 g' off' cap' (ql ++ [k]) (A.set k y) := by
  have hneg := neg_set A k z y hk hz hy
  have hkl : k < A.length := (List.getElem?_eq_some_iff.1 hk).1
  have hga := (h.own.lt GA rfl)
  refine ⟨hq, ?_, by rw [List.length_set]; exact h.len, ?_, fun v hv => ?_, fun v => ?_, ?_⟩
  · have o1 := h.own.set k y
    exact o1.only hg (fun g0 e => by cases e; exact fun e => h.ne (by injection e with e; exact e.symm))
  · rcases hat with ⟨rfl, _⟩ | ⟨h1, _⟩
    · exact h.ne
    · omega
  · rcases List.mem_append.1 hv with hv | hv
    · exact h.low v hv
    · rw [List.mem_singleton.1 hv]; have := h.len; omega
  · rw [ofList_set hkl]
    unfold upd
    have hn : (neg A : Int) = (neg (A.set k y) : Int) + 1 := by omega
    split
    · omega
    · have := h.bd v; omega
  · have b1 : Below w.heap.size w (wr.setCell ⟨GA, k, none⟩ (intf y)) := h.below.setCell hga.1 _
    have hsz := h.below.size
    exact below_grown b1 hg (by simpa using hsz) (fun g0 e => by cases e; exact h.que.lt.1)
theorem BQ.tail {x : Nat} (h : BQ w GA capA n wr g off cap (x :: ql) A) : BQ w GA capA n wr g (off + 1) (cap - 1) ql A :=
  ⟨h.que.tail, h.own, h.len, h.ne, fun v hv => h.low v (by simp [hv]), h.bd, h.below⟩
theorem BQ.last {x : Nat} (h : BQ w GA capA n wr g off 1 (x :: ql) A) : BQ w GA capA n wr g off 0 ql A :=
  ⟨h.que.last, h.own, h.len, h.ne, fun v hv => h.low v (by simp [hv]), h.bd, h.below⟩
end

theorem neg_rep (n : Nat) : neg (List.replicate n (-1)) = n := by
  unfold neg
  rw [List.countP_replicate]; simp
end
section
open Go.RowKit
set_option linter.unusedVariables false
attribute [local go_sem ↓] Go.wp_at_zero Go.wp_at_succ

def FarPost (w : World) (n : Nat) (es : List (Nat × Nat)) (b : Nat) (e : Ending) (w' : World) : Prop :=
  (∃ v A, e = .returned v ∧ Own w' w.heap.size 3 intf v A ∧ A.length = n ∧ IsFar es b (ofList A) ∧ ∀ k, ofList A k ≤ n) ∧ Below w.heap.size w w'

theorem nxS_getD {n : Nat} {es : List (Nat × Nat)} {i : Nat} (hi : i < n) : (nxS n es).getD i [] = nextsS n es i := by
  rw [List.getD_eq_getElem?_getD, nxS_get es hi]; rfl
theorem nxS_len2 {n : Nat} {es : List (Nat × Nat)} : ∀ r ∈ nxS n es, r.length ≤ n := by
  intro r hr
  unfold nxS at hr
  obtain ⟨i, _, rfl⟩ := List.mem_map.1 hr
  exact nextsS_len n es i
theorem flip_row {n : Nat} {es : List (Nat × Nat)} (he : EndsD n es) {h : Nat} (hh : h < n) (i : Nat) : i ∈ nextsM (flipTo (nxS n es) n) h ↔ (i, h) ∈ es := by
  rw [nextsM_mem, flipTo_mem]
  constructor
  · rintro ⟨h1, h2⟩
    rw [nxS_getD h1, nextsS_mem] at h2
    exact h2.2
  · intro h1
    have : i < n := by obtain ⟨q, hq⟩ := List.mem_iff_getElem?.1 h1; exact (he q _ hq).1
    exact ⟨this, by rw [nxS_getD this, nextsS_mem]; exact ⟨hh, h1⟩⟩

set_option maxRecDepth 100000 in
set_option maxHeartbeats 4000000 in
theorem far_any (n b : Nat) (V : Value) (es : List (Nat × Nat)) (w : World) (hn : n ≤ 60) (he : EndsD n es) (hb : b < n) (hr : Rows w V (nxS n es)) :
    Calls Tryz.prog 74 #[V, .int .i64 (b : Int)] w (FarPost w n es b) := by
  obtain ⟨ao, cap, rfl⟩ := hr.at
  have hln := nxS_len n es
  obtain ⟨N, hN⟩ : ∃ N, (nxS n es).length = N := ⟨_, rfl⟩
  rw [hN] at hln ⊢
  have HR := Lib.hid hr
  rw [hN] at HR
  clear hr
  subst hln
  obtain ⟨rows, hrows⟩ : ∃ rows, nxS N es = rows := ⟨_, rfl⟩
  have HROWS := Lib.hid hrows
  have HE := Lib.hid he
  rw [hrows] at HR hN
  have hfl : ∀ m, m ≤ N → (flipTo rows m).length ≤ 3600 := fun m hm => by
    have h1 := flipTo_len (rows := rows) (n := N) (by rw [← hrows]; exact nxS_len2) m
    have h2 : m * N ≤ 60 * 60 := Nat.mul_le_mul (by omega) hn
    omega
  have HFL := Lib.hid hfl
  have hrl : ∀ r ∈ rows, r.length ≤ N ∧ ∀ k ∈ r, k < N := by
    intro r hr
    rw [← hrows] at hr
    refine ⟨nxS_len2 r hr, ?_⟩
    unfold nxS at hr
    obtain ⟨i, _, rfl⟩ := List.mem_map.1 hr
    exact fun k hk => (nextsS_mem.1 hk).1
  have HRL := Lib.hid hrl
  have HRN := Lib.hid hN
  clear he hrows hfl hrl hN
  have hmk2 := fun W => run_make_one (P := Tryz.prog) 36 24 24 (.slice none 0 0) Tryz.underlying36 (by kernel_rfl) (by omega) N (by omega) W
  have HM0 := Lib.hid (Mat.new (own_made w 24 rowf (.slice none 0 0) (.slice none 0 0) rfl N (by omega) w.heap.size (Nat.le_refl _)))
  have hB0 := below_new w (.cells (madeCells (Value.slice none 0 0).cells N) 24)
  go_enter Tryz.func74, Tryz.ntmps74
  go_wp2_with fail
  go_loopw [6, 7, 9, 19] (fun _ _ _ s19 wr => ∃ i : Nat, i ≤ N ∧ s19 = .int .i64 (i : Int) ∧ Hid (Mat wr w.heap.size (.slice (some ⟨w.heap.size, 0, none⟩) N N) (nxRows N (flipTo rows i)) ∧ Below w.heap.size w wr)) (fun _ _ _ s19 _ => N - (intOf s19).toNat)
  case atStart => exact ⟨0, Nat.zero_le _, rfl, by rw [flipTo, nxRows_nil]; exact HM0.out, hB0⟩
  case round =>
    obtain ⟨i, hi, rfl, H⟩ := hrel
    clear HM0 hB0
    by_cases hlt : i < N
    · obtain ⟨r, hr⟩ : ∃ r, rows[i]? = some r := ⟨_, List.getElem?_eq_getElem (by have := HRN.out; omega)⟩
      obtain ⟨rb, roff, rfl, hrlt, ro, rc, c0, hnr⟩ := rows_get HR.out hr
      have c1 := (H.out.2.cell (p := ⟨rb, roff + i, none⟩) hrlt).trans c0
      have hro := HRL.out r (List.mem_of_getElem? hr)
      have HF1 := Lib.hid (show flipTo rows (i + 1) = flipTo rows i ++ r.map fun k => (k, i) by rw [flipTo, List.getD_eq_getElem?_getD, hr]; rfl)
      have HNR := Lib.hid hnr
      obtain ⟨hrlen, hrk⟩ := hro
      have HRK := Lib.hid hrk
      obtain ⟨wo, rfl⟩ : ∃ wo : World, wo = wr := ⟨_, rfl⟩
      clear hr hnr hrk c0
      go_wp2_with fail
      clear c1
      go_loopw [9, 26] (fun _ s26 wr => ∃ t : Nat, t ≤ r.length ∧ s26 = .int .i64 (t : Int) ∧ Hid (Mat wr w.heap.size (.slice (some ⟨w.heap.size, 0, none⟩) N N) (nxRows N (flipTo rows i ++ (r.take t).map fun k => (k, i))) ∧ Below w.heap.size w wr)) (fun _ s26 _ => r.length - (intOf s26).toNat)
      case atStart => exact ⟨0, Nat.zero_le _, rfl, by rw [List.take_zero, List.map_nil, List.append_nil]; exact H.out.1, H.out.2⟩
      case round =>
        clear H
        obtain ⟨t, ht, rfl, H⟩ := hrel
        by_cases htl : t < r.length
        · obtain ⟨k, hk⟩ : ∃ k, r[t]? = some k := ⟨_, List.getElem?_eq_getElem htl⟩
          have hkN := HRK.out k (List.mem_of_getElem? hk)
          obtain ⟨b3, off3, rfl, hb3, hc3⟩ := nats_get HNR.out hk
          have c2 := (H.out.2.cell (p := ⟨b3, off3 + t, none⟩) hb3).trans hc3
          have HT := Lib.hid (show nxRows N (flipTo rows i ++ (r.take (t + 1)).map fun k => (k, i)) = addAt (nxRows N (flipTo rows i ++ (r.take t).map fun k => (k, i))) k i by
            rw [List.take_succ_eq_append_getElem htl, (List.getElem?_eq_some_iff.1 hk).2, List.map_append, ← List.append_assoc]
            exact nxRows_snoc _ k i hkN)
          obtain ⟨ps, hps⟩ : ∃ ps, flipTo rows i ++ (r.take t).map (fun k => (k, i)) = ps := ⟨_, rfl⟩
          have hpl : ps.length ≤ 10000 := by
            rw [← hps, List.length_append, List.length_map, List.length_take]
            have := HFL.out i hi
            omega
          rw [hps] at H HT
          obtain ⟨vals, hMV⟩ := H.out.1
          obtain ⟨v, hv⟩ : ∃ v, vals[k]? = some v := ⟨_, List.getElem?_eq_getElem (by rw [hMV.1, nxRows_len]; exact hkN)⟩
          have hr1 := nxRows_get ps hkN
          have hrow := hMV.2.2.1 k v _ hv hr1
          have c3 := hMV.2.1.cell hv
          have f3 := hMV.2.1.free k
          have hgl := (hMV.2.1.lt _ rfl).2
          have hag1 : v.ownBlock ≠ some w.heap.size := fun e => hrow.apart hMV.2.1 (by decide) _ e rfl
          have hrl1 := nextsM_len ps k
          obtain ⟨rr, hrr⟩ : ∃ rr, nextsM ps k = rr := ⟨_, rfl⟩
          rw [hrr] at hrow hrl1 hr1
          have HROW := Lib.hid hrow
          have HMV := Lib.hid hMV
          have HV := Lib.hid hv
          have HR1 := Lib.hid hr1
          have HB := Lib.hid H.out.2
          have hbase := H.out.2.size
          have k0 : (0 : Int) ≤ (k : Int) := Int.natCast_nonneg _
          have k1 : (k : Int) < (N : Int) := by omega
          have hlen1 : rr.length + 1 ≤ 1099511627776 := by omega
          have hown : ∀ g, v.ownBlock = some g → w.heap.size ≤ g := fun g e => (hrow.lt g e).1
          clear hk hps hMV hv hr1 hrow H hc3 hrr
          go_wp2_with (at_builtin; refine wpList_push wr rfl _ _ 24 rfl 3 8 elemInt w.heap.size natf v rr i rfl HROW.out rfl rfl hlen1 (by omega) hbase ?_; intro v' w' hown' hg' hat'; obtain ⟨ao2, cp2, rfl⟩ := hown'.shape; have c4 := (hg'.cell_far ⟨w.heap.size, k, none⟩ (by simpa using hgl) (Ne.symm hag1)).trans c3; have f4 := (hg'.frozen_far ⟨w.heap.size, k, none⟩ (by simpa using hgl) (Ne.symm hag1)).trans f3)
          go_roundw
          case rel => exact ⟨t + 1, by omega, by go_num, by rw [HT.out, addAt_get HR1.out]; rw [List.length_append, List.length_singleton] at hown' hat'; exact ⟨HMV.out.pushAt HV.out HR1.out hown' hg' hat', (below_grown HB.out hg' hbase hown).setCell (p := ⟨w.heap.size, k, none⟩) (Nat.le_refl _) _⟩⟩
          case measure => simp [intOf]; omega
        · obtain rfl : t = r.length := by omega
          rw [List.take_length, ← HF1.out] at H
          go_wp2
          go_roundw
          case rel => exact ⟨i + 1, by omega, by go_num, H.out⟩
          case measure => simp [intOf]; omega
    · obtain rfl : N = i := by omega
      have HM := Lib.hid H.out.1
      have hB := H.out.2
      have hNX : Hid (∀ h, h < N → ∀ i, i ∈ nextsM (flipTo rows N) h ↔ (i, h) ∈ es) := fun h hh i => by
        rw [← HROWS.out]; exact flip_row HE.out hh i
      have hNL : Hid (∀ h, (nextsM (flipTo rows N) h).length ≤ 3600) := fun h => Nat.le_trans (nextsM_len _ h) (HFL.out N (Nat.le_refl _))
      obtain ⟨w2, rfl⟩ : ∃ w2 : World, w2 = wr := ⟨_, rfl⟩
      clear H
      have hi1 : Ints (w2.alloc (.cells #[.int .i64 (-1)] 3)) (.slice (some ⟨w2.heap.size, 0, none⟩) 1 1) [-1] := by
        refine ⟨_, 1, rfl, fun _ => ⟨_, _, rfl, by simp, fun k x hk => ?_⟩⟩
        match k, hk with
        | 0, hk => cases hk; rw [World.cell?_alloc_at _ _ _ _ rfl]; rfl
      go_wp2_with fail
      refine (repeat_any _ (-1) N _ hi1 (by omega) (by omega)).mono ?_
      rintro e w1 ⟨⟨u, rfl, hown⟩, hB1⟩
      obtain ⟨GA, capA, rfl, hg1, hg2, hg3⟩ := hown.form (by simp; omega)
      rw [List.length_replicate]
      have hB2 := below_new w2 (.cells #[.int .i64 (-1)] 3)
      have hB3 := bstep hB2 hB1
      have hsz1 : w2.heap.size < w1.heap.size := by have := hB1.size; simp at this; omega
      rw [List.length_replicate] at hown
      have c1 := hown.cell (k := b) (x := -1) (by simp [hb])
      have f1 := hown.free b
      have HOWN := Lib.hid (hown.mono (base' := w2.heap.size) (by simp))
      clear hown hi1 hB1
      unfold intf at c1
      have b0 : (0 : Int) ≤ (b : Int) := Int.natCast_nonneg _
      have b1 : (b : Int) < (N : Int) := by omega
      go_wp2_with fail
      have hq0 : BQ w2 GA capA N ((w1.setCell ⟨GA, b, none⟩ (.int .i64 0)).alloc (.cells #[.int .i64 (b : Int)] 3)) w1.heap.size 0 1 [b] ((List.replicate N (-1)).set b 0) := by
        have hb0 : w2.heap.size ≤ (w1.setCell ⟨GA, b, none⟩ (.int .i64 0)).heap.size := by simp; omega
        have q := Que.of_one (e := 3) (w1.setCell ⟨GA, b, none⟩ (.int .i64 0)) natf b hb0
        have hss : (w1.setCell ⟨GA, b, none⟩ (.int .i64 0)).heap.size = w1.heap.size := by simp
        rw [hss] at q
        refine ⟨q, (HOWN.out.set b 0).alloc _, by simp, by omega, fun v hv => by rw [List.mem_singleton.1 hv]; exact hb, fun v => ?_, ?_⟩
        · have hng := neg_set (List.replicate N (-1)) b (-1) 0 (by simp [hb]) (by omega) (by omega)
          rw [neg_rep] at hng
          rw [ofList_set (by simpa using hb), ofList_rep]
          unfold upd
          split
          · omega
          · show (-1 : Int) + _ ≤ _
            omega
        · exact (hB3.setCell (by have := (HOWN.out.lt GA rfl).1; simpa using this) _).alloc hb0 _
      have hn0 : 2 * neg ((List.replicate N (-1)).set b 0) + 1 ≤ 2 * N + 1 := by
        have hng := neg_set (List.replicate N (-1)) b (-1) 0 (by simp [hb]) (by omega) (by omega)
        rw [neg_rep] at hng
        omega
      have hbf0 : Bfd es b (ofList ((List.replicate N (-1)).set b 0)) [b] := by
        rw [ofList_set (by simpa using hb), ofList_rep]; exact Bfd.start es b
      clear HOWN c1 f1 hB2 hB3 hg1 hg2 hg3
      go_loopg [11, 13] (2 * N + 1) (fun gk q _ wr => ∃ g off cp ql A, q = .slice (some ⟨g, off, none⟩) ql.length cp ∧ Hid (BQ w2 GA capA N wr g off cp ql A ∧ Bfd es b (ofList A) ql) ∧ 2 * neg A + ql.length ≤ gk ∧ gk ≤ 2 * N + 1)
      case atStart => exact ⟨_, _, _, [b], _, rfl, ⟨hq0, hbf0⟩, hn0, Nat.le_refl _⟩
      case round =>
        obtain ⟨g, off, cp, ql, A, rfl, H, hgk, hgn⟩ := hrel
        clear hq0 hn0 hbf0
        cases ql with
        | nil =>
          obtain ⟨hbq, hbf⟩ := H.out
          have HD := Lib.hid hbf.finish
          have HBQ := Lib.hid hbq
          clear H hbq hbf
          go_wp2
          go_ret
          exact ⟨⟨_, A, rfl, HBQ.out.own.mono hB.size, HBQ.out.len, HD.out, fun k => by have := HBQ.out.bd k; omega⟩, bstep hB HBQ.out.below⟩
        | cons h t =>
          have hhn : h < N := H.out.1.low h (by simp)
          have hq := H.out.1.que.cell (k := 0) (x := h) rfl
          obtain ⟨ro, rc, c1, hnr⟩ : ∃ ro rc, wr.cell? ⟨w.heap.size, h, none⟩ = some (.slice ro (nextsM (flipTo rows N) h).length rc) ∧ Nats w2 (.slice ro (nextsM (flipTo rows N) h).length rc) (nextsM (flipTo rows N) h) := by
            obtain ⟨rb, roff, e1, hrlt, ro, rc, c0, hnr⟩ := rows_get HM.out.rows (nxRows_get (flipTo rows N) hhn)
            cases e1
            rw [Nat.zero_add] at c0
            exact ⟨ro, rc, (H.out.1.below.cell (p := ⟨w.heap.size, h, none⟩) hrlt).trans c0, hnr⟩
          have HRR := Lib.hid (hNX.out h hhn)
          have hrl := hNL.out h
          obtain ⟨r, hr⟩ : ∃ r, nextsM (flipTo rows N) h = r := ⟨_, rfl⟩
          rw [hr] at HRR c1 hnr hrl
          have HNR := Lib.hid hnr
          have HG := Lib.hid hgk
          have h0 : (0 : Int) ≤ (h : Int) := Int.natCast_nonneg _
          have h1 : (h : Int) < (N : Int) := by omega
          unfold natf at hq
          rw [Nat.add_zero] at hq
          clear hr hnr hgk
          go_wp2
          clear hq c1
          go_loopw [11, 13, 63] (fun s11 _ s63 wr2 => ∃ (j : Nat) (g off cp : Nat) (t' : List Nat) (A' : List Int), s63 = .int .i64 j ∧ j ≤ r.length ∧ s11 = .slice (some ⟨g, off, none⟩) (t'.length + 1) cp ∧
              Hid (BQ w2 GA capA N wr2 g off cp (h :: t') A' ∧ Bfe es b (ofList A') h t' (r.take j) ∧ 2 * neg A' + t'.length + 1 ≤ gk)) (fun _ _ s63 _ => r.length - (intOf s63).toNat)
          case atStart => exact ⟨0, g, off, cp, t, A, rfl, Nat.zero_le _, rfl, H.out.1, Bfe.start H.out.2, by have := HG.out; simp only [List.length_cons] at this; omega⟩
          case round =>
            clear H HG
            obtain ⟨j, g, off, cp, t', A', rfl, hj, rfl, H⟩ := hrel
            by_cases hjl : j < r.length
            · obtain ⟨k, hi⟩ : ∃ i, r[j]? = some i := ⟨_, List.getElem?_eq_getElem hjl⟩
              obtain ⟨b3, off3, rfl, hb3, hc3⟩ := nats_get HNR.out hi
              have hci := (H.out.1.below.cell (p := ⟨b3, off3 + j, none⟩) hb3).trans hc3
              have hui := (HRR.out k).1 (List.mem_of_getElem? hi)
              have hkl : k < N := by obtain ⟨q, hq⟩ := List.mem_iff_getElem?.1 hui; exact (HE.out q _ hq).1
              have HUI := Lib.hid hui
              have HTK := Lib.hid (show r.take (j + 1) = r.take j ++ [k] by
                rw [List.take_succ_eq_append_getElem hjl, (List.getElem?_eq_some_iff.1 hi).2])
              have k0 : (0 : Int) ≤ (k : Int) := Int.natCast_nonneg _
              have k1 : (k : Int) < (N : Int) := by omega
              have HQ9 := Lib.hid H.out.1
              obtain ⟨zk, hzk⟩ : ∃ z, A'[k]? = some z := ⟨_, List.getElem?_eq_getElem (by rw [HQ9.out.len]; exact hkl)⟩
              obtain ⟨zh, hzh⟩ : ∃ z, A'[h]? = some z := ⟨_, List.getElem?_eq_getElem (by rw [HQ9.out.len]; exact hhn)⟩
              have ck := HQ9.out.own.cell hzk
              have ch := HQ9.out.own.cell hzh
              have fk := HQ9.out.own.free k
              have hq9 := HQ9.out.que.cell (k := 0) (x := h) rfl
              have bh1 := H.out.2.1.all.seen h (by simp)
              have bh2 := HQ9.out.bd h
              rw [ofList_get hzh] at bh1 bh2
              have bzh : 0 ≤ zh ∧ zh ≤ 60 := by omega
              have HZK := Lib.hid hzk
              have HZH := Lib.hid hzh
              have HB2 := Lib.hid bh2
              have HJ := Lib.hid H.out.2
              unfold intf at ck ch
              unfold natf at hq9
              rw [Nat.add_zero] at hq9
              have hw1 : IntKind.i64.wrap (zh + 1) = zh + 1 := IntWalk.i64_in _ (by omega)
              clear hi hc3 hui hzk hzh bh1 bh2 H
              by_cases hz : zk < 0
              · have HZ := Lib.hid hz
                have hnegA := neg_set A' k zk (zh + 1) HZK.out hz (by omega)
                have HNG := Lib.hid hnegA
                have hlen1 : (h :: t').length + 1 ≤ 1099511627776 := by
                  have := HJ.out.2
                  simp only [List.length_cons]
                  omega
                have hbase := HQ9.out.below.size
                have hqs : Que (wr.setCell ⟨GA, k, none⟩ (.int .i64 (zh + 1))) w2.heap.size 3 natf g off cp (h :: t') := HQ9.out.que.only (only_set wr GA k (.int .i64 (zh + 1))) (by
                  intro e
                  injection e with e
                  exact HQ9.out.ne e)
                have HQS := Lib.hid hqs
                clear hnegA hqs
                go_wp2_with (at_builtin; refine wpList_pushQ (wr.setCell ⟨GA, k, none⟩ (.int .i64 (zh + 1))) rfl _ _ 24 rfl 3 8 elemInt w2.heap.size natf g off cp (h :: t') k (fun _ => rfl) HQS.out rfl wr.heap.size (by simp) rfl hlen1 (by omega) (by simpa using hbase) ?_; intro g' off' cap' w' hq' hg' hat')
                go_roundw
                case rel =>
                  have hA := HJ.out.1
                  have hn1 : ofList A' k < 0 := by rw [ofList_get HZK.out]; exact HZ.out
                  have hnew := Bfe.new hA HUI.out hn1
                  rw [ofList_get HZH.out, ← ofList_set (A := A') (by rw [HQ9.out.len]; exact hkl), ← HTK.out] at hnew
                  have hfin : Hid (BQ w2 GA capA N w' g' off' cap' (h :: (t' ++ [k])) (A'.set k (zh + 1)) ∧ Bfe es b (ofList (A'.set k (zh + 1))) h (t' ++ [k]) (r.take (j + 1)) ∧ 2 * neg (A'.set k (zh + 1)) + (t' ++ [k]).length + 1 ≤ gk) := by
                    refine ⟨BQ.push HQ9.out HZK.out HZ.out (by omega) (by have := HB2.out; omega) hq' hg' hat', hnew, ?_⟩
                    have h1 := HNG.out
                    have h2 := HJ.out.2
                    simp only [List.length_append, List.length_singleton]
                    omega
                  (repeat apply Exists.intro)
                  exact ⟨⟨j + 1, g', off', cap', t' ++ [k], A'.set k (zh + 1), by go_num, by omega, by simp, hfin⟩, rfl⟩
                case measure => simp [intOf]; omega
              · go_wp2
                go_roundw
                case rel =>
                  have hold := Bfe.old HJ.out.1 (i := k) (by rw [ofList_get HZK.out]; omega)
                  rw [← HTK.out] at hold
                  exact ⟨j + 1, g, off, cp, t', A', by go_num, by omega, rfl, HQ9.out, hold, HJ.out.2⟩
                case measure => simp [intOf]; omega
            · have hjr : j = r.length := by omega
              have hcp := H.out.1.que.len.1
              simp only [List.length_cons] at hcp
              have HN : Hid (Bfd es b (ofList A') t') := by
                refine Bfe.next H.out.2.1 (fun i h1 => ?_)
                rw [List.take_of_length_le (by omega)]
                exact (HRR.out i).2 h1
              have HMM := Lib.hid H.out.2.2
              have HBQ := Lib.hid H.out.1
              clear H
              by_cases hc1 : cp = 1
              · subst hc1
                have ht0 : t'.length = 0 := by omega
                have HT0 := Lib.hid ht0
                clear ht0 hcp
                go_wp2
                go_roundg (gk - 1)
                case measure => have := HMM.out; omega
                case rel => exact ⟨g, off, 0, t', A', rfl, ⟨HBQ.out.last, HN.out⟩, by have := HMM.out; omega, by omega⟩
              · go_wp2
                go_roundg (gk - 1)
                case measure => have := HMM.out; omega
                case rel => exact ⟨g, off + 1, cp - 1, t', A', rfl, ⟨HBQ.out.tail, HN.out⟩, by have := HMM.out; omega, by omega⟩
end
section
set_option linter.unusedVariables false

open Classical in
/-- How far each node is from b (the one function that is). -/
noncomputable def farD (es : List (Nat × Nat)) (b : Nat) : Nat → Int := if h : ∃ d, IsFar es b d then h.choose else fun _ => -1
theorem farD_eq {es : List (Nat × Nat)} {b : Nat} {d : Nat → Int} (h : IsFar es b d) : farD es b = d := by
  unfold farD
  rw [dif_pos ⟨d, h⟩]
  exact IsFar.unique (Exists.choose_spec (⟨d, h⟩ : ∃ d, IsFar es b d)) h

def leastStep (d : Nat → Int) (m : Int) (k : Nat) : Int := if 0 ≤ d k ∧ (m < 0 ∨ d k < m) then d k else m
def leastM (d : Nat → Int) (l : List Nat) : Int := l.foldl (leastStep d) (-1)
def loopWalk (n : Nat) (es : List (Nat × Nat)) (d : Nat → Int) : Nat → Nat → List Nat
  | 0, _ => []
  | f + 1, at_ => match (nextsS n es at_).find? (fun k => d k == ((f + 1 : Nat) : Int)) with
    | some k => k :: loopWalk n es d f k
    | none => []
def loopAt (n : Nat) (es : List (Nat × Nat)) (d : Nat → Int) (s : Nat) : Option (List Nat) :=
  if leastM d (nextsS n es s) < 0 then none else some (s :: loopWalk n es d (leastM d (nextsS n es s)).toNat s)
noncomputable def loopFrom (n : Nat) (es : List (Nat × Nat)) : Nat → Option (List Nat)
  | 0 => none
  | k + 1 => match loopFrom n es k with
    | some l => some l
    | none => loopAt n es (farD es k) k
noncomputable def loopOf (n : Nat) (es : List (Nat × Nat)) : Option (List Nat) := loopFrom n es n
theorem loopFrom_some {n : Nat} {es : List (Nat × Nat)} {k : Nat} {l : List Nat} (h : loopFrom n es k = some l) : ∀ m, k ≤ m → loopFrom n es m = some l := by
  intro m
  induction m with
  | zero => intro hk; have : k = 0 := by omega
            subst this; exact h
  | succ m ih =>
    intro hk
    rcases Nat.lt_or_ge m k with hlt | hge
    · have : k = m + 1 := by omega
      subst this; exact h
    · rw [loopFrom, ih hge]

theorem leastM_snoc (d : Nat → Int) (l : List Nat) (k : Nat) : leastM d (l ++ [k]) = leastStep d (leastM d l) k := by
  unfold leastM
  rw [List.foldl_append]; rfl
/-- The least is -1, or it is reached. -/
theorem leastM_is (d : Nat → Int) : ∀ l : List Nat, leastM d l = -1 ∨ (0 ≤ leastM d l ∧ ∃ k ∈ l, d k = leastM d l) := by
  intro l
  refine snoc_ind (p := fun l => leastM d l = -1 ∨ (0 ≤ leastM d l ∧ ∃ k ∈ l, d k = leastM d l)) (.inl rfl) (fun l k ih => ?_) l
  rw [leastM_snoc]
  unfold leastStep
  split
  · next h => exact .inr ⟨h.1, k, by simp, rfl⟩
  · rcases ih with h | ⟨h1, x, hx, h2⟩
    · exact .inl h
    · exact .inr ⟨h1, x, by simp [hx], h2⟩
theorem loopWalk_step {n : Nat} {es : List (Nat × Nat)} {d : Nat → Int} {f x k : Nat} (hf : (nextsS n es x).find? (fun k => d k == ((f + 1 : Nat) : Int)) = some k) : loopWalk n es d (f + 1) x = k :: loopWalk n es d f k := by
  rw [loopWalk, hf]
theorem find_at {l : List Nat} {p : Nat → Bool} (h : ∃ k ∈ l, p k = true) : ∃ (j k : Nat), l[j]? = some k ∧ p k = true ∧ (∀ (i y : Nat), i < j → l[i]? = some y → p y = false) ∧ l.find? p = some k := by
  cases hf : l.find? p with
  | none =>
    obtain ⟨k, hk, hp⟩ := h
    have := List.find?_eq_none.1 hf k hk
    exact absurd hp this
  | some k =>
    obtain ⟨hp, i, hi, rfl, hno⟩ := List.find?_eq_some_iff_getElem.1 hf
    refine ⟨i, _, List.getElem?_eq_getElem hi, hp, fun i' y hi' hy => ?_, rfl⟩
    have := hno i' hi'
    obtain ⟨h1, rfl⟩ := List.getElem?_eq_some_iff.1 hy
    simpa using this
end
section
open Go.RowKit
set_option linter.unusedVariables false
attribute [local go_sem ↓] Go.wp_at_zero Go.wp_at_succ

set_option maxHeartbeats 400000 in
theorem loopFn_any (X8 X9 GA n capA k : Nat) (z m : Int) (w : World) (h8 : w.cell? ⟨X8, 0, none⟩ = some (.slice (some ⟨GA, 0, none⟩) n capA)) (h9 : w.cell? ⟨X9, 0, none⟩ = some (.int .i64 m)) (hc : w.cell? ⟨GA, k, none⟩ = some (.int .i64 z)) (hk : k < n) (hn : n ≤ 100000) :
    Calls Tryz.prog 75 #[.int .i64 (k : Int), .pointer (some ⟨X8, 0, none⟩), .pointer (some ⟨X9, 0, none⟩)] w fun e w' => e = .returned (.bool (z == m)) ∧ Below w.heap.size w w' := by
  have k0 : (0 : Int) ≤ (k : Int) := Int.natCast_nonneg _
  have k1 : (k : Int) < (n : Int) := by omega
  by_cases hz : z = m
  · have e := beq_yes hz
    go_enter Tryz.func75, Tryz.ntmps75
    go_wp2
    go_quiet (fail)
    go_wp2
    go_ret
    exact ⟨ret_bool e.symm, bdraw _⟩
  · have e := beq_no hz
    go_enter Tryz.func75, Tryz.ntmps75
    go_wp2
    go_quiet (fail)
    go_wp2
    go_ret
    exact ⟨ret_bool e.symm, bdraw _⟩

theorem loopIdx (X8 X9 GA n capA : Nat) (A : List Int) (m : Int) (l : List Nat) (v : Value) (w : World) (h8 : w.cell? ⟨X8, 0, none⟩ = some (.slice (some ⟨GA, 0, none⟩) n capA)) (h9 : w.cell? ⟨X9, 0, none⟩ = some (.int .i64 m))
    (hc : ∀ k z, A[k]? = some z → w.cell? ⟨GA, k, none⟩ = some (.int .i64 z)) (h8l : X8 < w.heap.size) (h9l : X9 < w.heap.size) (hgl : GA < w.heap.size) (hA : A.length = n) (hn : n ≤ 100000) (hl : Nats w v l) (hll : l.length ≤ 100000) (hk : ∀ k ∈ l, k < n)
    (j k : Nat) (hj : l[j]? = some k) (hp : ofList A k = m) (hno : ∀ (i y : Nat), i < j → l[i]? = some y → ofList A y ≠ m) :
    Calls Tryz.prog 65 #[v, .func (.func 75) #[] #[.pointer (some ⟨X8, 0, none⟩), .pointer (some ⟨X9, 0, none⟩)]] w fun e w' => e = .returned (.int .i64 (j : Int)) ∧ Below w.heap.size w w' := by
  have hpr : IntPred 75 #[.pointer (some ⟨X8, 0, none⟩), .pointer (some ⟨X9, 0, none⟩)] (fun x => ofList A x.toNat == m) (l.map fun k : Nat => (k : Int)) w := by
    refine ⟨fun xs W => by go_simp, fun x W hx hW => ?_⟩
    obtain ⟨k', hk', rfl⟩ := List.mem_map.1 hx
    obtain ⟨z, hz⟩ : ∃ z, A[k']? = some z := ⟨_, List.getElem?_eq_getElem (by have := hk k' hk'; omega)⟩
    have := loopFn_any X8 X9 GA n capA k' z m W ((hW.cell (p := ⟨X8, 0, none⟩) h8l).trans h8) ((hW.cell (p := ⟨X9, 0, none⟩) h9l).trans h9) ((hW.cell (p := ⟨GA, k', none⟩) hgl).trans (hc k' z hz)) (hk k' hk') hn
    simp only [Int.toNat_natCast]
    rw [ofList_get hz]
    exact this
  refine (indexInts_any _ _ _ v _ w hl.ints (by simp; omega) hpr).mono ?_
  rintro e w' ⟨⟨i, rfl, hi⟩, hb⟩
  have := hi.is (j := j) (x := (k : Int)) (by rw [List.getElem?_map, hj]; rfl) (by simpa using hp) (fun q y hq hy => by
    rw [List.getElem?_map] at hy
    obtain ⟨y', hy', rfl⟩ := Option.map_eq_some_iff.1 hy
    simpa using hno q y' hq hy')
  subst this
  exact ⟨rfl, hb⟩

structure LP (W4 : World) (X9 : Nat) (m : Int) (v : Value) (out : List Nat) (wr : World) : Prop where
  low : Below X9 W4 wr
  box : wr.heap[X9]? = some (.cells #[.int .i64 m] 3 (0, 0))
  out_ : Own wr (X9 + 1) 3 natf v out
theorem LP.lt {W4 : World} {X9 : Nat} {m : Int} {v : Value} {out : List Nat} {wr : World} (h : LP W4 X9 m v out wr) : X9 < wr.heap.size := (Array.getElem?_eq_some_iff.1 h.box).1
theorem LP.cell {W4 : World} {X9 : Nat} {m : Int} {v : Value} {out : List Nat} {wr : World} (h : LP W4 X9 m v out wr) : wr.cell? ⟨X9, 0, none⟩ = some (.int .i64 m) := by simp [World.cell?, h.box]
theorem LP.free {W4 : World} {X9 : Nat} {m : Int} {v : Value} {out : List Nat} {wr : World} (h : LP W4 X9 m v out wr) : wr.frozen? ⟨X9, 0, none⟩ = false := by simp [World.frozen?, h.box]
theorem LP.set {W4 : World} {X9 : Nat} {m : Int} {v : Value} {out : List Nat} {wr : World} (h : LP W4 X9 m v out wr) (m' : Int) : LP W4 X9 m' v out (wr.setCell ⟨X9, 0, none⟩ (.int .i64 m')) := by
  refine ⟨h.low.setCell (p := ⟨X9, 0, none⟩) (Nat.le_refl _) _, ?_, h.out_.only (only_set wr X9 0 (.int .i64 m')) (fun g hg e => ?_)⟩
  · have := heap_setCell_same wr X9 0 _ _ (.int .i64 m') h.box
    simpa using this
  · injection e with e
    have := (h.out_.lt g hg).1
    omega
theorem LP.push {W4 : World} {X9 : Nat} {m : Int} {v v' : Value} {out out' : List Nat} {wr w3 : World} (h : LP W4 X9 m v out wr) (ho : Own w3 (X9 + 1) 3 natf v' out') (hg : wr.grownBy w3 v.ownBlock) : LP W4 X9 m v' out' w3 := by
  have hl := h.lt
  refine ⟨below_grown h.low hg (by omega) (fun g e => by have := (h.out_.lt g e).1; omega), ?_, ho⟩
  rw [hg.block X9 hl (fun e => by have := (h.out_.lt _ e.symm).1; omega)]
  exact h.box
theorem LP.below {W4 : World} {X9 : Nat} {m : Int} {v : Value} {out : List Nat} {wr w3 : World} (h : LP W4 X9 m v out wr) (hb : Below wr.heap.size wr w3) : LP W4 X9 m v out w3 := by
  have hl := h.lt
  exact ⟨h.low.trans (hb.mono (by omega)), (hb.block X9 hl).trans h.box, h.out_.below hb⟩
theorem LP.draw {W4 : World} {X9 : Nat} {m : Int} {v : Value} {out : List Nat} {wr : World} (h : LP W4 X9 m v out wr) (q : Nat) : LP W4 X9 m v out (wr.drewN q) := h.below (bdraw q)

def LoopPost (w : World) (n : Nat) (es : List (Nat × Nat)) (e : Ending) (w' : World) : Prop :=
  (match loopOf n es with
    | some L => ∃ v, e = .returned (.tuple #[v, .int .i64 0]) ∧ Own w' w.heap.size 3 natf v L
    | none => e = .returned (.tuple #[.slice none 0 0, .int .i64 12])) ∧ Below w.heap.size w w'

set_option maxRecDepth 100000 in
set_option maxHeartbeats 4000000 in
theorem loop_any (n : Nat) (v : Value) (es : List (Nat × Nat)) (w : World) (hg : Dg w n v es) :
    Calls Tryz.prog 45 #[.int .i64 (n : Int), v] w (LoopPost w n es) := by
  have hn := hg.n_le
  have HG := Lib.hid hg
  have HVL := Lib.hid (dvalid_any (n : Int) v (cst es) w hg.pairs (by rw [cst_len]; have := hg.m_le; omega))
  rw [hg.ok] at HVL
  obtain ⟨eao, ecap, rfl, _⟩ := HG.out.pairs.open_
  clear hg
  go_enter Tryz.func45, Tryz.ntmps45
  go_wp2_with fail
  refine HVL.out.mono ?_
  rintro e w1 ⟨rfl, hB1⟩
  have HNX := Lib.hid (nexts_any n _ es w1 (HG.out.below hB1))
  clear HVL
  go_wp2_with fail
  refine HNX.out.mono ?_
  rintro e w2 ⟨⟨V, rfl, hM⟩, hB2⟩
  obtain ⟨ao, cap, rfl⟩ := hM.rows.at
  rw [nxS_len]
  have hR := hM.rows
  rw [nxS_len] at hR
  have HR := Lib.hid hR
  have hB := bstep hB1 hB2
  clear HNX hM hR hB1 hB2
  go_wp2_with fail
  go_loopw [7, 22] (fun _ s22 wr => ∃ s : Nat, s ≤ n ∧ s22 = .int .i64 (s : Int) ∧ Hid (loopFrom n es s = none ∧ Below w2.heap.size w2 wr)) (fun _ s22 _ => n - (intOf s22).toNat)
  case atStart => exact ⟨0, Nat.zero_le _, rfl, rfl, Below.refl _ _⟩
  case round =>
    obtain ⟨s, hs, rfl, H⟩ := hrel
    by_cases hlt : s < n
    · have HFA := Lib.hid (far_any n s (.slice ao n cap) es wr hn HG.out.ends hlt (HR.out.below H.out.2))
      obtain ⟨rb, roff, hrx, hrlt, ro, rc, c0, hnr⟩ := rows_get HR.out (nxS_get es hlt)
      cases hrx
      have hrl := nextsS_len n es s
      have s0 : (0 : Int) ≤ (s : Int) := Int.natCast_nonneg _
      have s1 : (s : Int) < (n : Int) := by omega
      obtain ⟨wa, rfl⟩ : ∃ wa : World, wa = wr := ⟨_, rfl⟩
      have HNR := Lib.hid hnr
      clear hnr
      go_wp2_with fail
      refine HFA.out.mono ?_
      rintro e w3 ⟨⟨u, A, rfl, hown, hlen, hfar, hbd⟩, hB3⟩
      obtain ⟨GA, capA, rfl, g1, g2, g3⟩ := hown.form (by omega)
      rw [hlen] at hown ⊢
      have HD := Lib.hid (farD_eq hfar)
      have HFAR := Lib.hid hfar
      have HBD := Lib.hid hbd
      obtain ⟨W4, hW4⟩ : ∃ W4, (w3.alloc (.cells #[.slice (some ⟨GA, 0, none⟩) n capA] 24)).alloc (.cells #[.int .i64 (-1)] 3) = W4 := ⟨_, rfl⟩
      obtain ⟨X8, hX8⟩ : ∃ X8, w3.heap.size = X8 := ⟨_, rfl⟩
      have hsz4 : W4.heap.size = X8 + 2 := by rw [← hW4, ← hX8]; simp
      have HLP : Hid (LP W4 (X8 + 1) (-1) (.slice none 0 0) [] W4) := by
        refine ⟨Below.refl _ _, ?_, Own.nil _ _ _ _⟩
        rw [← hW4, ← hX8]
        have := heap_alloc_new (w3.alloc (.cells #[.slice (some ⟨GA, 0, none⟩) n capA] 24)) (.cells #[.int .i64 (-1)] 3)
        simpa using this
      have hGX : GA < X8 := by rw [← hX8]; exact (hown.lt GA rfl).2
      have H8 : Hid (W4.cell? ⟨X8, 0, none⟩ = some (.slice (some ⟨GA, 0, none⟩) n capA)) := by
        rw [← hW4, ← hX8]
        rw [World.cell?_alloc_lt _ _ _ (by simp), World.cell?_alloc_at _ _ _ _ rfl]; rfl
      have HA : Hid (∀ k z, A[k]? = some z → W4.cell? ⟨GA, k, none⟩ = some (.int .i64 z)) := by
        intro k z hz
        rw [← hW4]
        exact ((hown.alloc _).alloc _).cell hz
      have hB34 : Below w3.heap.size w3 W4 := by rw [← hW4]; exact (below_new _ _).alloc (by simp) _
      have HB4 : Hid (Below w2.heap.size w2 W4) := bstep (bstep H.out.2 hB3) hB34
      have hrx4 := (bstep hB3 hB34).size
      have c1 : (w3.alloc (.cells #[.slice (some ⟨GA, 0, none⟩) n capA] 24)).cell? ⟨rb, roff + s, none⟩ = some (.slice ro (nextsS n es s).length rc) := by
        have hlt3 := (bstep H.out.2 hB3).size
        exact (World.cell?_alloc_lt w3 _ ⟨rb, roff + s, none⟩ (by simp; omega)).trans (((bstep H.out.2 hB3).cell (p := ⟨rb, roff + s, none⟩) hrlt).trans c0)
      have c2 : W4.cell? ⟨rb, roff + s, none⟩ = some (.slice ro (nextsS n es s).length rc) := (HB4.out.cell (p := ⟨rb, roff + s, none⟩) hrlt).trans c0
      clear hown hfar hbd HFA c0 c1
      go_wp2_with fail
      clear c2 hW4
      go_loopw [11, 33] (fun _ s33 wr => ∃ t : Nat, t ≤ (nextsS n es s).length ∧ s33 = .int .i64 (t : Int) ∧ Hid (LP W4 (X8 + 1) (leastM (ofList A) ((nextsS n es s).take t)) (.slice none 0 0) [] wr)) (fun _ s33 _ => (nextsS n es s).length - (intOf s33).toNat)
      case atStart => exact ⟨0, Nat.zero_le _, rfl, HLP.out⟩
      case round =>
        clear HLP
        obtain ⟨t, ht, rfl, HT⟩ := hrel
        by_cases htl : t < (nextsS n es s).length
        · obtain ⟨k, hk⟩ : ∃ k, (nextsS n es s)[t]? = some k := ⟨_, List.getElem?_eq_getElem htl⟩
          have hkn : k < n := (nextsS_mem.1 (List.mem_of_getElem? hk)).1
          obtain ⟨b3, off3, rfl, hb3, hc3⟩ := nats_get HNR.out hk
          have hX2 := HB4.out.size
          have hbx : b3 < X8 + 1 := by have := (bstep H.out.2 hB3).size; omega
          have d1 := (HT.out.low.cell (p := ⟨b3, off3 + t, none⟩) hbx).trans ((HB4.out.cell (p := ⟨b3, off3 + t, none⟩) hb3).trans hc3)
          have d2 := (HT.out.low.cell (p := ⟨X8, 0, none⟩) (by simp)).trans H8.out
          obtain ⟨z, hz⟩ : ∃ z, A[k]? = some z := ⟨_, List.getElem?_eq_getElem (by omega)⟩
          have d3 := (HT.out.low.cell (p := ⟨GA, k, none⟩) (by simp; omega)).trans (HA.out k z hz)
          have d4 := HT.out.cell
          have d5 := HT.out.free
          have hzb := HBD.out k
          rw [ofList_get hz] at hzb
          have HZ := Lib.hid (ofList_get hz)
          have HST := Lib.hid (show leastM (ofList A) ((nextsS n es s).take (t + 1)) = leastStep (ofList A) (leastM (ofList A) ((nextsS n es s).take t)) k by
            rw [List.take_succ_eq_append_getElem htl, (List.getElem?_eq_some_iff.1 hk).2, leastM_snoc])
          have k0 : (0 : Int) ≤ (k : Int) := Int.natCast_nonneg _
          have k1 : (k : Int) < (n : Int) := by omega
          obtain ⟨m, hm⟩ : ∃ m, leastM (ofList A) ((nextsS n es s).take t) = m := ⟨_, rfl⟩
          rw [hm] at HT HST d4
          clear hk hc3 hm hz
          by_cases hz0 : 0 ≤ z
          · by_cases hm0 : m < 0
            · have HS := Lib.hid (show leastM (ofList A) ((nextsS n es s).take (t + 1)) = z by rw [HST.out]; unfold leastStep; rw [HZ.out, if_pos ⟨hz0, .inl hm0⟩])
              go_upto_region 12 with fail
              go_quiet (fail)
              go_wp2
              go_roundw
              case rel => exact ⟨t + 1, by omega, by go_num, by rw [HS.out]; exact (HT.out.draw _).set z⟩
              case measure => simp [intOf]; omega
            · by_cases hzm : z < m
              · have HS := Lib.hid (show leastM (ofList A) ((nextsS n es s).take (t + 1)) = z by rw [HST.out]; unfold leastStep; rw [HZ.out, if_pos ⟨hz0, .inr hzm⟩])
                go_upto_region 12 with fail
                go_quiet (fail)
                go_wp2
                go_roundw
                case rel => exact ⟨t + 1, by omega, by go_num, by rw [HS.out]; exact (HT.out.draw _).set z⟩
                case measure => simp [intOf]; omega
              · have HS := Lib.hid (show leastM (ofList A) ((nextsS n es s).take (t + 1)) = m by rw [HST.out]; unfold leastStep; rw [HZ.out, if_neg (fun h => by rcases h.2 with h | h <;> contradiction)])
                go_upto_region 12 with fail
                go_quiet (fail)
                go_wp2
                go_roundw
                case rel => exact ⟨t + 1, by omega, by go_num, by rw [HS.out]; exact HT.out.draw _⟩
                case measure => simp [intOf]; omega
          · have HS := Lib.hid (show leastM (ofList A) ((nextsS n es s).take (t + 1)) = m by rw [HST.out]; unfold leastStep; rw [HZ.out, if_neg (fun h => hz0 h.1)])
            go_upto_region 12 with fail
            go_quiet (fail)
            go_wp2
            go_roundw
            case rel => exact ⟨t + 1, by omega, by go_num, by rw [HS.out]; exact HT.out.draw _⟩
            case measure => simp [intOf]; omega
        · obtain rfl : t = (nextsS n es s).length := by omega
          rw [List.take_length] at HT
          obtain ⟨m, hm⟩ : ∃ m, leastM (ofList A) (nextsS n es s) = m := ⟨_, rfl⟩
          have hmi := leastM_is (ofList A) (nextsS n es s)
          rw [hm] at HT hmi
          have d4 := HT.out.cell
          have d5 := HT.out.free
          have HLA := Lib.hid (show loopAt n es (farD es s) s = if m < 0 then none else some (s :: loopWalk n es (ofList A) m.toNat s) by unfold loopAt; rw [HD.out, hm])
          have HMI := Lib.hid hmi
          clear hmi
          by_cases hm0 : m < 0
          · have HN := Lib.hid (show loopFrom n es (s + 1) = none by rw [loopFrom, H.out.1]; show loopAt n es (farD es s) s = none; rw [HLA.out, if_pos hm0])
            go_wp2
            go_roundw
            case rel =>
              exact ⟨s + 1, by omega, by go_num, HN.out, HB4.out.trans (HT.out.low.mono (by have := (bstep H.out.2 hB3).size; omega))⟩
            case measure => simp [intOf]; omega
          · rw [if_neg hm0] at HLA
            have HS1 := Lib.hid (show loopOf n es = some (s :: loopWalk n es (ofList A) m.toNat s) from loopFrom_some (k := s + 1) (by rw [loopFrom, H.out.1]; exact HLA.out) n (by omega))
            obtain ⟨M, rfl⟩ := Int.eq_ofNat_of_zero_le (show 0 ≤ m by omega)
            have HEX : Hid (∃ k ∈ nextsS n es s, ofList A k = (M : Int)) := by
              rcases HMI.out with h | ⟨_, k, hk, h⟩
              · omega
              · exact ⟨k, hk, h⟩
            have HL1 : Hid (LP W4 (X8 + 1) (M : Int) (.slice (some ⟨wr.heap.size, 0, none⟩) 1 1) [s] (wr.alloc (.cells #[.int .i64 (s : Int)] 3))) := by
              have hlt := HT.out.lt
              exact ⟨HT.out.low.alloc (by omega) _, (Below.heap_alloc wr _ _ hlt).trans HT.out.box, own_litA wr 3 natf s (X8 + 1 + 1) (by omega)⟩
            rw [show (M : Int).toNat = M from rfl] at HS1
            obtain ⟨wb, rfl⟩ : ∃ wb : World, wb = wr := ⟨_, rfl⟩
            clear hm HLA HMI
            go_wp2_with fail
            clear d4 d5
            go_loopg [12, 13] M (fun f s12 s13 wr => ∃ (x : Nat) (o : List Nat), s13 = .int .i64 (x : Int) ∧ x < n ∧ o.length + f ≤ M + 1 ∧ Hid (LP W4 (X8 + 1) (f : Int) s12 o wr ∧ o ++ loopWalk n es (ofList A) f x = s :: loopWalk n es (ofList A) M s ∧ ∃ k ∈ nextsS n es x, ofList A k = (f : Int)))
            case atStart => exact ⟨s, [s], rfl, hlt, by simp; omega, HL1.out, rfl, HEX.out⟩
            case round =>
              obtain ⟨x, o, rfl, hxn, hol, HI⟩ := hrel
              have d4 := HI.out.1.cell
              have d5 := HI.out.1.free
              have hXW := HI.out.1.lt
              by_cases hgk : gk = 0
              · subst hgk
                have HE := Lib.hid (show o = s :: loopWalk n es (ofList A) M s by have := HI.out.2.1; rw [loopWalk, List.append_nil] at this; exact this)
                have HW := Lib.hid (show Below w2.heap.size w2 wr from HB4.out.trans (HI.out.1.low.mono (by have := (bstep H.out.2 hB3).size; omega)))
                go_wp2
                go_ret2
                refine ⟨?_, bstep hB HW.out⟩
                rw [HS1.out]
                exact ⟨_, rfl, by rw [← HE.out]; exact HI.out.1.out_.mono (by have := HB4.out.size; have := hB.size; omega)⟩
              · obtain ⟨f, rfl⟩ : ∃ f, gk = f + 1 := ⟨gk - 1, by omega⟩
                obtain ⟨rb2, roff2, hrx2, hrlt2, ro2, rc2, c20, hnr2⟩ := rows_get HR.out (nxS_get es hxn)
                cases hrx2
                have hX2 := (bstep H.out.2 hB3).size
                have e1 := (HI.out.1.low.cell (p := ⟨rb, roff + x, none⟩) (by simp; omega)).trans ((HB4.out.cell (p := ⟨rb, roff + x, none⟩) hrlt2).trans c20)
                have hdd : ∃ k ∈ nextsS n es x, (fun k => ofList A k == ((f + 1 : Nat) : Int)) k = true := by
                  obtain ⟨k, hk, h⟩ := HI.out.2.2
                  exact ⟨k, hk, by simpa using h⟩
                obtain ⟨j, k, hj, hpk, hno, hfind⟩ := find_at hdd
                have hpk' : ofList A k = ((f + 1 : Nat) : Int) := by simpa using hpk
                have hmem := nextsS_mem.1 (List.mem_of_getElem? hj)
                have hWS := loopWalk_step hfind
                have HST := Lib.hid (show (o ++ [k]) ++ loopWalk n es (ofList A) f k = s :: loopWalk n es (ofList A) M s by
                  have := HI.out.2.1
                  rw [hWS] at this
                  rw [List.append_assoc]; exact this)
                have HNE : Hid (∃ k' ∈ nextsS n es k, ofList A k' = (f : Int)) := by
                  rcases HFAR.out.from_ k with h | ⟨_, h⟩ | ⟨_, k', h1, h2⟩
                  · omega
                  · omega
                  · exact ⟨k', nextsS_mem.2 ⟨by obtain ⟨q, hq⟩ := List.mem_iff_getElem?.1 h1; exact (HG.out.ends q _ hq).2, h1⟩, by omega⟩
                obtain ⟨b3, off3, rfl, hb3, hc3⟩ := nats_get hnr2 hj
                have hjl : j < (nextsS n es x).length := (List.getElem?_eq_some_iff.1 hj).1
                have e2 := (HI.out.1.low.cell (p := ⟨b3, off3 + j, none⟩) (by simp; omega)).trans ((HB4.out.cell (p := ⟨b3, off3 + j, none⟩) hb3).trans hc3)
                have HIX : Hid (∀ W, Below wr.heap.size wr W → Calls Tryz.prog 65 #[.slice (some ⟨b3, off3, none⟩) (nextsS n es x).length rc2, .func (.func 75) #[] #[.pointer (some ⟨X8, 0, none⟩), .pointer (some ⟨X8 + 1, 0, none⟩)]] W fun e w' => e = .returned (.int .i64 (j : Int)) ∧ Below W.heap.size W w') := by
                  intro W hW
                  have hWs := hW.size
                  refine loopIdx X8 (X8 + 1) GA n capA A ((f + 1 : Nat) : Int) (nextsS n es x) _ W ((hW.cell (p := ⟨X8, 0, none⟩) (by simp; omega)).trans ((HI.out.1.low.cell (p := ⟨X8, 0, none⟩) (by simp)).trans H8.out)) ((hW.cell (p := ⟨X8 + 1, 0, none⟩) hXW).trans HI.out.1.cell) (fun k z hz => (hW.cell (p := ⟨GA, k, none⟩) (by simp; omega)).trans ((HI.out.1.low.cell (p := ⟨GA, k, none⟩) (by simp; omega)).trans (HA.out k z hz))) (by omega) (by omega) (by omega) hlen (by omega) ?_ (by have := nextsS_len n es x; omega) (fun k hk => (nextsS_mem.1 hk).1) j k hj hpk' (fun i y hi hy => by have := hno i y hi hy; simpa using this)
                  have hbw : Below w2.heap.size w2 wr := HB4.out.trans (HI.out.1.low.mono (by omega))
                  exact hnr2.below (bstep hbw hW)
                have HHM := Lib.hid hmem
                have x0 : (0 : Int) ≤ (x : Int) := Int.natCast_nonneg _
                have x1 : (x : Int) < (n : Int) := by omega
                have j0 : (0 : Int) ≤ (j : Int) := Int.natCast_nonneg _
                have j1 : (j : Int) < ((nextsS n es x).length : Int) := by omega
                have hlen1 : o.length + 1 ≤ 1099511627776 := by
                  have h1 := leastM_is (ofList A) (nextsS n es s)
                  have := HBD.out k
                  have h2 := HEX.out
                  obtain ⟨q, _, hq⟩ := h2
                  have := HBD.out q
                  omega
                clear hdd hj hpk hno hfind hmem hWS hc3 c20 hnr2
                go_upto_region 20 with fail
                go_region_held3 (fun w' => w'.cell? ⟨rb, roff + x, none⟩ = some (.slice (some ⟨b3, off3, none⟩) (nextsS n es x).length rc2) ∧ w'.cell? ⟨b3, off3 + j, none⟩ = some (.int .i64 (k : Int)))
                  (first
                    | go_keep
                    | (go_split_ands
                       refine ⟨?_, ?_⟩
                       · exact (hb9.cell (p := ⟨rb, roff + x, none⟩) (show rb < wr.heap.size by omega)).trans e1
                       · exact (hb9.cell (p := ⟨b3, off3 + j, none⟩) (show b3 < wr.heap.size by omega)).trans e2))
                  ((go_at_call 65; refine (HIX.out _ ((Below.refl _ _).drew)).mono ?_; rintro e w9 ⟨rfl, hb9⟩))
                have HL9 := Lib.hid ((HI.out.1.below ((Below.refl _ _).drew)).below hb9)
                have hbase : X8 + 1 + 1 ≤ w9.heap.size := by have := HL9.out.lt; omega
                clear e1 e2 d4 d5
                go_wp2_with (at_builtin; refine wpList_push w9 rfl _ _ 24 rfl 3 8 elemInt (X8 + 1 + 1) natf _ o k rfl HL9.out.out_ rfl rfl hlen1 (by omega) hbase ?_; intro v' w' hown' hg' hat'; have HP := Lib.hid (HL9.out.push hown' hg'); have d6 := HP.out.cell; have d7 := HP.out.free)
                go_roundg f
                case measure => omega
                case rel =>
                  have e1 : ((f + 1 : Nat) : Int) - 1 = (f : Int) := by omega
                  have hset := HP.out.set (((f + 1 : Nat) : Int) - 1)
                  refine ⟨k, o ++ [k], rfl, HHM.out.1, by rw [List.length_append, List.length_singleton]; omega, ?_, HST.out, HNE.out⟩
                  rw [e1] at hset
                  have hMn : M ≤ n := by obtain ⟨q, _, hq⟩ := HEX.out; have := HBD.out q; omega
                  have hw : wrap64 (f : Int) = f := IntWalk.wrap64_in _ (by omega)
                  rw [hw]; exact hset
    · obtain rfl : n = s := by omega
      have HR0 := Lib.hid (show loopOf n es = none from H.out.1)
      go_wp2
      go_ret2
      exact ⟨by rw [HR0.out]; rfl, bstep hB H.out.2⟩
end
section
open Go.RowKit
set_option linter.unusedVariables false
attribute [local go_sem ↓] Go.wp_at_zero Go.wp_at_succ

def TopPost (w : World) (n : Nat) (es : List (Nat × Nat)) (e : Ending) (w' : World) : Prop :=
  (match orderOf n es with
    | some D => ∃ v, e = .returned (.tuple #[v, .int .i64 0]) ∧ Own w' w.heap.size 3 natf v D
    | none => e = .returned (.tuple #[.slice none 0 0, .int .i64 23])) ∧ Below w.heap.size w w'

set_option maxHeartbeats 400000 in
theorem ordTop_bad (n : Int) (v : Value) (l : List (Int × Int)) (w : World) (hp : Pairs w v l) (hl : l.length ≤ 140737488355328) (h : vldD n l = false) :
    Calls Tryz.prog 18 #[.int .i64 n, v] w fun e w' => e = .returned (.tuple #[.slice none 0 0, .int .i64 1]) ∧ Below w.heap.size w w' := by
  have HV := Lib.hid (dvalid_any n v l w hp hl)
  rw [h] at HV
  clear hp h
  go_enter Tryz.func18, Tryz.ntmps18
  go_wp2_with fail
  refine HV.out.mono ?_
  rintro e w1 ⟨rfl, hb⟩
  go_wp2
  go_ret2
  exact ⟨rfl, hb⟩

set_option maxHeartbeats 400000 in
theorem loopTop_bad (n : Int) (v : Value) (l : List (Int × Int)) (w : World) (hp : Pairs w v l) (hl : l.length ≤ 140737488355328) (h : vldD n l = false) :
    Calls Tryz.prog 45 #[.int .i64 n, v] w fun e w' => e = .returned (.tuple #[.slice none 0 0, .int .i64 1]) ∧ Below w.heap.size w w' := by
  have HV := Lib.hid (dvalid_any n v l w hp hl)
  rw [h] at HV
  clear hp h
  go_enter Tryz.func45, Tryz.ntmps45
  go_wp2_with fail
  refine HV.out.mono ?_
  rintro e w1 ⟨rfl, hb⟩
  go_wp2
  go_ret2
  exact ⟨rfl, hb⟩

set_option maxHeartbeats 400000 in
theorem ordTop_ok (n : Nat) (v : Value) (es : List (Nat × Nat)) (w : World) (hg : Dg w n v es) :
    Calls Tryz.prog 18 #[.int .i64 (n : Int), v] w (TopPost w n es) := by
  have HV := Lib.hid (dvalid_any (n : Int) v (cst es) w hg.pairs (by rw [cst_len]; have := hg.m_le; omega))
  rw [hg.ok] at HV
  have HG := Lib.hid hg
  clear hg
  go_enter Tryz.func18, Tryz.ntmps18
  go_wp2_with fail
  refine HV.out.mono ?_
  rintro e w1 ⟨rfl, hb⟩
  have HO := Lib.hid (order_any n v es w1 (HG.out.below hb))
  clear HV
  go_wp2_with fail
  refine HO.out.mono ?_
  rintro e w2 ⟨h1, hb2⟩
  have HB := Lib.hid (bstep hb hb2)
  have hsz := hb.size
  clear HO hb hb2
  cases ho : orderOf n es with
  | none =>
    rw [ho] at h1
    have HE := Lib.hid ho
    simp only at h1
    subst h1
    clear ho
    go_wp2
    go_ret2
    exact ⟨by rw [HE.out]; rfl, HB.out⟩
  | some D =>
    rw [ho] at h1
    have HE := Lib.hid ho
    obtain ⟨u, rfl, hu⟩ := h1
    have HU := Lib.hid (hu.mono hsz)
    clear ho hu
    go_wp2
    go_ret2
    exact ⟨by rw [HE.out]; exact ⟨_, rfl, HU.out⟩, HB.out⟩
end
end Go.Proofs.YtamogedpgkofjaaGreat
