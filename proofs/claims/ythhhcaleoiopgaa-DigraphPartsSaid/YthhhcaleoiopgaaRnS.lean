/-
  A region that draws its order: loads in any order, one store last.
-/
import Derived.Test.YthhhcaleoiopgaaRnd
namespace Go.Proofs.Ythhhcaleoiopgaa
open Go.RowKit Go.Shelf
set_option linter.unusedVariables false

section
variable {F : Fence} {n : Nat} {P : Program} {md : Region.Mode} {L : Array Oper} {s : Oper} {C : World → Prop}

structure Listed (L : Array Oper) (listed lo : Array Bool) : Prop where
  size : listed.size = L.size
  same : ∀ i, i < L.size → lo[i]? = listed[i]?
  last : lo[L.size]? = some false
theorem Listed.set {listed lo : Array Bool} (h : Listed L listed lo) {i : Nat} (hi : i < L.size) : Listed L (listed.setIfInBounds i true) (lo.setIfInBounds i true) := by
  refine ⟨by simpa using h.size, fun j hj => ?_, ?_⟩
  · by_cases e : i = j
    · subst e
      have h1 := h.same i hj
      have hs : i < listed.size := by rw [h.size]; exact hj
      have hlo : i < lo.size := by
        rw [Array.getElem?_eq_getElem hs] at h1
        exact (Array.getElem?_eq_some_iff.1 h1).1
      rw [Array.getElem?_setIfInBounds_self_of_lt hlo, Array.getElem?_setIfInBounds_self_of_lt hs]
    · rw [Array.getElem?_setIfInBounds_ne e, Array.getElem?_setIfInBounds_ne e]; exact h.same j hj
  · rw [Array.getElem?_setIfInBounds_ne (by omega)]; exact h.last
theorem Listed.get {listed lo : Array Bool} (h : Listed L listed lo) {i : Nat} (hi : i < L.size) (d : Bool) : lo.getD i d = listed.getD i d := by
  rw [Array.getD_eq_getD_getElem?, Array.getD_eq_getD_getElem?, h.same i hi]

/-- Everything is demanded by something later, and demands what is earlier. -/
structure Chain (md : Region.Mode) (L : Array Oper) (s : Oper) : Prop where
  up : ∀ i, i < L.size → ∃ j o, i < j ∧ (L.push s)[j]? = some o ∧ ∃ e ∈ o.after, e.on = i ∧ Region.binds md e = true
  low : ∀ (i : Nat) o, (L.push s)[i]? = some o → o.guard = none ∧ ∀ e ∈ o.after, e.on < i

def Closed (md : Region.Mode) (L : Array Oper) (listed : Array Bool) : Prop :=
  ∀ (j : Nat) o, L[j]? = some o → listed.getD j false = true → ∀ e ∈ o.after, Region.binds md e = true → listed.getD e.on false = true

theorem push_low {i : Nat} (hi : i < L.size) : (L.push s)[i]? = L[i]? := by rw [Array.getElem?_push]; simp [show i ≠ L.size by omega]
theorem push_last : (L.push s)[L.size]? = some s := by simp

/-- The store comes up only when all else has run. -/
theorem all_of_last {listed lo : Array Bool} (hR : Listed L listed lo) (hC : Chain md L s) (hcl : Closed md L listed) (hr : L.size ∈ Region.ready md (L.push s) lo) : ∀ i, i < L.size → listed.getD i false = true := by
  obtain ⟨_, o, ho, hall⟩ := mem_ready.1 hr
  rw [push_last] at ho
  cases ho
  have : ∀ d i, L.size - i = d → i < L.size → listed.getD i false = true := by
    intro d
    induction d using Nat.strongRecOn with
    | ind d ih =>
      intro i hd hi
      obtain ⟨j, o, hij, ho, e, he, hei, hb⟩ := hC.up i hi
      rcases Nat.lt_or_ge j L.size with hj | hj
      · have h1 := ih (L.size - j) (by omega) j rfl hj
        rw [push_low hj] at ho
        have := hcl j o ho h1 e he hb
        rwa [hei] at this
      · have hjm : j = L.size := by
          have := (Array.getElem?_eq_some_iff.1 ho).1
          simp at this; omega
        subst hjm
        rw [push_last] at ho
        cases ho
        have := hall e he hb
        rw [hei, hR.get hi] at this
        exact this
  exact fun i hi => this _ i rfl hi
theorem none_of_all {listed : Array Bool} (h : ∀ i, i < L.size → listed.getD i false = true) (hs : listed.size = L.size) : Region.ready md L listed = [] := by
  refine List.eq_nil_iff_forall_not_mem.2 fun j hj => ?_
  obtain ⟨h1, o, ho, _⟩ := mem_ready.1 hj
  have hjl := (Array.getElem?_eq_some_iff.1 ho).1
  have h2 := h j hjl
  rw [Array.getD_eq_getD_getElem?, Array.getElem?_eq_getElem (by omega)] at h1 h2
  simp at h1 h2
  rw [h1] at h2; cases h2
theorem all_of_none {listed : Array Bool} (hC : Chain md L s) (hs : listed.size = L.size) (h : Region.ready md L listed = []) : ∀ i, i < L.size → listed.getD i false = true := by
  intro i
  induction i using Nat.strongRecOn with
  | ind i ih =>
    intro hi
    cases hv : listed.getD i false with
    | true => rfl
    | false =>
      exfalso
      have : i ∈ Region.ready md L listed := by
        refine mem_ready.2 ⟨?_, L[i], Array.getElem?_eq_getElem hi, fun e he hb => ?_⟩
        · rw [Array.getD_eq_getD_getElem?, Array.getElem?_eq_getElem (by omega)] at hv ⊢
          simpa using hv
        · have hlt := (hC.low i L[i] (by rw [push_low hi]; exact Array.getElem?_eq_getElem hi)).2 e he
          exact ih e.on hlt (by omega)
      rw [h] at this
      cases this
theorem last_of_all {listed lo : Array Bool} (hR : Listed L listed lo) (hC : Chain md L s) (h : ∀ i, i < L.size → listed.getD i false = true) : L.size ∈ Region.ready md (L.push s) lo := by
  refine mem_ready.2 ⟨?_, s, push_last, fun e he hb => ?_⟩
  · rw [Array.getD_eq_getD_getElem?, hR.last]; rfl
  · have hlt := (hC.low L.size s push_last).2 e he
    rw [hR.get hlt]; exact h _ hlt
theorem low_ready {listed lo : Array Bool} (hR : Listed L listed lo) (hC : Chain md L s) {i : Nat} (hi : i < L.size) : i ∈ Region.ready md (L.push s) lo ↔ i ∈ Region.ready md L listed := by
  rw [mem_ready, mem_ready, push_low hi, hR.get hi]
  constructor
  · rintro ⟨h1, o, ho, h2⟩
    refine ⟨h1, o, ho, fun e he hb => ?_⟩
    have hlt := (hC.low i o (by rw [push_low hi]; exact ho)).2 e he
    have := h2 e he hb
    rwa [hR.get (by omega)] at this
  · rintro ⟨h1, o, ho, h2⟩
    refine ⟨h1, o, ho, fun e he hb => ?_⟩
    have hlt := (hC.low i o (by rw [push_low hi]; exact ho)).2 e he
    rw [hR.get (by omega)]; exact h2 e he hb
theorem ready_lt {lo : Array Bool} {i : Nat} (h : i ∈ Region.ready md (L.push s) lo) : i < L.size ∨ i = L.size := by
  obtain ⟨_, o, ho, _⟩ := mem_ready.1 h
  have := (Array.getElem?_eq_some_iff.1 ho).1
  simp at this; omega

theorem getD_set_or {listed : Array Bool} {i j : Nat} (h : listed.getD j false = true) : (listed.setIfInBounds i true).getD j false = true := by
  rw [Array.getD_eq_getD_getElem?] at h ⊢
  by_cases e : i = j
  · subst e
    have hl : i < listed.size := by
      rcases Nat.lt_or_ge i listed.size with h1 | h1
      · exact h1
      · rw [Array.getElem?_eq_none h1] at h; cases h
    rw [Array.getElem?_setIfInBounds_self_of_lt hl]; rfl
  · rw [Array.getElem?_setIfInBounds_ne e]; exact h
theorem Closed.set {listed : Array Bool} (h : Closed md L listed) {i : Nat} (hi : i ∈ Region.ready md L listed) : Closed md L (listed.setIfInBounds i true) := by
  intro j o ho hj e he hb
  refine getD_set_or ?_
  by_cases hji : i = j
  · subst hji
    obtain ⟨_, o', ho', hall⟩ := mem_ready.1 hi
    rw [ho] at ho'
    cases ho'
    exact hall e he hb
  · rw [Array.getD_eq_getD_getElem?, Array.getElem?_setIfInBounds_ne hji, ← Array.getD_eq_getD_getElem?] at hj
    exact h j o ho hj e he hb
theorem none_after {listed lo : Array Bool} (hR : Listed L listed lo) (h : ∀ i, i < L.size → listed.getD i false = true) : Region.ready md (L.push s) (lo.setIfInBounds L.size true) = [] := by
  refine List.eq_nil_iff_forall_not_mem.2 fun j hj => ?_
  have hjl := ready_lt hj
  obtain ⟨h1, _⟩ := mem_ready.1 hj
  have hlo : L.size < lo.size := (Array.getElem?_eq_some_iff.1 hR.last).1
  rcases hjl with hjl | rfl
  · rw [Array.getD_eq_getD_getElem?, Array.getElem?_setIfInBounds_ne (by omega), ← Array.getD_eq_getD_getElem?, hR.get hjl] at h1
    have h2 := h j hjl
    have hs := hR.size
    rw [Array.getD_eq_getD_getElem?, Array.getElem?_eq_getElem (by omega)] at h1 h2
    simp at h1 h2
    rw [h1] at h2; cases h2
  · rw [Array.getD_eq_getD_getElem?, Array.getElem?_setIfInBounds_self_of_lt hlo] at h1
    cases h1
theorem wanted_none {o : Oper} (h : o.guard = none) (y : Nat → Option Bool) : Region.wanted o y = true := by simp [Region.wanted, h]

theorem any_last {Q : Act → Prop} {Qn : Exit → Act → World → Prop} (hC : Chain md L s) (hQ : ∀ a w, C w → Q a → s.wpIn F n P a w (fun a w => Qn .normal a w) Qn)
    {listed lo : Array Bool} (hR : Listed L listed lo) (hall : ∀ i, i < L.size → listed.getD i false = true) (f : Nat) (a : Act) (w : World) (hw : C w) (h : Q a) :
    wpOpIn F n P (L.push s) Qn L.size (wpAnyIn F n P md (L.push s) Qn f (lo.setIfInBounds L.size true)) a w := by
  have hn := none_after (md := md) (s := s) hR hall
  unfold wpOpIn
  rw [push_last]
  simp only
  rw [if_pos (wanted_none (hC.low L.size s push_last).1 _)]
  refine Oper.wpIn_mono (fun a w h => ?_) (hQ a w hw h)
  cases f with
  | zero => exact ⟨hn, h⟩
  | succ f => exact ⟨fun _ => h, fun i hi => by rw [hn] at hi; cases hi⟩

theorem any_store {Q : Act → Prop} {Qn : Exit → Act → World → Prop} (hro : F.round = none) (hC : Chain md L s) (hQ : ∀ a w, C w → Q a → s.wpIn F n P a w (fun a w => Qn .normal a w) Qn) :
    ∀ (fuel : Nat) (listed lo : Array Bool) (a : Act) (w : World), C w → Closed md L listed → Listed L listed lo → wpAnyQIn F n P md L C Q fuel listed a → wpAnyIn F n P md (L.push s) Qn (fuel + 1) lo a w := by
  intro fuel
  induction fuel with
  | zero =>
    intro listed lo a w hw hcl hR h
    have hall := all_of_none hC hR.size h.1
    have hl := last_of_all hR hC hall
    refine ⟨fun h0 => (by rw [h0] at hl; cases hl), fun i hi => ?_⟩
    rcases ready_lt hi with hlt | rfl
    · rw [low_ready hR hC hlt, h.1] at hi; cases hi
    · exact any_last hC hQ hR hall 0 a w hw h.2
  | succ fuel ih =>
    intro listed lo a w hw hcl hR h
    refine ⟨fun h0 => ?_, fun i hi => ?_⟩
    · have hnone : Region.ready md L listed = [] := List.eq_nil_iff_forall_not_mem.2 fun j hj => by
        have hjl : j < L.size := by obtain ⟨_, o, ho, _⟩ := mem_ready.1 hj; exact (Array.getElem?_eq_some_iff.1 ho).1
        have := (low_ready hR hC hjl).2 hj
        rw [h0] at this; cases this
      have hl := last_of_all hR hC (all_of_none hC hR.size hnone)
      rw [h0] at hl; cases hl
    · rcases ready_lt hi with hlt | rfl
      · have hi' := (low_ready hR hC hlt).1 hi
        have h2 := h.2 i hi'
        obtain ⟨_, o, ho, _⟩ := mem_ready.1 hi'
        have hg := (hC.low i o (by rw [push_low hlt]; exact ho)).1
        unfold qOpIn at h2
        rw [ho] at h2
        simp only at h2
        rw [if_pos (wanted_none hg _)] at h2
        unfold wpOpIn
        rw [push_low hlt, ho]
        simp only
        rw [if_pos (wanted_none hg _)]
        exact Oper.wpIn_of_quiet hro hw (fun a' w' hw' h' => ih _ _ a' w' hw' (hcl.set hi') (hR.set hlt) h') h2.1 h2.2
      · have hall := all_of_last hR hC hcl hi
        exact any_last hC hQ hR hall _ a w hw (h.1 (none_of_all hall hR.size))

/-- **Loads in any order, one store last, within a round.** -/
theorem region_store_round {Q : Exit → Act → World → Prop} {id : Nat} {l : List Oper} {o : Oper} {ll : List Oper} {a : Act} {w : World} {r : Nat} (hro : F.round = none) (hm : P.follows .mixedOrders = true)
    (hll : ll = l ++ [o]) (hC : Chain .any l.toArray o) (hd : ∀ (i : Nat) (x : Oper), (l.toArray.push o)[i]? = some x → ∀ c, x.op ≠ .defer c) (hB : Region.lexB .any l.toArray = true)
    (h : wpQuietIn F n P l.toArray (fun w' => ∃ n, w' = w.drewN n) (fun a' => ∀ w', (∃ n, w' = w.drewN n) → o.wpIn F n P a' w' (fun a w => Q .normal a w) Q) l a) :
    (Code.region id ll.toArray true).wpIn (F.inRound r) n P Q a w := by
  subst hll
  have e : (l ++ [o]).toArray = l.toArray.push o := by simp
  rw [e]
  simp only [Region.lexB, Bool.and_eq_true] at hB
  refine wpIn_region_any hm (wpAny_round r hro hd _ _ _ _ ?_)
  have h1 := wpAnyQIn_lex (F := F) (n := n) (P := P) (md := .any) (ops := l.toArray) (C := fun w' => ∃ n, w' = w.drewN n) (Q := fun a' => ∀ w', (∃ n, w' = w.drewN n) → o.wpIn F n P a' w' (fun a w => Q .normal a w) Q) hB.1 l 0 (Array.replicate l.toArray.size false) a (by simp) (by simpa using hB.2) h
  have hcl : Closed .any l.toArray (Array.replicate l.toArray.size false) := by
    intro j o ho hj
    have hjs := (Array.getElem?_eq_some_iff.1 ho).1
    rw [Array.getD_eq_getD_getElem?, Array.getElem?_eq_getElem (by simpa using hjs)] at hj
    simp at hj
  have hls : Listed l.toArray (Array.replicate l.toArray.size false) (Array.replicate (l.toArray.push o).size false) := by
    refine ⟨by simp, fun i hi => ?_, by simp⟩
    have hi' : i < l.length := by simpa using hi
    simp [hi', show i < l.length + 1 by omega]
  have h2 := any_store (Qn := Q) hro hC (fun a w' hw h => h w' hw) _ _ _ a ({ w with drawn := w.drawn + 1 } : World) ⟨1, rfl⟩ hcl hls h1
  simpa using h2

/-- Chain and 'no defer', reckoned. -/
def chainB (md : Region.Mode) (ops : Array Oper) (m : Nat) : Bool :=
  ((List.range m).all fun i => (List.range (m + 1)).any fun j => decide (i < j) && ((ops[j]?).map fun o => o.after.toList.any fun e => e.on == i && Region.binds md e).getD false) &&
  ((List.range (m + 1)).all fun i => ((ops[i]?).map fun o => o.guard.isNone && (o.after.all fun e => decide (e.on < i)) && (match o.op with | .defer _ => false | _ => true)).getD false)
theorem chain_of (h : chainB md (L.push s) L.size = true) : Chain md L s ∧ ∀ (i : Nat) (x : Oper), (L.push s)[i]? = some x → ∀ c, x.op ≠ .defer c := by
  unfold chainB at h
  rw [Bool.and_eq_true, List.all_eq_true, List.all_eq_true] at h
  have hl : ∀ (i : Nat) (o : Oper), (L.push s)[i]? = some o → (o.guard.isNone && (o.after.all fun e => decide (e.on < i)) && (match o.op with | .defer _ => false | _ => true)) = true := fun i o ho => by
    have hi := (Array.getElem?_eq_some_iff.1 ho).1
    have := h.2 i (List.mem_range.2 (by simpa using hi))
    rw [ho] at this
    simpa using this
  refine ⟨⟨fun i hi => ?_, fun i o ho => ?_⟩, fun i o ho c hc => ?_⟩
  · have := h.1 i (List.mem_range.2 hi)
    rw [List.any_eq_true] at this
    obtain ⟨j, _, hj⟩ := this
    rw [Bool.and_eq_true] at hj
    cases ho : (L.push s)[j]? with
    | none => rw [ho] at hj; simp at hj
    | some o =>
      rw [ho] at hj
      have h2 := hj.2
      simp only [Option.map_some, Option.getD_some, List.any_eq_true] at h2
      obtain ⟨e, he, h3⟩ := h2
      rw [Array.mem_toList_iff] at he
      rw [Bool.and_eq_true] at h3
      exact ⟨j, o, by simpa using hj.1, ho, e, he, by simpa using h3.1, h3.2⟩
  · have := hl i o ho
    rw [Bool.and_eq_true, Bool.and_eq_true] at this
    refine ⟨by simpa using this.1.1, fun e he => ?_⟩
    have h2 := Array.all_eq_true_iff_forall_mem.1 this.1.2 e he
    simpa using h2
  · have := hl i o ho
    rw [Bool.and_eq_true] at this
    have h2 := this.2
    rw [hc] at h2
    cases h2

/-- The same, as it is used: the operations but the last are read off. -/
theorem region_store_round' {Q : Exit → Act → World → Prop} {id : Nat} {l : List Oper} {o : Oper} {ll : List Oper} {a : Act} {w : World} {r : Nat} (hro : F.round = none) (hm : P.follows .mixedOrders = true)
    (h1 : ll.dropLast = l) (h2 : ll.getLast? = some o) (hC : chainB .any (l.toArray.push o) l.toArray.size = true) (hB : Region.lexB .any l.toArray = true)
    (h : wpQuietIn F n P l.toArray (fun w' => ∃ n, w' = w.drewN n) (fun a' => ∀ w', (∃ n, w' = w.drewN n) → o.wpIn F n P a' w' (fun a w => Q .normal a w) Q) l a) :
    (Code.region id ll.toArray true).wpIn (F.inRound r) n P Q a w := by
  have hll : ll = l ++ [o] := by
    rw [← h1]
    rw [List.getLast?_eq_some_iff] at h2
    obtain ⟨ys, rfl⟩ := h2
    simp
  obtain ⟨hc, hd⟩ := chain_of hC
  exact region_store_round hro hm hll hc hd hB h
end
end Go.Proofs.Ythhhcaleoiopgaa
