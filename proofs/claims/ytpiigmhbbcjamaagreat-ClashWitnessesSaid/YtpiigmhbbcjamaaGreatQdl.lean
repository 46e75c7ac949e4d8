/-
  Regions that draw their order and store into what they load: loads first, as long as the store has not come up.
-/
import Derived.Test.YtpiigmhbbcjamaaGreatQbl
import Derived.Deep.RegionHeld3
import Derived.StillTail
namespace Go.Proofs.YtpiigmhbbcjamaaGreat
open Go Go.RowKit
set_option linter.unusedVariables false

section
variable {P : Program} {ops : Array Oper} {md : Region.Mode} {Q : Exit → Act → World → Prop} {S : World → Prop} {D : Nat}

/-- What is listed has all that it waits for listed. -/
def Cl (md : Region.Mode) (ops : Array Oper) (listed : Array Bool) : Prop :=
  listed.size = ops.size ∧ ∀ (j : Nat) oj, ops[j]? = some oj → listed.getD j false = true → ∀ e ∈ oj.after, Region.binds md e = true → listed.getD e.on false = true
theorem Cl.start : Cl md ops (Array.replicate ops.size false) := ⟨by simp, fun j oj _ h => by rw [getD_replicate_false] at h; cases h⟩
theorem Cl.set {listed : Array Bool} {i : Nat} (h : Cl md ops listed) (hr : i ∈ Region.ready md ops listed) : Cl md ops (listed.setIfInBounds i true) := by
  obtain ⟨hun, oi, hoi, hall⟩ := mem_ready.1 hr
  have keep : ∀ k, listed.getD k false = true → (listed.setIfInBounds i true).getD k false = true := fun k hk => by
    by_cases e : i = k
    · subst e
      have hlt : i < listed.size := by
        rcases Nat.lt_or_ge i listed.size with h1 | h1
        · exact h1
        · rw [Array.getD_eq_getD_getElem?, Array.getElem?_eq_none h1] at hk; cases hk
      simp [Array.getD_eq_getD_getElem?, hlt]
    · rw [getD_set_ne false e]; exact hk
  refine ⟨by simp [h.1], fun j oj hoj hj e he hb => ?_⟩
  by_cases e' : i = j
  · subst e'
    rw [hoi] at hoj
    cases hoj
    exact keep _ (hall e he hb)
  · rw [getD_set_ne false e'] at hj
    exact keep _ (h.2 j oj hoj hj e he hb)

/-- The operation waits, over others, for another one. -/
def chainW (md : Region.Mode) (ops : Array Oper) (d : Nat) : List Nat → Nat → Bool
  | [], i => Region.waitsFor md ops d i
  | q :: p, i => Region.waitsFor md ops d q && chainW md ops q p i
theorem wait_one {listed : Array Bool} (h : Cl md ops listed) {d q : Nat} (hw : Region.waitsFor md ops d q = true) (hq : listed.getD q false = false) : listed.getD d false = false ∧ d ∉ Region.ready md ops listed := by
  obtain ⟨od, hod, e, he, hb, hon⟩ := Region.waitsFor_spec hw
  subst hon
  constructor
  · cases hd : listed.getD d false with
    | false => rfl
    | true =>
      have := h.2 d od hod hd e he hb
      rw [hq] at this; cases this
  · intro hr
    obtain ⟨_, od', hod', hall⟩ := mem_ready.1 hr
    obtain rfl : od = od' := Option.some.inj (hod.symm.trans hod')
    have := hall e he hb
    rw [hq] at this; cases this
theorem wait_chain {listed : Array Bool} (h : Cl md ops listed) {i : Nat} (hi : listed.getD i false = false) : ∀ (p : List Nat) (d : Nat), chainW md ops d p i = true → listed.getD d false = false ∧ d ∉ Region.ready md ops listed
  | [], d, hw => wait_one h hw hi
  | q :: p, d, hw => by
    simp only [chainW, Bool.and_eq_true] at hw
    exact wait_one h hw.1 (wait_chain h hi p q hw.2).1

/-- Whatever order is picked, and S holds behind each operation till D has come up. -/
def wpAnyD (P : Program) (md : Region.Mode) (ops : Array Oper) (Q : Exit → Act → World → Prop) (S : World → Prop) (D : Nat) : Nat → Array Bool → Act → World → Prop
  | 0, listed, a, w => Region.ready md ops listed = [] ∧ Q .normal a w
  | f + 1, listed, a, w => (Region.ready md ops listed = [] → Q .normal a w) ∧
      ∀ i ∈ Region.ready md ops listed, wpOp P ops Q i (fun a' w' => ((listed.setIfInBounds i true).getD D false = true ∨ S w') ∧ wpAnyD P md ops Q S D f (listed.setIfInBounds i true) a' w') a w
theorem wpAny_of_D : ∀ (f : Nat) (listed : Array Bool) (a : Act) (w : World), wpAnyD P md ops Q S D f listed a w → wpAny P md ops Q f listed a w
  | 0, _, _, _, h => h
  | f + 1, _, _, _, h => ⟨h.1, fun i hi => wpOp_mono (fun a' w' h' => wpAny_of_D f _ a' w' h'.2) (h.2 i hi)⟩
theorem wpAnyD_first {i : Nat} {oi : Oper} {v : Value} (hi : ops[i]? = some oi) (hsel : ∀ (j : Nat) (o : Oper) cs b, ops[j]? = some o → o.op ≠ .select cs b)
    (hQ : ∀ c a w, Q (.panic c) (a.put oi.dst v) w → Q (.panic c) a w) (hDi : i ≠ D) (p : List Nat) (hp : chainW md ops D p i = true) :
    ∀ (fuel : Nat) (listed : Array Bool) (a : Act) (w : World), Cl md ops listed → listed.getD D false = false →
      (∀ j oj, ops[j]? = some oj → j ≠ i → listed.getD j true = false → (∀ e ∈ oj.after, Region.binds md e = true → e.on ≠ i) → oi.apart ops oj = true) →
      i ∈ Region.ready md ops listed → YieldsIf P ops S oi v a → S w →
      wpAnyD P md ops Q S D fuel (listed.setIfInBounds i true) (a.put oi.dst v) w → wpAnyD P md ops Q S D (fuel + 1) listed a w := by
  intro fuel
  induction fuel with
  | zero =>
    intro listed a w _ _ _ hr hy hS H
    refine ⟨fun h => (by rw [h] at hr; cases hr), fun j hj => ?_⟩
    by_cases hji : j = i
    · subst hji; exact hy.wpOp hi hS ⟨.inr hS, H⟩
    · have := ready_mono hj hji
      rw [H.1] at this
      cases this
  | succ fuel ih =>
    intro listed a w cl hD hfree hr hy hS H
    refine ⟨fun h => (by rw [h] at hr; cases hr), fun j hj => ?_⟩
    by_cases hji : j = i
    · subst hji; exact hy.wpOp hi hS ⟨.inr hS, H⟩
    · have h1 := H.2 j (ready_mono hj hji)
      obtain ⟨hjun, oj, hoj, hall⟩ := mem_ready.1 hj
      have hiun := (mem_ready.1 hr).1
      have hiunF : listed.getD i false = false := by
        cases h0 : listed.getD i false with
        | false => rfl
        | true => rw [getD_both hiun] at h0; cases h0
      have hnot : ∀ e ∈ oj.after, Region.binds md e = true → e.on ≠ i := fun e he hb heq => by
        have h2 := hall e he hb
        rw [heq, hiunF] at h2
        cases h2
      have hjD : j ≠ D := fun e => (wait_chain cl hiunF p D hp).2 (e ▸ hj)
      have h2 := wpOp_putIf hoj (hfree j oj hoj hji hjun hnot) (fun cs b => hsel i oi cs b hi) (fun cs b => hsel j oj cs b hoj) hQ hy h1
      have hfree' : ∀ k ok, ops[k]? = some ok → k ≠ i → (listed.setIfInBounds j true).getD k true = false →
          (∀ e ∈ ok.after, Region.binds md e = true → e.on ≠ i) → oi.apart ops ok = true := fun k ok hk hki hun hno => by
        refine hfree k ok hk hki ?_ hno
        by_cases hjk : j = k
        · subst hjk; exact hjun
        · rw [getD_set_ne true hjk] at hun; exact hun
      have hDj : (listed.setIfInBounds j true).getD D false = false := by rw [getD_set_ne false hjD]; exact hD
      refine wpOp_mono (fun a' w' h3 => ?_) h2
      have hS' : S w' := by
        rcases h3.2.1 with h4 | h4
        · rw [getD_set_ne false hjD, getD_set_ne false hDi, hD] at h4; cases h4
        · exact h4
      refine ⟨.inr hS', ih (listed.setIfInBounds j true) a' w' (cl.set hj) hDj hfree' (ready_mono hr (Ne.symm hji)) h3.1 hS' ?_⟩
      rw [Array.setIfInBounds_comm _ _ hji]
      exact h3.2.2
theorem wpAnyD_take {i : Nat} {oi : Oper} {v : Value} {fuel : Nat} {listed : Array Bool} {a : Act} {w : World} (p : List Nat) (hi : ops[i]? = some oi)
    (hB : (Region.noSelect ops && Region.free md ops listed i && (Region.ready md ops listed).contains i && decide (i ≠ D) && chainW md ops D p i && !listed.getD D false) = true)
    (hQ : ∀ c a w, Q (.panic c) (a.put oi.dst v) w → Q (.panic c) a w) (hcl : Cl md ops listed) (hy : YieldsIf P ops S oi v a) (hS : S w)
    (h : Cl md ops (listed.setIfInBounds i true) → wpAnyD P md ops Q S D fuel (listed.setIfInBounds i true) (a.put oi.dst v) w) : wpAnyD P md ops Q S D (fuel + 1) listed a w := by
  simp only [Bool.and_eq_true, decide_eq_true_eq, Bool.not_eq_true'] at hB
  obtain ⟨⟨⟨⟨⟨hs, hf⟩, hr⟩, hDi⟩, hp⟩, hD⟩ := hB
  have hr' : i ∈ Region.ready md ops listed := by simpa using hr
  exact wpAnyD_first hi (Region.noSelect_spec hs) hQ hDi p hp fuel listed a w hcl hD (Region.free_spec hi hf) hr' hy hS (h (hcl.set hr'))
/-- Each of those that may come up. -/
def AllD (P : Program) (md : Region.Mode) (ops : Array Oper) (Q : Exit → Act → World → Prop) (S : World → Prop) (D : Nat) (fuel : Nat) (listed : Array Bool) (a : Act) (w : World) (rs : List Nat) : Prop :=
  ∀ i ∈ rs, wpOp P ops Q i (fun a' w' => ((listed.setIfInBounds i true).getD D false = true ∨ S w') ∧ wpAnyD P md ops Q S D fuel (listed.setIfInBounds i true) a' w') a w
theorem AllD.nil {fuel : Nat} {listed : Array Bool} {a : Act} {w : World} : AllD P md ops Q S D fuel listed a w [] := fun _ h => by cases h
theorem AllD.cons {fuel : Nat} {listed : Array Bool} {a : Act} {w : World} {i : Nat} {o : Oper} {rs : List Nat} (ho : ops[i]? = some o) (hcl : Cl md ops listed) (hr : (Region.ready md ops listed).contains i = true)
    (h : ∀ K' : Act → World → Prop, Hid (∀ a w, ((listed.setIfInBounds i true).getD D false = true ∨ S w) → (Cl md ops (listed.setIfInBounds i true) → wpAnyD P md ops Q S D fuel (listed.setIfInBounds i true) a w) → K' a w) → if Region.wanted o (yielded ops a.tmps) = true then Oper.wp P o a w K' Q else K' (a.put o.dst undef) w)
    (hs : AllD P md ops Q S D fuel listed a w rs) : AllD P md ops Q S D fuel listed a w (i :: rs) := fun j hj => by
  rcases List.mem_cons.1 hj with rfl | hj
  · exact wpOp_step ho (fun K' hK => h K' (fun a w hS hW => hK a w ⟨hS, hW (hcl.set (by simpa using hr))⟩))
  · exact hs j hj
theorem wpAnyD_ready {rs : List Nat} {fuel : Nat} {listed : Array Bool} {a : Act} {w : World} (hr : Region.ready md ops listed = rs) (hne : rs ≠ [])
    (h : AllD P md ops Q S D fuel listed a w rs) : wpAnyD P md ops Q S D (fuel + 1) listed a w := ⟨fun h0 => absurd (hr ▸ h0) hne, hr ▸ h⟩
theorem wpAnyD_done {listed : Array Bool} {a : Act} {w : World} (hr : Region.ready md ops listed = []) (h : Q .normal a w) : ∀ fuel, wpAnyD P md ops Q S D fuel listed a w
  | 0 => ⟨hr, h⟩
  | _ + 1 => ⟨fun _ => h, by rw [hr]; simp⟩
/-- What yields in whatever world may be taken first, whether or not D waits for it. -/
theorem wpAnyD_pure {i : Nat} {oi : Oper} {v : Value} (hi : ops[i]? = some oi) (hsel : ∀ (j : Nat) (o : Oper) cs b, ops[j]? = some o → o.op ≠ .select cs b)
    (hQ : ∀ c a w, Q (.panic c) (a.put oi.dst v) w → Q (.panic c) a w) (hDi : i ≠ D) :
    ∀ (fuel : Nat) (listed : Array Bool) (a : Act) (w : World),
      (∀ j oj, ops[j]? = some oj → j ≠ i → listed.getD j true = false → (∀ e ∈ oj.after, Region.binds md e = true → e.on ≠ i) → oi.apart ops oj = true) →
      i ∈ Region.ready md ops listed → YieldsIf P ops (fun _ => True) oi v a → (listed.getD D false = true ∨ S w) →
      wpAnyD P md ops Q S D fuel (listed.setIfInBounds i true) (a.put oi.dst v) w → wpAnyD P md ops Q S D (fuel + 1) listed a w := by
  intro fuel
  induction fuel with
  | zero =>
    intro listed a w _ hr hy hS H
    refine ⟨fun h => (by rw [h] at hr; cases hr), fun j hj => ?_⟩
    by_cases hji : j = i
    · subst hji; exact hy.wpOp hi trivial ⟨by rw [getD_set_ne false hDi]; exact hS, H⟩
    · have := ready_mono hj hji
      rw [H.1] at this
      cases this
  | succ fuel ih =>
    intro listed a w hfree hr hy hS H
    refine ⟨fun h => (by rw [h] at hr; cases hr), fun j hj => ?_⟩
    by_cases hji : j = i
    · subst hji; exact hy.wpOp hi trivial ⟨by rw [getD_set_ne false hDi]; exact hS, H⟩
    · have h1 := H.2 j (ready_mono hj hji)
      obtain ⟨hjun, oj, hoj, hall⟩ := mem_ready.1 hj
      have hiun := (mem_ready.1 hr).1
      have hiunF : listed.getD i false = false := by
        cases h0 : listed.getD i false with
        | false => rfl
        | true => rw [getD_both hiun] at h0; cases h0
      have hnot : ∀ e ∈ oj.after, Region.binds md e = true → e.on ≠ i := fun e he hb heq => by
        have h2 := hall e he hb
        rw [heq, hiunF] at h2
        cases h2
      have h2 := wpOp_putIf hoj (hfree j oj hoj hji hjun hnot) (fun cs b => hsel i oi cs b hi) (fun cs b => hsel j oj cs b hoj) hQ hy h1
      have hfree' : ∀ k ok, ops[k]? = some ok → k ≠ i → (listed.setIfInBounds j true).getD k true = false →
          (∀ e ∈ ok.after, Region.binds md e = true → e.on ≠ i) → oi.apart ops ok = true := fun k ok hk hki hun hno => by
        refine hfree k ok hk hki ?_ hno
        by_cases hjk : j = k
        · subst hjk; exact hjun
        · rw [getD_set_ne true hjk] at hun; exact hun
      refine wpOp_mono (fun a' w' h3 => ?_) h2
      have hS' : (listed.setIfInBounds j true).getD D false = true ∨ S w' := by
        rcases h3.2.1 with h4 | h4
        · left
          by_cases hjD : j = D
          · subst hjD
            have hlt : j < listed.size := by
              rcases Nat.lt_or_ge j listed.size with h5 | h5
              · exact h5
              · rw [Array.setIfInBounds_eq_of_size_le (by simpa using h5), getD_set_ne false hDi] at h4
                rw [Array.getD_eq_getD_getElem?, Array.getElem?_eq_none h5] at h4; cases h4
            simp [Array.getD_eq_getD_getElem?, hlt]
          · rw [getD_set_ne false hjD, getD_set_ne false hDi] at h4
            rw [getD_set_ne false hjD]; exact h4
        · exact .inr h4
      refine ⟨hS', ih (listed.setIfInBounds j true) a' w' hfree' (ready_mono hr (Ne.symm hji)) h3.1 hS' ?_⟩
      rw [Array.setIfInBounds_comm _ _ hji]
      exact h3.2.2
theorem wpAnyD_takeP {i : Nat} {oi : Oper} {v : Value} {fuel : Nat} {listed : Array Bool} {a : Act} {w : World} (hi : ops[i]? = some oi)
    (hB : (Region.noSelect ops && Region.free md ops listed i && (Region.ready md ops listed).contains i && decide (i ≠ D)) = true)
    (hQ : ∀ c a w, Q (.panic c) (a.put oi.dst v) w → Q (.panic c) a w) (hcl : Cl md ops listed) (hy : YieldsIf P ops (fun _ => True) oi v a) (hS : S w)
    (h : Cl md ops (listed.setIfInBounds i true) → wpAnyD P md ops Q S D fuel (listed.setIfInBounds i true) (a.put oi.dst v) w) : wpAnyD P md ops Q S D (fuel + 1) listed a w := by
  simp only [Bool.and_eq_true, decide_eq_true_eq] at hB
  obtain ⟨⟨⟨hs, hf⟩, hr⟩, hDi⟩ := hB
  have hr' : i ∈ Region.ready md ops listed := by simpa using hr
  exact wpAnyD_pure hi (Region.noSelect_spec hs) hQ hDi fuel listed a w (Region.free_spec hi hf) hr' hy (.inr hS) (h (hcl.set hr'))
theorem wpAnyD_takeV {i : Nat} (d : Option Tmp) (v : Value) (p : List Nat) {oi : Oper} {fuel : Nat} {listed : Array Bool} {a : Act} {w : World} (hi : ops[i]? = some oi) (hd : oi.dst = d)
    (hB : (Region.noSelect ops && Region.free md ops listed i && (Region.ready md ops listed).contains i && decide (i ≠ D) && chainW md ops D p i && !listed.getD D false) = true)
    (hQ : ∀ c a w, Q (.panic c) (a.put d v) w → Q (.panic c) a w) (hcl : Hid (Cl md ops listed)) (hy : YieldsIf P ops S oi v a) (hS : S w)
    (h : Hid (Cl md ops (listed.setIfInBounds i true)) → wpAnyD P md ops Q S D fuel (listed.setIfInBounds i true) (a.put d v) w) : wpAnyD P md ops Q S D (fuel + 1) listed a w := by
  subst hd
  exact wpAnyD_take p hi hB hQ hcl.out hy hS fun hc => h (Lib.hid hc)
theorem wpAnyD_takePV {i : Nat} (d : Option Tmp) (v : Value) {oi : Oper} {fuel : Nat} {listed : Array Bool} {a : Act} {w : World} (hi : ops[i]? = some oi) (hd : oi.dst = d)
    (hB : (Region.noSelect ops && Region.free md ops listed i && (Region.ready md ops listed).contains i && decide (i ≠ D)) = true)
    (hQ : ∀ c a w, Q (.panic c) (a.put d v) w → Q (.panic c) a w) (hcl : Hid (Cl md ops listed)) (hy : YieldsIf P ops (fun _ => True) oi v a) (hS : S w)
    (h : Hid (Cl md ops (listed.setIfInBounds i true)) → wpAnyD P md ops Q S D fuel (listed.setIfInBounds i true) (a.put d v) w) : wpAnyD P md ops Q S D (fuel + 1) listed a w := by
  subst hd
  exact wpAnyD_takeP hi hB hQ hcl.out hy hS fun hc => h (Lib.hid hc)
/-- Behind D nothing more is asked of the world. -/
theorem wpAnyD_of_any : ∀ (fuel : Nat) (listed : Array Bool) (a : Act) (w : World), listed.getD D false = true → wpAny P md ops Q fuel listed a w → wpAnyD P md ops Q S D fuel listed a w
  | 0, _, _, _, _, h => h
  | f + 1, listed, a, w, hD, h => by
    refine ⟨h.1, fun i hi => wpOp_mono (fun a' w' h' => ?_) (h.2 i hi)⟩
    have hD' : (listed.setIfInBounds i true).getD D false = true := by
      by_cases e : i = D
      · subst e
        have hlt : i < listed.size := by
          rcases Nat.lt_or_ge i listed.size with h1 | h1
          · exact h1
          · rw [Array.getD_eq_getD_getElem?, Array.getElem?_eq_none h1] at hD; cases hD
        simp [Array.getD_eq_getD_getElem?, hlt]
      · rw [getD_set_ne false e]; exact hD
    exact ⟨.inl hD', wpAnyD_of_any f _ a' w' hD' h'⟩
theorem wpAnyD_list {listed : Array Bool} {a : Act} {w : World} (l : List Oper) (k : Nat) (hl : ∀ j, l[j]? = ops[k + j]?) (hD : listed.getD D false = true) (hB : Region.seqB md ops l.length k listed = true)
    (h : wpList P ops Q l a w) : wpAnyD P md ops Q S D l.length listed a w := wpAnyD_of_any _ _ _ _ hD (wpAny_of_seq l k listed a w hl hB h)
/-- From D on the order is forced. -/
theorem wpAnyD_drop {f : Nat} {listed : Array Bool} {a : Act} {w : World} (hf : f + D = ops.size) (hsz : D < ops.size) (hcl : Hid (Cl md ops listed)) (hB : Region.seqB md ops (ops.size - D) D listed = true)
    (h : wpList P ops Q (ops.toList.drop D) a w) : wpAnyD P md ops Q S D f listed a w := by
  obtain ⟨f, rfl⟩ : ∃ g, f = g + 1 := ⟨f - 1, by omega⟩
  have hN : ops.size - D = f + 1 := by omega
  rw [hN] at hB
  have hd : ops.toList.drop D = ops[D] :: ops.toList.drop (D + 1) := by
    rw [List.drop_eq_getElem_cons (by simpa using hsz)]
    simp
  rw [hd] at h
  simp only [Region.seqB, Bool.and_eq_true, decide_eq_true_eq] at hB
  have h0 : ops[D]? = some ops[D] := Array.getElem?_eq_getElem hsz
  refine ⟨fun h1 => (by rw [hB.1] at h1; cases h1), fun i hi => ?_⟩
  rw [hB.1] at hi
  have hik : i = D := by simpa using hi
  subst hik
  have hw : wpOp P ops Q i (wpList P ops Q (ops.toList.drop (i + 1))) a w := by unfold wpOp; simp only [h0]; exact h
  have hD' : (listed.setIfInBounds i true).getD i false = true := by
    have := hcl.out.1
    simp [Array.getD_eq_getD_getElem?, this, hsz]
  have hlen : (ops.toList.drop (i + 1)).length = f := by simp; omega
  refine wpOp_mono (fun a' w' h' => ⟨.inl hD', wpAnyD_of_any _ _ _ _ hD' ?_⟩) hw
  rw [← hlen]
  exact wpAny_of_seq _ (i + 1) _ a' w' (fun j => by rw [List.getElem?_drop]; simp) (by rw [hlen]; exact hB.2) h'
theorem wp_region_D {id : Nat} {a : Act} {w : World} (D : Nat) (S : World → Prop) (hm : P.follows .mixedOrders = true) (h : Cl .any ops (Array.replicate ops.size false) → wpAnyD P .any ops Q S D ops.size (Array.replicate ops.size false) a w.drew) : (Code.region id ops true).wp P Q a w :=
  wp_region_any hm (wpAny_of_D _ _ _ _ (h Cl.start))
end
end Go.Proofs.YtpiigmhbbcjamaaGreat
