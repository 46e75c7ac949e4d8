/-
  The entries of the yard, and the site behind each of them, in plain Lean.
-/
import Derived.Test.YtejcgjdfajppgaaGreatDoorTsn
namespace Go.Proofs.YtejcgjdfajppgaaGreatDoor
section
open Go.RowKit
set_option linter.unusedVariables false
set_option linter.unusedSimpArgs false

def tagOf (l : List BunD) (i : Nat) : ByteArray := match l[i]? with | some b => b.tag | none => ⟨#[]⟩
def mB : ByteArray := ⟨#[109]⟩
def delR (l : List BunD) (day : Nat) (r : List Nat) : List EntD := r.map fun i => ⟨day, 1, tagOf l i⟩
def delK (l : List BunD) (R : List (List Nat)) : Nat → List EntD
  | 0 => []
  | k + 1 => delK l R k ++ match R[k]? with | some r => delR l k r | none => []
def plaK (l : List BunD) (D k : Nat) : List EntD := (l.take k).map fun b => ⟨D, 2, b.tag⟩
def entsF (l : List BunD) (R : List (List Nat)) : List EntD := delK l R R.length ++ plaK l R.length l.length ++ [⟨R.length, 5, mB⟩]

theorem delK_all (l : List BunD) (R : List (List Nat)) : ∀ k, ∀ x ∈ delK l R k, x.kind = 1 ∧ 0 ≤ x.day ∧ x.day < k
  | 0, x, h => by simp [delK] at h
  | k + 1, x, h => by
    unfold delK at h
    rw [List.mem_append] at h
    rcases h with h | h
    · have := delK_all l R k x h
      exact ⟨this.1, this.2.1, by omega⟩
    · split at h
      · unfold delR at h
        obtain ⟨i, _, rfl⟩ := List.mem_map.1 h
        exact ⟨rfl, by simp, by simp; omega⟩
      · simp at h
theorem take_flat (R : List (List Nat)) (k : Nat) : (R.take (k + 1)).flatten = (R.take k).flatten ++ (match R[k]? with | some r => r | none => []) := by
  rw [List.take_add_one, List.flatten_append]
  cases R[k]? <;> simp
theorem delK_name (l : List BunD) (R : List (List Nat)) : ∀ k, (delK l R k).map EntD.name = (R.take k).flatten.map (tagOf l)
  | 0 => by simp [delK]
  | k + 1 => by
    unfold delK
    rw [List.map_append, delK_name l R k, take_flat, List.map_append]
    congr 1
    cases R[k]? with
    | none => rfl
    | some r => simp [delR]
theorem delK_days (l : List BunD) (R : List (List Nat)) : ∀ k, (delK l R k).Pairwise fun a b => a.day ≤ b.day
  | 0 => by simp [delK]
  | k + 1 => by
    unfold delK
    rw [List.pairwise_append]
    refine ⟨delK_days l R k, ?_, fun a ha b hb => ?_⟩
    · split
      · unfold delR
        rw [List.pairwise_map]
        exact List.pairwise_of_forall (by simp)
      · exact .nil
    · have h1 := delK_all l R k a ha
      split at hb
      · unfold delR at hb
        obtain ⟨i, _, rfl⟩ := List.mem_map.1 hb
        simp
        omega
      · simp at hb

/-- What the yard's loads are. -/
structure YardOk (l : List BunD) (R : List (List Nat)) : Prop where
  ok : bunsOk l = true
  few : l.length ≤ 10
  fit : FitU l
  perm : R.flatten.Perm (List.range l.length)
  rl : R.length ≤ l.length
variable {l : List BunD} {R : List (List Nat)}
theorem YardOk.flen (h : YardOk l R) : R.flatten.length = l.length := by rw [h.perm.length_eq]; simp
theorem delK_len (h : YardOk l R) : (delK l R R.length).length = l.length := by
  have := congrArg List.length (delK_name l R R.length)
  rw [List.length_map, List.length_map, List.take_length, h.flen] at this
  exact this
theorem plaK_len (l : List BunD) (D : Nat) : (plaK l D l.length).length = l.length := by simp [plaK]
theorem ents_len (h : YardOk l R) : (entsF l R).length = 2 * l.length + 1 := by
  unfold entsF
  rw [List.length_append, List.length_append, delK_len h, plaK_len]
  simp
  omega
theorem tagOf_some {i : Nat} {b : BunD} (h : l[i]? = some b) : tagOf l i = b.tag := by unfold tagOf; rw [h]
theorem ents_del (h : YardOk l R) {k : Nat} (hk : k < l.length) : ∃ (i dy : Nat) (b : BunD), R.flatten[k]? = some i ∧ l[i]? = some b ∧ (entsF l R)[k]? = some ⟨dy, 1, b.tag⟩ ∧ dy ≤ R.length := by
  have hl := delK_len h
  have hd : (delK l R R.length)[k]? = some (delK l R R.length)[k] := List.getElem?_eq_getElem (by omega)
  have hm := congrArg (fun q : List ByteArray => q[k]?) (delK_name l R R.length)
  simp only [List.getElem?_map, List.take_length] at hm
  rw [hd] at hm
  have hf : R.flatten[k]? = some (R.flatten[k]'(by rw [h.flen]; exact hk)) := List.getElem?_eq_getElem _
  rw [hf] at hm
  have hall := delK_all l R R.length _ (List.mem_of_getElem? hd)
  have hi : R.flatten[k]'(by rw [h.flen]; exact hk) < l.length := by
    have := h.perm.mem_iff.1 (List.mem_of_getElem? hf)
    simpa using this
  generalize R.flatten[k]'(by rw [h.flen]; exact hk) = i at hm hf hi
  have hb : l[i]? = some l[i] := List.getElem?_eq_getElem hi
  generalize l[i] = b at hb
  simp only [Option.map_some, Option.some.injEq] at hm
  rw [tagOf_some hb] at hm
  refine ⟨i, ((delK l R R.length)[k]).day.toNat, b, hf, hb, ?_, by omega⟩
  unfold entsF
  rw [List.append_assoc, List.getElem?_append_left (by omega), hd]
  generalize (delK l R R.length)[k] = x at hm hall
  obtain ⟨a, c, e⟩ := x
  simp only at hm hall
  obtain ⟨rfl, h0, _⟩ := hall
  subst hm
  have h2 : ((a.toNat : Nat) : Int) = a := by omega
  simp only [h2]
theorem ents_pla (h : YardOk l R) {q : Nat} {b : BunD} (hb : l[q]? = some b) : (entsF l R)[l.length + q]? = some ⟨R.length, 2, b.tag⟩ := by
  have hq := (List.getElem?_eq_some_iff.1 hb).1
  unfold entsF
  rw [List.append_assoc, List.getElem?_append_right (by rw [delK_len h]; omega), delK_len h, List.getElem?_append_left (by rw [plaK_len]; omega)]
  rw [show l.length + q - l.length = q by omega]
  unfold plaK
  rw [List.take_length, List.getElem?_map, hb]
  rfl
theorem ents_pour (h : YardOk l R) : (entsF l R)[2 * l.length]? = some ⟨R.length, 5, mB⟩ := by
  unfold entsF
  rw [List.getElem?_append_right (by rw [List.length_append, delK_len h, plaK_len]; omega), List.length_append, delK_len h, plaK_len]
  rw [show 2 * l.length - (l.length + l.length) = 0 by omega]
  rfl
theorem ents_days (h : YardOk l R) : (entsF l R).Pairwise fun a b => a.day ≤ b.day := by
  unfold entsF
  rw [List.pairwise_append, List.pairwise_append]
  have hp : ∀ x ∈ plaK l R.length l.length, x.day = R.length := fun x hx => by
    unfold plaK at hx
    obtain ⟨b, _, rfl⟩ := List.mem_map.1 hx
    rfl
  refine ⟨⟨delK_days l R _, ?_, fun a ha b hb => ?_⟩, List.pairwise_singleton _ _, fun a ha b hb => ?_⟩
  · unfold plaK
    rw [List.pairwise_map]
    exact List.pairwise_of_forall (by simp)
  · have := delK_all l R _ a ha
    rw [hp b hb]
    omega
  · rw [List.mem_singleton] at hb
    subst hb
    rcases List.mem_append.1 ha with ha | ha
    · have := delK_all l R _ a ha
      simp only
      omega
    · rw [hp a ha]
      simp
theorem ents_day (h : YardOk l R) {k : Nat} {x y : EntD} (hx : (entsF l R)[k]? = some x) (hy : ((entsF l R).take k)[((entsF l R).take k).length - 1]? = some y) : y.day ≤ x.day := by
  have hk := (List.getElem?_eq_some_iff.1 hx).1
  have hl : ((entsF l R).take k).length = k := by rw [List.length_take]; omega
  rw [hl] at hy
  have hy0 := (List.getElem?_eq_some_iff.1 hy).1
  rw [hl] at hy0
  rw [List.getElem?_take_of_lt hy0] at hy
  have := List.pairwise_iff_getElem.1 (ents_days h) (k - 1) k (by omega) hk (by omega)
  rw [(List.getElem?_eq_some_iff.1 hy).2, (List.getElem?_eq_some_iff.1 hx).2] at this
  exact this

/-- Where a bundle is behind so many entries. -/
def whAt (fl : List Nat) (n k j : Nat) : Int := if k ≤ n then (if j ∈ fl.take k then 1 else 0) else if j < k - n then 2 else 1
def whK (fl : List Nat) (n k : Nat) : List Int := (List.range n).map (whAt fl n k)
theorem whK_get {fl : List Nat} {n k j : Nat} (hj : j < n) : (whK fl n k)[j]? = some (whAt fl n k j) := by
  unfold whK
  rw [List.getElem?_map, List.getElem?_range hj]
  rfl
theorem whK_len (fl : List Nat) (n k : Nat) : (whK fl n k).length = n := by simp [whK]
theorem whAt_rng (fl : List Nat) (n k j : Nat) : whAt fl n k j = 0 ∨ whAt fl n k j = 1 ∨ whAt fl n k j = 2 := by
  unfold whAt
  split <;> split <;> simp
theorem whAt_hi {fl : List Nat} {n k j : Nat} (hf : fl.Perm (List.range n)) (hk : n ≤ k) (hj : j < n) : whAt fl n k j = if j < k - n then 2 else 1 := by
  unfold whAt
  split
  · have : k = n := by omega
    subst this
    rw [List.take_of_length_le (by rw [hf.length_eq]; simp), if_pos (hf.mem_iff.2 (by simpa using hj)), if_neg (by omega)]
  · rfl
theorem whAt_low {fl : List Nat} {n k i : Nat} (hf : fl.Perm (List.range n)) (hk : k < n) (hi : fl[k]? = some i) : whAt fl n k i = 0 := by
  unfold whAt
  rw [if_pos (by omega), if_neg]
  intro hm
  have hnd : fl.Nodup := hf.nodup_iff.2 List.nodup_range
  obtain ⟨q, hq, e⟩ := List.mem_take_iff_getElem.1 hm
  obtain ⟨hk1, hk2⟩ := List.getElem?_eq_some_iff.1 hi
  rw [List.nodup_iff_pairwise_ne] at hnd
  exact List.pairwise_iff_getElem.1 hnd q k (by omega) hk1 (by omega) (e.trans hk2.symm)
theorem whK_set {fl : List Nat} {n k i : Nat} {v : Int} (hi : i < n) (h1 : whAt fl n (k + 1) i = v) (h2 : ∀ j, j < n → j ≠ i → whAt fl n (k + 1) j = whAt fl n k j) : (whK fl n k).set i v = whK fl n (k + 1) := by
  apply List.ext_getElem?
  intro j
  rw [List.getElem?_set]
  by_cases hj : j < n
  · rw [whK_get hj, whK_len]
    split
    · rename_i e
      subst e
      rw [whK_get hj, h1]
    · rename_i e
      rw [whK_get hj, h2 j hj (fun c => e c.symm)]
  · rw [List.getElem?_eq_none (by rw [whK_len]; omega), List.getElem?_eq_none (by rw [whK_len]; omega)]
    split
    · rename_i e
      rw [whK_len, if_neg (by omega)]
    · rfl
theorem whK_del {fl : List Nat} {n k i : Nat} (hf : fl.Perm (List.range n)) (hk : k < n) (hi : fl[k]? = some i) (hin : i < n) : (whK fl n k).set i 1 = whK fl n (k + 1) := by
  have ht : fl.take (k + 1) = fl.take k ++ [i] := take_snoc hi
  refine whK_set hin ?_ fun j hj hne => ?_
  · unfold whAt
    rw [if_pos (by omega), ht, if_pos (by simp)]
  · unfold whAt
    have e1 : k + 1 ≤ n := by omega
    have e2 : k ≤ n := by omega
    simp only [if_pos e1, if_pos e2, ht, List.mem_append, List.mem_singleton, hne, or_false]
theorem whK_pla {fl : List Nat} {n q : Nat} (hf : fl.Perm (List.range n)) (hq : q < n) : (whK fl n (n + q)).set q 2 = whK fl n (n + q + 1) := by
  refine whK_set hq ?_ fun j hj hne => ?_
  · rw [whAt_hi hf (by omega) hq, if_pos (by omega)]
  · rw [whAt_hi hf (by omega) hj, whAt_hi hf (by omega) hj]
    by_cases h : j < q
    · rw [if_pos (by omega), if_pos (by omega)]
    · rw [if_neg (by omega), if_neg (by omega)]
theorem whK_mid {fl : List Nat} {n : Nat} (hf : fl.Perm (List.range n)) : whK fl n n = List.replicate n 1 := by
  rw [List.eq_replicate_iff]
  refine ⟨whK_len _ _ _, fun x hx => ?_⟩
  unfold whK at hx
  obtain ⟨j, hj, rfl⟩ := List.mem_map.1 hx
  rw [whAt_hi hf (Nat.le_refl _) (by simpa using hj), if_neg (by omega)]
theorem whK_end {fl : List Nat} {n : Nat} (hf : fl.Perm (List.range n)) : whK fl n (2 * n) = List.replicate n 2 := by
  rw [List.eq_replicate_iff]
  refine ⟨whK_len _ _ _, fun x hx => ?_⟩
  unfold whK at hx
  obtain ⟨j, hj, rfl⟩ := List.mem_map.1 hx
  have : j < n := by simpa using hj
  rw [whAt_hi hf (by omega) this, if_pos (by omega)]
theorem whK_zero (fl : List Nat) (n : Nat) : whK fl n 0 = List.replicate n 0 := by
  rw [List.eq_replicate_iff]
  refine ⟨whK_len _ _ _, fun x hx => ?_⟩
  unfold whK at hx
  obtain ⟨j, hj, rfl⟩ := List.mem_map.1 hx
  unfold whAt
  simp

def yard (l : List BunD) (R : List (List Nat)) (k : Nat) : SiteD := ⟨l.map BunD.tag, whK R.flatten l.length k, mB, (entsF l R).take k, false⟩
theorem yard_zero (l : List BunD) (R : List (List Nat)) : yard l R 0 = siteOf l mB := by
  unfold yard siteOf
  rw [whK_zero, List.take_zero]
theorem yardS_ok (h : YardOk l R) (k : Nat) : SiteOk (yard l R k) := by
  refine ⟨tags_nodup h.ok, by have := h.few; simp [yard]; omega, by simp [yard, whK_len], fun t ht => ?_, ?_, fun x hx => ?_⟩
  · obtain ⟨b, hb, rfl⟩ := List.mem_map.1 ht
    exact (h.fit b hb).1
  · have := ents_len h
    have := h.few
    unfold yard
    rw [List.length_take]
    omega
  · unfold yard whK at hx
    obtain ⟨j, _, rfl⟩ := List.mem_map.1 hx
    exact whAt_rng _ _ _ _
theorem missL_nil (d : SiteD) : ∀ k, k ≤ d.tags.length → ((missL d k).length = 0 ↔ ∀ j, j < k → d.wh[j]? = some 2)
  | 0, _ => by simp [missL]
  | k + 1, hk => by
    have ih := missL_nil d k (by omega)
    have ht : d.tags[k]? = some d.tags[k] := List.getElem?_eq_getElem (by omega)
    by_cases h2 : d.wh[k]? = some 2
    · rw [missL_yes h2, ih]
      refine ⟨fun h j hj => ?_, fun h j hj => h j (by omega)⟩
      rcases Nat.lt_succ_iff_lt_or_eq.1 hj with h' | rfl
      · exact h j h'
      · exact h2
    · rw [missL_no h2 ht, List.length_append]
      simp only [List.length_singleton, Nat.add_eq_zero_iff, Nat.one_ne_zero, and_false, false_iff]
      exact fun h => h2 (h k (by omega))
theorem yard_open (h : YardOk l R) {k : Nat} (hk : k < 2 * l.length) : readyB (yard l R k) = false := by
  unfold readyB
  rw [decide_eq_false_iff_not, missL_nil _ _ (Nat.le_refl _)]
  intro hall
  have h1 := hall (l.length - 1) (by simp [yard]; omega)
  have h2 : (yard l R k).wh = whK R.flatten l.length k := rfl
  rw [h2, whK_get (by omega), Option.some.injEq] at h1
  unfold whAt at h1
  split at h1
  · split at h1 <;> omega
  · rw [if_neg (by omega)] at h1
    omega
theorem yard_ready (h : YardOk l R) : readyB (yard l R (2 * l.length)) = true := by
  unfold readyB
  rw [decide_eq_true_iff, missL_nil _ _ (Nat.le_refl _)]
  intro j hj
  have hj' : j < l.length := by simpa [yard] using hj
  have h2 : (yard l R (2 * l.length)).wh = whK R.flatten l.length (2 * l.length) := rfl
  rw [h2, whK_end h.perm, List.getElem?_replicate, if_pos hj']
theorem yard_take {k : Nat} {x : EntD} (hx : (entsF l R)[k]? = some x) : (entsF l R).take (k + 1) = (entsF l R).take k ++ [x] := by rw [List.take_add_one, hx]; rfl
theorem name_m : nameB mB = true := by decide
theorem sz_m : mB.size ≤ maxLen := by decide
theorem buns_name (h : bunsOk l = true) {i : Nat} {b : BunD} (hb : l[i]? = some b) : nameB b.tag = true := by
  have h1 := (buns_all h).2 i b hb
  unfold bun1 at h1
  simp only [Bool.and_eq_true] at h1
  exact h1.1
theorem ents_ok (h : YardOk l R) {k : Nat} {x : EntD} (hx : (entsF l R)[k]? = some x) : EntOk x := by
  have hk := (List.getElem?_eq_some_iff.1 hx).1
  rw [ents_len h] at hk
  have hf := h.few
  have hr := h.rl
  by_cases h1 : k < l.length
  · obtain ⟨i, dy, b, _, hb, hx', hdy⟩ := ents_del h h1
    rw [hx'] at hx
    cases hx
    exact ⟨by simp, by simp; omega, by simp, by simp, buns_name h.ok hb, (h.fit b (List.mem_of_getElem? hb)).1⟩
  by_cases h2 : k < 2 * l.length
  · obtain ⟨q, rfl⟩ : ∃ q, k = l.length + q := ⟨k - l.length, by omega⟩
    have hb : l[q]? = some (l[q]'(by omega)) := List.getElem?_eq_getElem (by omega)
    rw [ents_pla h hb] at hx
    cases hx
    exact ⟨by simp, by simp; omega, by simp, by simp, buns_name h.ok hb, (h.fit _ (List.mem_of_getElem? hb)).1⟩
  · obtain rfl : k = 2 * l.length := by omega
    rw [ents_pour h] at hx
    cases hx
    exact ⟨by simp, by simp; omega, by simp, by simp, name_m, sz_m⟩
theorem yard_pre (h : YardOk l R) {k : Nat} {x : EntD} (hx : (entsF l R)[k]? = some x) {y : EntD} (hy : EntOk y) (hd : y.day = x.day) : DoPre (yard l R k) y :=
  ⟨yardS_ok h k, hy, rfl, fun z hz => by rw [hd]; exact ents_day h hx hz⟩
/-- Concrete is refused while a bundle is not placed. -/
theorem yard_no (h : YardOk l R) {k : Nat} (hk : k < 2 * l.length) (dy : Int) : ActIs (yard l R k) ⟨dy, 5, mB⟩ 24 (yard l R k) := by
  refine ⟨.inr ⟨rfl, rfl, ?_, ?_⟩⟩
  · unfold pourE; rw [yard_open h hk]; rfl
  · unfold pourD; rw [yard_open h hk]; rfl
/-- A second delivery is refused. -/
theorem yard_again (h : YardOk l R) {i : Nat} {b : BunD} (hb : l[i]? = some b) (dy : Int) : ActIs (yard l R l.length) ⟨dy, 1, b.tag⟩ 13 (yard l R l.length) := by
  have hi := (List.getElem?_eq_some_iff.1 hb).1
  have hw : (yard l R l.length).wh[i]? = some 1 := by
    have h2 : (yard l R l.length).wh = whK R.flatten l.length l.length := rfl
    rw [h2, whK_mid h.perm, List.getElem?_replicate, if_pos hi]
  refine ⟨.inl ⟨i, by simp [yard, hb], .inl ⟨rfl, ?_, ?_⟩⟩⟩
  · unfold moveE; rw [hw, if_neg (by decide)]
  · unfold moveD; rw [hw, if_neg (by decide)]
/-- Each entry but the last is done. -/
theorem yard_go (h : YardOk l R) {k : Nat} {x : EntD} (hx : (entsF l R)[k]? = some x) (hk : k < 2 * l.length) : ∃ d1, ActIs (yard l R k) x 0 d1 ∧ { d1 with es := d1.es ++ [x] } = yard l R (k + 1) := by
  by_cases h1 : k < l.length
  · obtain ⟨i, dy, b, hf, hb, hx', _⟩ := ents_del h h1
    have hi := (List.getElem?_eq_some_iff.1 hb).1
    have hw : (yard l R k).wh[i]? = some 0 := by
      have h2 : (yard l R k).wh = whK R.flatten l.length k := rfl
      rw [h2, whK_get hi, whAt_low h.perm h1 hf]
    refine ⟨moveD (yard l R k) i 0 1, ⟨.inl ⟨i, ?_, .inl ⟨?_, ?_, rfl⟩⟩⟩, ?_⟩
    · rw [hx'] at hx; cases hx; simp [yard, hb]
    · rw [hx'] at hx; cases hx; rfl
    · unfold moveE; rw [hw, if_pos rfl]
    · unfold moveD
      rw [hw, if_pos rfl]
      unfold yard
      rw [yard_take hx, ← whK_del h.perm h1 hf hi]
  · obtain ⟨q, rfl⟩ : ∃ q, k = l.length + q := ⟨k - l.length, by omega⟩
    have hq : q < l.length := by omega
    have hb : l[q]? = some (l[q]'hq) := List.getElem?_eq_getElem hq
    have hx' := ents_pla h hb
    have hw : (yard l R (l.length + q)).wh[q]? = some 1 := by
      have h2 : (yard l R (l.length + q)).wh = whK R.flatten l.length (l.length + q) := rfl
      rw [h2, whK_get hq, whAt_hi h.perm (by omega) hq, if_neg (by omega)]
    refine ⟨moveD (yard l R (l.length + q)) q 1 2, ⟨.inl ⟨q, ?_, .inr ⟨?_, ?_, rfl⟩⟩⟩, ?_⟩
    · rw [hx'] at hx; cases hx; simp [yard, hb]
    · rw [hx'] at hx; cases hx; rfl
    · unfold moveE; rw [hw, if_pos rfl]
    · unfold moveD
      rw [hw, if_pos rfl]
      unfold yard
      rw [yard_take hx, ← whK_pla h.perm hq]
def yardEnd (l : List BunD) (R : List (List Nat)) : SiteD := ⟨l.map BunD.tag, whK R.flatten l.length (2 * l.length), mB, entsF l R, true⟩
theorem yard_last (h : YardOk l R) : ∃ d1, ActIs (yard l R (2 * l.length)) ⟨R.length, 5, mB⟩ 0 d1 ∧ { d1 with es := d1.es ++ [⟨R.length, 5, mB⟩] } = yardEnd l R := by
  refine ⟨pourD (yard l R (2 * l.length)), ⟨.inr ⟨rfl, rfl, ?_, rfl⟩⟩, ?_⟩
  · unfold pourE; rw [yard_ready h]; rfl
  · unfold pourD
    rw [yard_ready h, if_pos rfl]
    have e : (yard l R (2 * l.length)).es ++ [⟨R.length, 5, mB⟩] = entsF l R := by
      have := yard_take (ents_pour h)
      rw [List.take_of_length_le (by rw [ents_len h]; omega)] at this
      exact this.symm
    show SiteD.mk _ _ _ ((yard l R (2 * l.length)).es ++ [⟨R.length, 5, mB⟩]) _ = _
    rw [e]
    rfl
theorem yardEnd_ok (h : YardOk l R) : SiteOk (yardEnd l R) := by
  have hk := yardS_ok h (2 * l.length)
  refine ⟨hk.nd, hk.few, hk.len, hk.sz, ?_, hk.rng⟩
  have := ents_len h
  have := h.few
  unfold yardEnd
  simp only
  omega
theorem yardEnd_ready (h : YardOk l R) : readyB (yardEnd l R) = true := by
  unfold readyB
  rw [decide_eq_true_iff, missL_nil _ _ (Nat.le_refl _)]
  have := yard_ready h
  unfold readyB at this
  rw [decide_eq_true_iff, missL_nil _ _ (Nat.le_refl _)] at this
  exact this
theorem yardEnd_miss (h : YardOk l R) : missL (yardEnd l R) (yardEnd l R).tags.length = [] := by
  have := yardEnd_ready h
  unfold readyB at this
  exact List.length_eq_zero_iff.1 (by simpa using this)
theorem mid_count (h : YardOk l R) : (yard l R l.length).wh.count 0 = 0 ∧ (yard l R l.length).wh.count 1 = l.length ∧ (yard l R l.length).wh.count 2 = 0 := by
  have h2 : (yard l R l.length).wh = whK R.flatten l.length l.length := rfl
  rw [h2, whK_mid h.perm]
  simp [List.count_replicate]
theorem end_count (h : YardOk l R) : (yardEnd l R).wh.count 0 = 0 ∧ (yardEnd l R).wh.count 1 = 0 ∧ (yardEnd l R).wh.count 2 = l.length := by
  have h2 : (yardEnd l R).wh = whK R.flatten l.length (2 * l.length) := rfl
  rw [h2, whK_end h.perm]
  simp [List.count_replicate]
end
end Go.Proofs.YtejcgjdfajppgaaGreatDoor
