/-
  Graph, plain: distances reckoned round by round, and the rows of edges at each node; no program in sight.
-/
import Derived.Test.YtcaeemcobgopmaaGrP
namespace Go.Proofs.Ytcaeemcobgopmaa
set_option linter.unusedVariables false

def gt (A : List Int) (k : Nat) : Int := A.getD k (-1)

/-- One edge in the round of distance d. -/
def farHalf (d : Int) (A : List Int) (a b : Nat) : List Int := if gt A a = d ∧ gt A b < 0 then A.set b (d + 1) else A
def farStep (ns : List (Nat × Nat)) (d : Int) (A : List Int) (i : Nat) : List Int :=
  match ns[i]? with | some e => farHalf d (farHalf d A e.1 e.2) e.2 e.1 | none => A
def farRound (ns : List (Nat × Nat)) (l : List Nat) (d : Int) (A : List Int) : List Int := l.foldl (farStep ns d) A
def farTo (ns : List (Nat × Nat)) (l : List Nat) (n to : Nat) : Nat → List Int
  | 0 => (List.replicate n (-1)).set to 0
  | k + 1 => farRound ns l k (farTo ns l n to k)
def farOf (ns : List (Nat × Nat)) (l : List Nat) (n to : Nat) : List Int := farTo ns l n to n

structure FarOk (ns : List (Nat × Nat)) (l : List Nat) (n b : Nat) (A : List Int) : Prop where
  len : A.length = n
  zero : ofList A b = 0
  from_ : ∀ v, ofList A v = -1 ∨ (v = b ∧ ofList A v = 0) ∨ (1 ≤ ofList A v ∧ ∃ i, i ∈ l ∧ inc ns i v = true ∧ ofList A (oth ns i v) = ofList A v - 1)
  bd : ∀ v, ofList A v + neg A ≤ (n : Int) - 1

theorem FarOk.start (ns : List (Nat × Nat)) (l : List Nat) (n b : Nat) (hb : b < n) : FarOk ns l n b ((List.replicate n (-1)).set b 0) := by
  have e : ofList ((List.replicate n (-1)).set b 0) = upd (fun _ => -1) b 0 := by rw [ofList_set (by simpa using hb), ofList_rep]
  have hn := neg_set (List.replicate n (-1)) b (-1) 0 (by simp [hb]) (by omega) (by omega)
  have hr : neg (List.replicate n (-1)) = n := by unfold neg; rw [List.countP_replicate]; simp
  refine ⟨by simp, by rw [e]; simp [upd], fun v => ?_, fun v => ?_⟩
  · rw [e]
    by_cases h : v = b
    · subst h; exact .inr (.inl ⟨rfl, by simp [upd]⟩)
    · exact .inl (by simp [upd, h])
  · rw [e]
    by_cases h : v = b
    · subst h; simp [upd]; omega
    · simp [upd, h]; omega

/-- What one half of a step does: nothing, or a new node beside one of distance d. -/
theorem farHalf_ok {ns : List (Nat × Nat)} {l : List Nat} {n b : Nat} {A : List Int} (h : FarOk ns l n b A) {d : Int} (hd : 0 ≤ d) {i x y : Nat} (hi : i ∈ l) (hinc : inc ns i y = true) (ho : oth ns i y = x) (hy : y < n) :
    FarOk ns l n b (farHalf d A x y) ∧ (∀ v, 0 ≤ ofList A v → ofList (farHalf d A x y) v = ofList A v) ∧ (ofList A x = d → 0 ≤ ofList (farHalf d A x y) y) ∧ (∀ v, ofList (farHalf d A x y) v ≤ d + 1 ∨ ofList (farHalf d A x y) v = ofList A v) ∧
      (∀ v, ofList A v < 0 → 0 ≤ ofList (farHalf d A x y) v → ofList (farHalf d A x y) v = d + 1) := by
  have g : ∀ k, gt A k = ofList A k := fun _ => rfl
  unfold farHalf
  rw [g, g]
  by_cases hc : ofList A x = d ∧ ofList A y < 0
  · rw [if_pos hc]
    obtain ⟨z, hz⟩ : ∃ z, A[y]? = some z := ⟨_, List.getElem?_eq_getElem (by rw [h.len]; exact hy)⟩
    have hzy := ofList_get hz
    have hn := neg_set A y z (d + 1) hz (by omega) (by omega)
    have e : ofList (A.set y (d + 1)) = upd (ofList A) y (d + 1) := ofList_set (by rw [h.len]; exact hy)
    have e1 : ofList (A.set y (d + 1)) y = d + 1 := by rw [e]; simp [upd]
    have e2 : ∀ v, v ≠ y → ofList (A.set y (d + 1)) v = ofList A v := fun v hv => by rw [e]; simp [upd, hv]
    have e3 : ∀ v, 0 ≤ ofList A v → ofList (A.set y (d + 1)) v = ofList A v := fun v hv => e2 v (fun h => by rw [h] at hv; omega)
    refine ⟨⟨by rw [List.length_set]; exact h.len, by rw [e3 b (by rw [h.zero]; omega)]; exact h.zero, fun v => ?_, fun v => ?_⟩, e3, fun _ => by rw [e1]; omega, fun v => ?_, fun v hv hv' => ?_⟩
    · by_cases hv : v = y
      · subst hv
        rw [e1]
        exact .inr (.inr ⟨by omega, i, hi, hinc, by rw [ho, e3 x (by omega)]; omega⟩)
      · rw [e2 v hv]
        rcases h.from_ v with h1 | h1 | ⟨h1, j, h2, h3, h4⟩
        · exact .inl h1
        · exact .inr (.inl h1)
        · exact .inr (.inr ⟨h1, j, h2, h3, by rw [e3 _ (by omega)]; exact h4⟩)
    · by_cases hv : v = y
      · subst hv; rw [e1]; have := h.bd x; omega
      · rw [e2 v hv]; have := h.bd v; omega
    · by_cases hv : v = y
      · subst hv; rw [e1]; exact .inl (by omega)
      · exact .inr (e2 v hv)
    · by_cases hvy : v = y
      · subst hvy; exact e1
      · rw [e2 v hvy] at hv'; omega
  · rw [if_neg hc]
    exact ⟨h, fun _ _ => rfl, fun hx => by
      rcases Int.lt_or_le (ofList A y) 0 with h1 | h1
      · exact absurd ⟨hx, h1⟩ hc
      · exact h1, fun v => .inr rfl, fun v hv hv' => by omega⟩

/-- What a number of steps in the round of distance d leaves. -/
structure FarIn (ns : List (Nat × Nat)) (l done : List Nat) (n b : Nat) (d : Int) (A0 A : List Int) : Prop where
  ok : FarOk ns l n b A
  keep : ∀ v, 0 ≤ ofList A0 v → ofList A v = ofList A0 v
  new : ∀ v, ofList A0 v < 0 → 0 ≤ ofList A v → ofList A v = d + 1
  near : ∀ v, ofList A0 v = d → ∀ i ∈ done, inc ns i v = true → 0 ≤ ofList A (oth ns i v)

theorem farStep_in {ns : List (Nat × Nat)} {l done : List Nat} {n b : Nat} {d : Int} {A0 A : List Int} (h : FarIn ns l done n b d A0 A) (hd : 0 ≤ d) {i : Nat} (hi : i ∈ l) {e : Nat × Nat} (he : ns[i]? = some e) (h1 : e.1 < n) (h2 : e.2 < n) :
    FarIn ns l (done ++ [i]) n b d A0 (farStep ns d A i) := by
  have i1 : inc ns i e.1 = true := by unfold inc; rw [he]; simp
  have i2 : inc ns i e.2 = true := by unfold inc; rw [he]; simp
  obtain ⟨a1, a2, a3, a4, a5⟩ := farHalf_ok h.ok hd (x := e.1) (y := e.2) hi i2 (oth_snd he) h2
  obtain ⟨b1, b2, b3, b4, b5⟩ := farHalf_ok a1 hd (x := e.2) (y := e.1) hi i1 (oth_fst he) h1
  have hst : farStep ns d A i = farHalf d (farHalf d A e.1 e.2) e.2 e.1 := by unfold farStep; rw [he]
  rw [hst]
  have up : ∀ v, 0 ≤ ofList A v → ofList (farHalf d (farHalf d A e.1 e.2) e.2 e.1) v = ofList A v := fun v hv => by
    have := a2 v hv
    rw [b2 v (by omega), this]
  have hnew : ∀ v, ofList A0 v < 0 → 0 ≤ ofList (farHalf d (farHalf d A e.1 e.2) e.2 e.1) v → ofList (farHalf d (farHalf d A e.1 e.2) e.2 e.1) v = d + 1 := by
    intro v hv hv'
    rcases Int.lt_or_le (ofList A v) 0 with hA | hA
    · rcases Int.lt_or_le (ofList (farHalf d A e.1 e.2) v) 0 with hB | hB
      · exact b5 v hB hv'
      · rw [b2 v hB]; exact a5 v hA hB
    · rw [up v hA]; exact h.new v hv hA
  refine ⟨b1, fun v hv => ?_, hnew, fun v hv j hj hinc => ?_⟩
  · have := h.keep v hv
    rw [up v (by omega), this]
  · rcases List.mem_append.1 hj with hj | hj
    · have := h.near v hv j hj hinc
      rw [up _ this]; exact this
    · rw [List.mem_singleton.1 hj] at hinc ⊢
      have hAv := h.keep v (by omega)
      obtain ⟨e', he', hc⟩ := inc_cases hinc
      rw [he] at he'
      cases he'
      rcases hc with ⟨rfl, ho⟩ | ⟨rfl, ho⟩
      · rw [ho]
        have h3 := a3 (by omega)
        rw [b2 _ h3]; exact h3
      · rw [ho]
        exact b3 (by rw [a2 _ (by omega)]; omega)

theorem farRound_in {ns : List (Nat × Nat)} {l : List Nat} {n b : Nat} {d : Int} {A : List Int} (h : FarOk ns l n b A) (hd : 0 ≤ d) (hl : ∀ i ∈ l, ∃ e, ns[i]? = some e ∧ e.1 < n ∧ e.2 < n) :
    FarIn ns l l n b d A (farRound ns l d A) := by
  have key : ∀ (m : List Nat) (done : List Nat) (A1 : List Int), (∀ i ∈ m, i ∈ l) → FarIn ns l done n b d A A1 → FarIn ns l (done ++ m) n b d A (m.foldl (farStep ns d) A1) := by
    intro m
    induction m with
    | nil => intro done A1 _ h; simpa using h
    | cons i m ih =>
      intro done A1 hm h
      obtain ⟨e, he, h1, h2⟩ := hl i (hm i (by simp))
      have := ih (done ++ [i]) _ (fun j hj => hm j (by simp [hj])) (farStep_in h hd (hm i (by simp)) he h1 h2)
      simpa using this
  have h0 : FarIn ns l [] n b d A A := ⟨h, fun _ _ => rfl, fun v h1 h2 => by omega, fun v _ i hi => by cases hi⟩
  have := key l [] A (fun _ h => h) h0
  simpa [farRound] using this

/-- After k rounds. -/
structure FarAt (ns : List (Nat × Nat)) (l : List Nat) (n b k : Nat) (A : List Int) : Prop where
  ok : FarOk ns l n b A
  le : ∀ v, ofList A v ≤ k
  done : ∀ v, 0 ≤ ofList A v → ofList A v < k → ∀ i ∈ l, inc ns i v = true → 0 ≤ ofList A (oth ns i v) ∧ ofList A (oth ns i v) ≤ ofList A v + 1

theorem farTo_at {ns : List (Nat × Nat)} {l : List Nat} {n b : Nat} (hb : b < n) (hl : ∀ i ∈ l, ∃ e, ns[i]? = some e ∧ e.1 < n ∧ e.2 < n) : ∀ k, FarAt ns l n b k (farTo ns l n b k) := by
  intro k
  induction k with
  | zero =>
    have h := FarOk.start ns l n b hb
    refine ⟨h, fun v => ?_, fun v h1 h2 => by omega⟩
    have e : ofList ((List.replicate n (-1)).set b 0) = upd (fun _ => -1) b 0 := by rw [ofList_set (by simpa using hb), ofList_rep]
    show ofList ((List.replicate n (-1)).set b 0) v ≤ _
    rw [e]; unfold upd
    split
    · omega
    · show (-1 : Int) ≤ _
      omega
  | succ k ih =>
    have hr := farRound_in ih.ok (d := k) (by omega) hl
    have hle : ∀ v, ofList (farRound ns l k (farTo ns l n b k)) v ≤ (k : Int) + 1 := by
      intro v
      rcases Int.lt_or_le (ofList (farTo ns l n b k) v) 0 with h1 | h1
      · rcases Int.lt_or_le (ofList (farRound ns l k (farTo ns l n b k)) v) 0 with h2 | h2
        · omega
        · have := hr.new v h1 h2; omega
      · have := hr.keep v h1; have := ih.le v; omega
    refine ⟨hr.ok, fun v => by have := hle v; show ofList (farRound ns l k (farTo ns l n b k)) v ≤ _; omega, fun v h1 h2 i hi hinc => ?_⟩
    change 0 ≤ ofList (farRound ns l k (farTo ns l n b k)) v at h1
    change ofList (farRound ns l k (farTo ns l n b k)) v < _ at h2
    show 0 ≤ ofList (farRound ns l k (farTo ns l n b k)) _ ∧ ofList (farRound ns l k (farTo ns l n b k)) _ ≤ ofList (farRound ns l k (farTo ns l n b k)) v + 1
    have h0 : 0 ≤ ofList (farTo ns l n b k) v := by
      rcases Int.lt_or_le (ofList (farTo ns l n b k) v) 0 with h3 | h3
      · have := hr.new v h3 h1; omega
      · exact h3
    have hk := hr.keep v h0
    by_cases hd : ofList (farTo ns l n b k) v = k
    · have h4 := hr.near v hd i hi hinc
      exact ⟨h4, by have := hle (oth ns i v); omega⟩
    · have h5 := ih.le v
      obtain ⟨h6, h7⟩ := ih.done v h0 (by omega) i hi hinc
      have h8 := hr.keep _ h6
      omega

theorem farOf_dist {ns : List (Nat × Nat)} {U : Nat → Bool} {n b : Nat} (hb : b < n) (he : ∀ (k : Nat) e, ns[k]? = some e → e.1 < n ∧ e.2 < n ∧ e.1 ≠ e.2) :
    IsDist ns U b (ofList (farOf ns ((List.range ns.length).filter U) n b)) := by
  have hl : ∀ i ∈ (List.range ns.length).filter U, ∃ e, ns[i]? = some e ∧ e.1 < n ∧ e.2 < n := by
    intro i hi
    have hi := List.mem_range.1 (List.mem_filter.1 hi).1
    have h := he i _ (List.getElem?_eq_getElem hi)
    exact ⟨_, List.getElem?_eq_getElem hi, h.1, h.2.1⟩
  have h := farTo_at hb hl n
  refine ⟨h.ok.zero, fun v => ?_, fun v hv i hU hinc => ?_⟩
  · rcases h.ok.from_ v with h1 | h1 | ⟨h1, i, h2, h3, h4⟩
    · exact .inl h1
    · exact .inr (.inl h1)
    · exact .inr (.inr ⟨h1, i, (List.mem_filter.1 h2).2, h3, h4⟩)
  · have hbd := h.ok.bd v
    exact h.done v hv (by unfold farOf at hv; omega) i (List.mem_filter.2 ⟨List.mem_range.2 (inc_lt hinc), hU⟩) hinc

def distOf (ns : List (Nat × Nat)) (U : Nat → Bool) (n b : Nat) : Nat → Int := ofList (farOf ns ((List.range ns.length).filter U) n b)

end Go.Proofs.Ytcaeemcobgopmaa
