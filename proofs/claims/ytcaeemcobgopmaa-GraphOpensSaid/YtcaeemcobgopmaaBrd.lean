/-
  Graph, plain: the search of Bridges finds exactly the edges without which their ends are not joined.
-/
import Derived.Test.YtcaeemcobgopmaaGrV
namespace Go.Proofs.Ytcaeemcobgopmaa
set_option linter.unusedVariables false

/-- The edges but one. -/
def without (ns : List (Nat × Nat)) (j : Nat) : List (Nat × Nat) := ns.take j ++ ns.drop (j + 1)
def bridge (ns : List (Nat × Nat)) (j : Nat) : Bool := match ns[j]? with | some e => decide (lbl (without ns j) e.1 ≠ lbl (without ns j) e.2) | none => false

theorem mem_without {ns : List (Nat × Nat)} {j k : Nat} {e : Nat × Nat} (h : ns[k]? = some e) (hne : k ≠ j) : e ∈ without ns j := by
  unfold without
  rcases Nat.lt_or_ge k j with hk | hk
  · exact List.mem_append.2 (.inl (List.mem_of_getElem? (i := k) (by rw [List.getElem?_take_of_lt hk]; exact h)))
  · refine List.mem_append.2 (.inr (List.mem_of_getElem? (i := k - (j + 1)) ?_))
    rw [List.getElem?_drop, show j + 1 + (k - (j + 1)) = k by omega]; exact h
theorem of_mem_without {ns : List (Nat × Nat)} {j : Nat} {e : Nat × Nat} (h : e ∈ without ns j) : ∃ k, k ≠ j ∧ ns[k]? = some e := by
  unfold without at h
  rcases List.mem_append.1 h with h | h
  · obtain ⟨k, hk, rfl⟩ := List.getElem_of_mem h
    have hk' : k < j ∧ k < ns.length := by simp at hk; omega
    exact ⟨k, by omega, by rw [List.getElem_take, List.getElem?_eq_getElem hk'.2]⟩
  · obtain ⟨k, hk, rfl⟩ := List.getElem_of_mem h
    have hk' : j + 1 + k < ns.length := by simp at hk; omega
    exact ⟨j + 1 + k, by omega, by rw [List.getElem_drop, List.getElem?_eq_getElem hk']⟩

/-- Joined by the edges that lie wholly within a set of nodes. -/
def Con (ns : List (Nat × Nat)) (S : Nat → Prop) (x y : Nat) : Prop := ∀ g : Nat → Nat, (∀ (k : Nat) e, ns[k]? = some e → S e.1 → S e.2 → g e.1 = g e.2) → g x = g y
theorem Con.refl (ns : List (Nat × Nat)) (S : Nat → Prop) (x : Nat) : Con ns S x x := fun _ _ => rfl
theorem Con.symm {ns : List (Nat × Nat)} {S : Nat → Prop} {x y : Nat} (h : Con ns S x y) : Con ns S y x := fun g hg => (h g hg).symm
theorem Con.trans {ns : List (Nat × Nat)} {S : Nat → Prop} {x y z : Nat} (h : Con ns S x y) (h' : Con ns S y z) : Con ns S x z := fun g hg => (h g hg).trans (h' g hg)
theorem Con.mono {ns : List (Nat × Nat)} {S S' : Nat → Prop} {x y : Nat} (h : Con ns S x y) (hs : ∀ z, S z → S' z) : Con ns S' x y := fun g hg => h g fun k e he h1 h2 => hg k e he (hs _ h1) (hs _ h2)
theorem Con.edge {ns : List (Nat × Nat)} {S : Nat → Prop} {i v : Nat} (h : inc ns i v = true) (h1 : S v) (h2 : S (oth ns i v)) : Con ns S v (oth ns i v) := by
  obtain ⟨e, he, hc⟩ := inc_cases h
  intro g hg
  rcases hc with ⟨rfl, ho⟩ | ⟨rfl, ho⟩
  · rw [ho] at h2 ⊢; exact hg i e he h1 h2
  · rw [ho] at h2 ⊢; exact (hg i e he h2 h1).symm
/-- Joined without the edge j, if one of j's ends lies without the set. -/
theorem Con.lbl {ns : List (Nat × Nat)} {S : Nat → Prop} {j x y v : Nat} (h : Con ns S x y) (hj : inc ns j v = true) (hv : ¬ S v) : lbl (without ns j) x = lbl (without ns j) y := by
  refine h _ fun k e he h1 h2 => ?_
  refine lbl_edge _ _ (mem_without he fun e' => ?_)
  subst e'
  obtain ⟨e', he', hc⟩ := inc_cases hj
  rw [he] at he'
  cases he'
  rcases hc with ⟨hc, _⟩ | ⟨hc, _⟩
  · exact hv (hc ▸ h1)
  · exact hv (hc ▸ h2)
theorem without_edge {ns : List (Nat × Nat)} {i j v : Nat} (h : inc ns i v = true) (hne : i ≠ j) : lbl (without ns j) v = lbl (without ns j) (oth ns i v) := by
  obtain ⟨e, he, hc⟩ := inc_cases h
  have := lbl_edge _ _ (mem_without he hne)
  rcases hc with ⟨rfl, ho⟩ | ⟨rfl, ho⟩
  · rw [ho]; exact this
  · rw [ho]; exact this.symm
theorem not_bridge {ns : List (Nat × Nat)} {j v : Nat} (hj : inc ns j v = true) (h : lbl (without ns j) v = lbl (without ns j) (oth ns j v)) : bridge ns j = false := by
  obtain ⟨e, he, hc⟩ := inc_cases hj
  unfold bridge
  rw [he]
  refine decide_eq_false fun hne => hne ?_
  rcases hc with ⟨rfl, ho⟩ | ⟨rfl, ho⟩
  · rw [ho] at h; exact h
  · rw [ho] at h; exact h.symm
/-- A set that only the edge j leaves. -/
theorem is_bridge {ns : List (Nat × Nat)} {j v : Nat} (S : Nat → Prop) (hj : inc ns j v = true) (hv : ¬ S v) (ho : S (oth ns j v)) (hS : ∀ (k x : Nat), k ≠ j → inc ns k x = true → S x → S (oth ns k x)) : bridge ns j = true := by
  classical
  have key : ∀ x y, lbl (without ns j) x = lbl (without ns j) y → (decide (S x) = decide (S y)) := by
    refine lbl_const (without ns j) (fun x => decide (S x)) fun e he => ?_
    obtain ⟨k, hk, he⟩ := of_mem_without he
    have i1 : inc ns k e.1 = true := by unfold inc; rw [he]; simp
    have i2 : inc ns k e.2 = true := by unfold inc; rw [he]; simp
    have h1 := hS k e.1 hk i1
    have h2 := hS k e.2 hk i2
    rw [oth_fst he] at h1
    rw [oth_snd he] at h2
    show decide (S e.1) = decide (S e.2)
    exact decide_eq_decide.2 ⟨h1, h2⟩
  have hne : lbl (without ns j) v ≠ lbl (without ns j) (oth ns j v) := by
    intro e
    have := decide_eq_decide.1 (key _ _ e)
    exact hv (this.2 ho)
  obtain ⟨e, he, hc⟩ := inc_cases hj
  unfold bridge
  rw [he]
  refine decide_eq_true ?_
  rcases hc with ⟨rfl, h1⟩ | ⟨rfl, h1⟩
  · rw [h1] at hne; exact hne
  · rw [h1] at hne; exact fun e => hne e.symm

/-! ### the search -/
def DS.o (s : DS) (v : Nat) : Nat := s.ord.getD v 0
def DS.l (s : DS) (v : Nat) : Nat := s.low.getD v 0
def DS.b (s : DS) (j : Nat) : Bool := s.br.getD j false
def Vis (s : DS) (v : Nat) : Prop := 0 < s.o v

/-- A node that is done: its edges lead to seen nodes, and are known. -/
def Done (ns : List (Nat × Nat)) (s : DS) (y : Nat) : Prop := ∀ j, inc ns j y = true → Vis s (oth ns j y) ∧ (bridge ns j = true → s.b j = true)

structure Pre (n : Nat) (ns : List (Nat × Nat)) (G : Nat → Prop) (v : Nat) (b : Int) (s : DS) : Prop where
  ok : SOk n ns.length s
  new : ¬ Vis s v
  grey : ∀ y, G y → Vis s y
  con : ∀ x y, G x → G y → Con ns (Vis s) x y
  done : ∀ y, Vis s y → ¬ G y → Done ns s y
  right : ∀ j, s.b j = true → bridge ns j = true
  cnt : ∀ y, s.o y ≤ s.cnt
  by_ : (b < 0 ∧ ∀ y, ¬ G y) ∨ ∃ i : Nat, b = (i : Int) ∧ inc ns i v = true ∧ G (oth ns i v)

def New (s t : DS) (x : Nat) : Prop := Vis t x ∧ ¬ Vis s x

/-- What the search from v has done so far: the edges that P holds of v's have been looked at. -/
structure Mid (n : Nat) (ns : List (Nat × Nat)) (v : Nat) (b : Int) (s : DS) (P : Nat → Prop) (t : DS) : Prop where
  ok : SOk n ns.length t
  stay : ∀ y, Vis s y → t.o y = s.o y
  self : t.o v = s.cnt + 1
  cnt : ∀ y, t.o y ≤ t.cnt
  cnts : s.cnt + 1 ≤ t.cnt
  late : ∀ y, New s t y → s.cnt < t.o y
  low : ∀ y, Vis s y → t.l y = s.l y
  newd : ∀ x, New s t x → x ≠ v → Done ns t x
  selfd : ∀ j, P j → inc ns j v = true → Vis t (oth ns j v) ∧ ((j : Int) ≠ b → bridge ns j = true → t.b j = true)
  right : ∀ j, t.b j = true → bridge ns j = true
  keep : ∀ j, bridge ns j = true → s.b j = true → t.b j = true
  con : ∀ x, New s t x → Con ns (New s t) v x
  lo : ∀ x j, New s t x → (x ≠ v ∨ P j) → inc ns j x = true → (j : Int) ≠ b → Vis s (oth ns j x) → t.l v ≤ s.o (oth ns j x)
  hi : t.l v ≤ s.cnt → ∃ x j, New s t x ∧ inc ns j x = true ∧ (j : Int) ≠ b ∧ Vis s (oth ns j x) ∧ s.o (oth ns j x) ≤ t.l v

theorem getD_set {α : Type} (l : List α) (v y : Nat) (x d : α) (h : v < l.length) : (l.set v x).getD y d = if y = v then x else l.getD y d := by
  simp only [List.getD]
  by_cases e : v = y
  · subst e; rw [List.getElem?_set_self h, if_pos rfl]; rfl
  · rw [List.getElem?_set_ne e, if_neg (fun e' => e e'.symm)]

theorem inc_two {ns : List (Nat × Nat)} {i v x : Nat} (h : inc ns i v = true) (hx : inc ns i x = true) : x = v ∨ x = oth ns i v := by
  obtain ⟨e, he, hc⟩ := inc_cases h
  obtain ⟨e', he', hc'⟩ := inc_cases hx
  rw [he] at he'
  cases he'
  omega
theorem oth_ne {ns : List (Nat × Nat)} {n i v : Nat} (he : Ends n ns) (h : inc ns i v = true) : oth ns i v ≠ v := by
  obtain ⟨e, h0, hc⟩ := inc_cases h
  have := (he i e h0).2.2
  omega

section
variable {n : Nat} {ns : List (Nat × Nat)} {G : Nat → Prop} {v : Nat} {b : Int} {s t : DS}

theorem Done.mono {y : Nat} (h : Done ns s y) (hv : ∀ z, Vis s z → Vis t z) (hb : ∀ j, bridge ns j = true → s.b j = true → t.b j = true) : Done ns t y :=
  fun j hj => ⟨hv _ (h j hj).1, fun hj' => hb j hj' ((h j hj).2 hj')⟩

theorem Mid.vis {P : Nat → Prop} (h : Mid n ns v b s P t) : ∀ z, Vis s z → Vis t z := fun z hz => by
  have := h.stay z hz
  unfold Vis at hz ⊢
  omega

theorem Pre.zero (h : Pre n ns G v b s) (hv : v < n) : s.ord[v]? = some 0 := by
  have h1 := getD_some (l := s.ord) (k := v) (by rw [h.ok.ord]; exact hv)
  have h2 : s.ord.getD v 0 = 0 := by have := h.new; unfold Vis DS.o at this; omega
  rw [h2] at h1; exact h1

theorem Mid.start (h : Pre n ns G v b s) (hv : v < n) : Mid n ns v b s (fun _ => False) (s.enter v) := by
  have hok := (h.ok.enter (h.zero hv)).1
  have ho : ∀ y, (s.enter v).o y = if y = v then s.cnt + 1 else s.o y := fun y => getD_set _ _ _ _ _ (by rw [h.ok.ord]; exact hv)
  have hl : ∀ y, (s.enter v).l y = if y = v then s.cnt + 1 else s.l y := fun y => getD_set _ _ _ _ _ (by rw [h.ok.low]; exact hv)
  have hne : ∀ y, Vis s y → y ≠ v := fun y hy e => h.new (e ▸ hy)
  have hnew : ∀ y, New s (s.enter v) y → y = v := fun y hy => by
    by_cases e : y = v
    · exact e
    · have := hy.1
      unfold Vis at this
      rw [ho, if_neg e] at this
      exact absurd this hy.2
  refine ⟨hok, fun y hy => by rw [ho, if_neg (hne y hy)], by rw [ho, if_pos rfl], fun y => ?_, Nat.le_refl _, fun y hy => ?_, fun y hy => by rw [hl, if_neg (hne y hy)], fun x hx he => absurd (hnew x hx) he,
    fun j hj => hj.elim, h.right, fun j _ hj => hj, fun x hx => by rw [hnew x hx]; exact Con.refl _ _ _, fun x j hx hj => ?_, fun hle => ?_⟩
  · rw [ho]
    show _ ≤ s.cnt + 1
    have := h.cnt y
    split <;> omega
  · rw [ho, if_pos (hnew y hy)]; omega
  · rcases hj with hj | hj
    · exact absurd (hnew x hx) hj
    · exact hj.elim
  · rw [hl, if_pos rfl] at hle; omega

theorem Mid.skip {P : Nat → Prop} (h : Pre n ns G v b s) (hm : Mid n ns v b s P t) {i : Nat} (hi : (i : Int) = b) : Mid n ns v b s (fun j => P j ∨ j = i) t := by
  refine ⟨hm.ok, hm.stay, hm.self, hm.cnt, hm.cnts, hm.late, hm.low, hm.newd, fun j hj hjv => ?_, hm.right, hm.keep, hm.con, fun x j hx hj hjx hjb hy => ?_, hm.hi⟩
  · rcases hj with hj | rfl
    · exact hm.selfd j hj hjv
    · refine ⟨?_, fun hne => absurd hi hne⟩
      rcases h.by_ with ⟨h1, _⟩ | ⟨i', h1, h2, h3⟩
      · omega
      · have : i' = j := by omega
        subst this
        exact hm.vis _ (h.grey _ h3)
  · rcases hj with hj | hj | hj
    · exact hm.lo x j hx (.inl hj) hjx hjb hy
    · exact hm.lo x j hx (.inr hj) hjx hjb hy
    · subst hj; exact absurd hi hjb

theorem Mid.seen {P : Nat → Prop} (h : Pre n ns G v b s) (hm : Mid n ns v b s P t) (he : Ends n ns) (hv : v < n) {i : Nat} (hi : inc ns i v = true) (hib : (i : Int) ≠ b) (hk : Vis t (oth ns i v)) : Mid n ns v b s (fun j => P j ∨ j = i) (t.old v (oth ns i v)) := by
  have hkv := oth_ne he hi
  obtain ⟨hi1, hi2⟩ := inc_oth hi
  obtain ⟨k, hke⟩ : ∃ k, oth ns i v = k := ⟨_, rfl⟩
  have hl : ∀ y, (t.old v k).l y = if y = v then min (t.l v) (t.o k) else t.l y := fun y => getD_set _ _ _ _ _ (by rw [hm.ok.low]; exact hv)
  have hnv : New s t v := ⟨by unfold Vis; rw [hm.self]; omega, h.new⟩
  have hne : ∀ y, Vis s y → y ≠ v := fun y hy e => h.new (e ▸ hy)
  rw [hke] at hk hkv hi1 hi2 ⊢
  refine ⟨hm.ok.old, hm.stay, hm.self, hm.cnt, hm.cnts, hm.late, fun y hy => by rw [hl, if_neg (hne y hy)]; exact hm.low y hy, hm.newd, fun j hj hjv => ?_, hm.right, hm.keep, hm.con, fun x j hx hj hjx hjb hy => ?_, fun hle => ?_⟩
  · rcases hj with hj | rfl
    · exact hm.selfd j hj hjv
    · rw [hke]
      refine ⟨hk, fun _ hbr => ?_⟩
      by_cases hks : Vis s k
      · by_cases hg : G k
        · rcases h.by_ with ⟨_, h1⟩ | ⟨i', h1, h2, h3⟩
          · exact absurd hg (h1 k)
          · have hne' : i' ≠ j := fun e => hib (by rw [h1, e])
            have := not_bridge hi (((without_edge h2 hne').trans (Con.lbl (h.con _ _ h3 hg) hi h.new)).trans (by rw [hke]))
            rw [this] at hbr; cases hbr
        · have := (h.done k hks hg j hi1).1
          rw [hi2] at this
          exact absurd this h.new
      · exact (hm.newd k ⟨hk, hks⟩ hkv j hi1).2 hbr
  · rw [hl, if_pos rfl]
    have old : (x ≠ v ∨ P j) → min (t.l v) (t.o k) ≤ s.o (oth ns j x) := fun h' => by
      have := hm.lo x j hx h' hjx hjb hy
      omega
    rcases hj with hj | hj | hj
    · exact old (.inl hj)
    · exact old (.inr hj)
    · by_cases hxv : x = v
      · subst hxv; subst hj
        rw [hke] at hy ⊢
        have := hm.stay k hy
        omega
      · exact old (.inl hxv)
  · rw [hl, if_pos rfl] at hle ⊢
    rcases Nat.le_total (t.l v) (t.o k) with hc | hc
    · rw [Nat.min_eq_left hc] at hle ⊢
      exact hm.hi hle
    · rw [Nat.min_eq_right hc] at hle ⊢
      have hks : Vis s k := by
        by_cases hks : Vis s k
        · exact hks
        · have := hm.late k ⟨hk, hks⟩; omega
      refine ⟨v, i, hnv, hi, hib, by rw [hke]; exact hks, by rw [hke, hm.stay k hks]; omega⟩

/-- What the search from a child may rely on. -/
theorem Mid.child {P : Nat → Prop} (h : Pre n ns G v b s) (hm : Mid n ns v b s P t) {i : Nat} (hi : inc ns i v = true) (hk : ¬ Vis t (oth ns i v)) : Pre n ns (fun y => G y ∨ y = v) (oth ns i v) i t := by
  obtain ⟨hi1, hi2⟩ := inc_oth hi
  have hvv : Vis t v := by unfold Vis; rw [hm.self]; omega
  have up : ∀ x, G x → Con ns (Vis t) v x := fun x hx => by
    rcases h.by_ with ⟨_, h1⟩ | ⟨i', h1, h2, h3⟩
    · exact absurd hx (h1 x)
    · exact (Con.edge h2 hvv (hm.vis _ (h.grey _ h3))).trans ((h.con _ _ h3 hx).mono hm.vis)
  refine ⟨hm.ok, hk, fun y hy => ?_, fun x y hx hy => ?_, fun y hy hg => ?_, hm.right, hm.cnt, .inr ⟨i, rfl, hi1, .inr hi2⟩⟩
  · rcases hy with hy | rfl
    · exact hm.vis _ (h.grey _ hy)
    · exact hvv
  · rcases hx with hx | rfl <;> rcases hy with hy | rfl
    · exact (h.con x y hx hy).mono hm.vis
    · exact (up x hx).symm
    · exact up y hy
    · exact Con.refl _ _ _
  · have hg1 : ¬ G y := fun e => hg (.inl e)
    have hg2 : y ≠ v := fun e => hg (.inr e)
    by_cases hs : Vis s y
    · exact (h.done y hs hg1).mono hm.vis hm.keep
    · exact hm.newd y ⟨hy, hs⟩ hg2

theorem Mid.tree {P : Nat → Prop} {u : DS} (h : Pre n ns G v b s) (hm : Mid n ns v b s P t) (he : Ends n ns) (hv : v < n) {i : Nat} (hi : inc ns i v = true) (hib : (i : Int) ≠ b) (hk : ¬ Vis t (oth ns i v))
    (hc : Mid n ns (oth ns i v) i t (fun _ => True) u) : Mid n ns v b s (fun j => P j ∨ j = i) (u.back v (oth ns i v) i) := by
  have hp := hm.child h hi hk
  have hkv := oth_ne he hi
  obtain ⟨hi1, hi2⟩ := inc_oth hi
  have hil := inc_lt hi
  obtain ⟨k, hke⟩ : ∃ k, oth ns i v = k := ⟨_, rfl⟩
  rw [hke] at hk hkv hi1 hi2 hp hc ⊢
  have hvv : Vis t v := by unfold Vis; rw [hm.self]; omega
  have hvu : u.o v = s.cnt + 1 := (hc.stay v hvv).trans hm.self
  have hku : Vis u k := by unfold Vis; rw [hc.self]; omega
  have hlv : u.l v = t.l v := hc.low v hvv
  have hl : ∀ y, (u.back v k i).l y = if y = v then min (t.l v) (u.l k) else u.l y := fun y => by
    rw [← hlv]; exact getD_set _ _ _ _ _ (by rw [hc.ok.low]; exact hv)
  have hb : ∀ j, (u.back v k i).b j = if j = i then decide (u.o v < u.l k) else u.b j := fun j => by
    have e : (u.back v k i).b j = if j = i then decide (u.o v < (u.back v k i).l k) else u.b j := getD_set _ _ _ _ _ (by rw [hc.ok.br]; exact hil)
    rw [e, hl, if_neg hkv]
  have hne : ∀ y, Vis s y → y ≠ v := fun y hy e => h.new (e ▸ hy)
  have grown : ∀ x, New s t x → New s u x := fun x hx => ⟨hc.vis _ hx.1, hx.2⟩
  have grown' : ∀ x, New t u x → New s u x := fun x hx => ⟨hx.1, fun e => hx.2 (hm.vis _ e)⟩
  have hnk : New t u k := ⟨hku, hk⟩
  have hnv : New s u v := ⟨hc.vis _ hvv, h.new⟩
  -- a seen node beside an unseen one is grey
  have grey : ∀ y j, Vis t y → inc ns j y = true → ¬ Vis t (oth ns j y) → G y ∨ y = v := fun y j hy hj hn => by
    by_cases hg : G y ∨ y = v
    · exact hg
    · exact absurd (hp.done y hy hg j hj).1 hn
  -- the children's edges
  have kid : ∀ x, New t u x → ∀ j, inc ns j x = true → Vis u (oth ns j x) ∧ (j ≠ i → bridge ns j = true → u.b j = true) := fun x hx j hj => by
    by_cases hxk : x = k
    · subst hxk
      obtain ⟨h1, h2⟩ := hc.selfd j trivial hj
      exact ⟨h1, fun hne => h2 (by omega)⟩
    · obtain ⟨h1, h2⟩ := hc.newd x hx hxk j hj
      exact ⟨h1, fun _ => h2⟩
  have hbr : (u.back v k i).b i = bridge ns i := by
    rw [hb, if_pos rfl]
    by_cases hlt : u.o v < u.l k
    · rw [decide_eq_true hlt]
      refine (is_bridge (New t u) hi (fun e => e.2 hvv) (by rw [hke]; exact hnk) fun j x hj hjx hx => ⟨(kid x hx j hjx).1, fun hy => ?_⟩).symm
      have h1 := hc.lo x j hx (.inr trivial) hjx (by omega) hy
      obtain ⟨hj1, hj2⟩ := inc_oth hjx
      have h2 := grey _ j hy hj1 (by rw [hj2]; exact hx.2)
      rcases h2 with h2 | h2
      · have h3 := hm.stay _ (h.grey _ h2)
        have h4 := h.cnt (oth ns j x)
        omega
      · rw [h2, hm.self] at h1; omega
    · rw [decide_eq_false hlt]
      obtain ⟨x, j, hx, hjx, hji, hy, hle⟩ := hc.hi (by have := hm.cnts; omega)
      obtain ⟨hj1, hj2⟩ := inc_oth hjx
      have h2 := grey _ j hy hj1 (by rw [hj2]; exact hx.2)
      have c1 : lbl (without ns i) k = lbl (without ns i) x := (hc.con x hx).lbl hi (fun e => e.2 hvv)
      have c2 : lbl (without ns i) x = lbl (without ns i) (oth ns j x) := without_edge hjx (by omega)
      have c3 : lbl (without ns i) (oth ns j x) = lbl (without ns i) v := (hp.con _ _ h2 (.inr rfl)).lbl hi1 hk
      exact (not_bridge hi (by rw [hke]; exact ((c1.trans c2).trans c3).symm)).symm
  have keepb : ∀ j, bridge ns j = true → (j ≠ i → u.b j = true) → (u.back v k i).b j = true := fun j hj hu => by
    by_cases e : j = i
    · subst e; rw [hbr]; exact hj
    · rw [hb, if_neg e]; exact hu e
  refine ⟨hc.ok.back, fun y hy => (hc.stay y (hm.vis _ hy)).trans (hm.stay y hy), hvu, hc.cnt, by have := hm.cnts; have := hc.cnts; show _ ≤ u.cnt; omega, fun y hy => ?_, fun y hy => ?_, fun x hx hxv j hj => ?_, fun j hj hjv => ?_, fun j hj => ?_, fun j hj hs => ?_, fun x hx => ?_, fun x j hx hj hjx hjb hy => ?_, fun hle => ?_⟩
  · by_cases ht : Vis t y
    · have := hc.stay y ht
      have h2 := hm.late y ⟨ht, hy.2⟩
      show s.cnt < u.o y
      omega
    · have h2 := hc.late y ⟨hy.1, ht⟩
      have := hm.cnts
      show s.cnt < u.o y
      omega
  · rw [hl, if_neg (hne y hy), hc.low y (hm.vis _ hy), hm.low y hy]
  · by_cases ht : Vis t x
    · obtain ⟨h1, h2⟩ := hm.newd x ⟨ht, hx.2⟩ hxv j hj
      exact ⟨hc.vis _ h1, fun hj' => keepb j hj' fun _ => hc.keep j hj' (h2 hj')⟩
    · obtain ⟨h1, h2⟩ := kid x ⟨hx.1, ht⟩ j hj
      exact ⟨h1, fun hj' => keepb j hj' fun hji => h2 hji hj'⟩
  · rcases hj with hj | rfl
    · obtain ⟨h1, h2⟩ := hm.selfd j hj hjv
      exact ⟨hc.vis _ h1, fun hjb hj' => keepb j hj' fun _ => hc.keep j hj' (h2 hjb hj')⟩
    · rw [hke]
      exact ⟨hku, fun _ hj' => by rw [hbr]; exact hj'⟩
  · by_cases e : j = i
    · subst e; rw [← hbr]; exact hj
    · rw [hb, if_neg e] at hj; exact hc.right j hj
  · exact keepb j hj fun _ => hc.keep j hj (hm.keep j hj hs)
  · by_cases ht : Vis t x
    · exact (hm.con x ⟨ht, hx.2⟩).mono grown
    · have e1 : Con ns (New s u) v k := by
        have := Con.edge (ns := ns) (S := New s u) hi hnv (by rw [hke]; exact grown' k hnk)
        rw [hke] at this; exact this
      exact e1.trans ((hc.con x ⟨hx.1, ht⟩).mono grown')
  · rw [hl, if_pos rfl]
    by_cases ht : Vis t x
    · have old : (x ≠ v ∨ P j) → min (t.l v) (u.l k) ≤ s.o (oth ns j x) := fun h' => by
        have := hm.lo x j ⟨ht, hx.2⟩ h' hjx hjb hy
        omega
      rcases hj with hj | hj | hj
      · exact old (.inl hj)
      · exact old (.inr hj)
      · by_cases hxv : x = v
        · subst hxv; subst hj
          rw [hke] at hy
          exact absurd (hm.vis _ hy) hk
        · exact old (.inl hxv)
    · have hji : j ≠ i := fun e => by
        subst e
        rcases inc_two hi hjx with rfl | e
        · exact ht hvv
        · rw [hke] at e; subst e
          rw [hi2] at hy
          exact h.new hy
      have := hc.lo x j ⟨hx.1, ht⟩ (.inr trivial) hjx (by omega) (hm.vis _ hy)
      rw [hm.stay _ hy] at this
      omega
  · rw [hl, if_pos rfl] at hle ⊢
    rcases Nat.le_total (t.l v) (u.l k) with hcc | hcc
    · rw [Nat.min_eq_left hcc] at hle ⊢
      obtain ⟨x, j, h1, h2⟩ := hm.hi hle
      exact ⟨x, j, grown x h1, h2⟩
    · rw [Nat.min_eq_right hcc] at hle ⊢
      obtain ⟨x, j, hx, hjx, hji, hy, hlo⟩ := hc.hi (by have := hm.cnts; omega)
      obtain ⟨hj1, hj2⟩ := inc_oth hjx
      have hyv : oth ns j x ≠ v := fun e => by rw [e, hm.self] at hlo; omega
      have hg : G (oth ns j x) := by
        rcases grey _ j hy hj1 (by rw [hj2]; exact hx.2) with h2 | h2
        · exact h2
        · exact absurd h2 hyv
      have hys := h.grey _ hg
      refine ⟨x, j, grown' x hx, hjx, fun e => ?_, hys, by rw [← hm.stay _ hys]; exact hlo⟩
      rcases h.by_ with ⟨h1, _⟩ | ⟨i', h1, h2, h3⟩
      · omega
      · have : i' = j := by omega
        subst this
        rcases inc_two h2 hjx with rfl | e'
        · exact hx.2 hvv
        · rw [← e'] at h3
          exact hx.2 (hm.vis _ (h.grey _ h3))
end

theorem visit_mid {n : Nat} {ns : List (Nat × Nat)} {rows : List (List Nat)} (he : Ends n ns) (hr : RowOk ns (fun _ => true) n rows) :
    ∀ (f v : Nat) (b : Int) (G : Nat → Prop) (s : DS), v < n → Pre n ns G v b s → zeros s.ord ≤ f → Mid n ns v b s (fun _ => True) (visitF rows ns f v b s) := by
  intro f
  induction f with
  | zero => intro v b G s hv h hz; have := zeros_pos (h.zero hv); omega
  | succ f ih =>
    intro v b G s hv h hz
    rw [visitF]
    have hst := Mid.start h hv
    have hzz := (h.ok.enter (h.zero hv)).2
    have hrow : rows[v]? = some (rows.getD v []) := by simp [List.getD, List.getElem?_eq_getElem (show v < rows.length by rw [hr.1]; exact hv)]
    obtain ⟨row, hrw⟩ : ∃ row, rows.getD v [] = row := ⟨_, rfl⟩
    rw [hrw] at hrow ⊢
    have hin : ∀ i, i ∈ row ↔ inc ns i v = true := fun i => by have := (hr.2 v row hrow).2 i; simpa using this
    have key : ∀ (l : List Nat), (∀ i ∈ l, inc ns i v = true) → ∀ (P : Nat → Prop) t, zeros t.ord ≤ f → Mid n ns v b s P t → Mid n ns v b s (fun j => P j ∨ j ∈ l) (l.foldl (stepV (visitF rows ns f) ns v b) t) := by
      intro l
      induction l with
      | nil =>
        intro _ P t _ hm
        have e : (fun j => P j ∨ j ∈ ([] : List Nat)) = P := by funext j; simp
        rw [e]; exact hm
      | cons i l ihl =>
        intro hl P t hzt hm
        have hi := hl i (by simp)
        rw [List.foldl_cons]
        have e : (fun j => P j ∨ j ∈ i :: l) = (fun j => (P j ∨ j = i) ∨ j ∈ l) := by funext j; simp [or_assoc]
        rw [e]
        have hs : Mid n ns v b s (fun j => P j ∨ j = i) (stepV (visitF rows ns f) ns v b t i) ∧ zeros (stepV (visitF rows ns f) ns v b t i).ord ≤ f := by
          unfold stepV
          by_cases hb : (i : Int) = b
          · rw [if_pos hb]; exact ⟨Mid.skip h hm hb, hzt⟩
          · rw [if_neg hb]
            by_cases hk : 0 < t.ord.getD (oth ns i v) 0
            · rw [if_pos hk]; exact ⟨Mid.seen h hm he hv hi hb hk, hzt⟩
            · rw [if_neg hk]
              have hp := hm.child h hi hk
              have hkn := oth_lt he hi
              have hc := ih (oth ns i v) i _ t hkn hp hzt
              have hok := (visitF_ok he hr f (oth ns i v) i t hkn (hp.zero hkn) hm.ok).2.1
              exact ⟨Mid.tree h hm he hv hi hb hk hc, Nat.le_trans hok hzt⟩
        exact ihl (fun j hj => hl j (by simp [hj])) _ _ hs.2 hs.1
    have hfin := key row (fun i hi => (hin i).1 hi) _ _ (by omega) hst
    refine ⟨hfin.ok, hfin.stay, hfin.self, hfin.cnt, hfin.cnts, hfin.late, hfin.low, hfin.newd, fun j _ hj => hfin.selfd j (.inr ((hin j).2 hj)) hj, hfin.right, hfin.keep, hfin.con, fun x j hx _ hj => ?_, hfin.hi⟩
    by_cases hxv : x = v
    · subst hxv; exact hfin.lo x j hx (.inr (.inr ((hin j).2 hj))) hj
    · exact hfin.lo x j hx (.inl hxv) hj

structure All (n : Nat) (ns : List (Nat × Nat)) (k : Nat) (s : DS) : Prop where
  ok : SOk n ns.length s
  vis : ∀ y, y < k → Vis s y
  done : ∀ y, Vis s y → Done ns s y
  right : ∀ j, s.b j = true → bridge ns j = true
  cnt : ∀ y, s.o y ≤ s.cnt

theorem getD_replicate {α : Type} (n k : Nat) (x : α) : (List.replicate n x).getD k x = x := by
  simp only [List.getD]
  cases h : (List.replicate n x)[k]? with
  | none => rfl
  | some y => exact get_replicate h

theorem All.start (n : Nat) (ns : List (Nat × Nat)) : All n ns 0 (start n ns.length) := by
  have ho : ∀ y, (Proofs.Ytcaeemcobgopmaa.start n ns.length).o y = 0 := fun y => getD_replicate n y 0
  have hb : ∀ y, (Proofs.Ytcaeemcobgopmaa.start n ns.length).b y = false := fun y => getD_replicate _ y false
  refine ⟨⟨by simp [Proofs.Ytcaeemcobgopmaa.start], by simp [Proofs.Ytcaeemcobgopmaa.start], by simp [Proofs.Ytcaeemcobgopmaa.start], ?_⟩, fun y hy => by omega, fun y hy => ?_, fun j hj => ?_, fun y => ?_⟩
  · show 0 + zeros (List.replicate n 0) = n
    unfold zeros
    rw [List.countP_replicate]; simp
  · unfold Vis at hy; rw [ho] at hy; omega
  · rw [hb] at hj; cases hj
  · rw [ho]; exact Nat.zero_le _

theorem All.all {n : Nat} {ns : List (Nat × Nat)} {rows : List (List Nat)} (he : Ends n ns) (hr : RowOk ns (fun _ => true) n rows) : ∀ k, k ≤ n → All n ns k (visitAll rows ns n k (Proofs.Ytcaeemcobgopmaa.start n ns.length)) := by
  intro k
  induction k with
  | zero => intro _; exact All.start n ns
  | succ k ih =>
    intro hk
    have ih := ih (by omega)
    rw [visitAll]
    obtain ⟨s, hs⟩ : ∃ s, visitAll rows ns n k (Proofs.Ytcaeemcobgopmaa.start n ns.length) = s := ⟨_, rfl⟩
    rw [hs] at ih
    simp only [hs]
    by_cases h0 : s.ord.getD k 0 = 0
    · rw [if_pos h0]
      have hnv : ¬ Vis s k := by unfold Vis DS.o; omega
      have hp : Pre n ns (fun _ => False) k (-1) s := ⟨ih.ok, hnv, fun y hy => hy.elim, fun x y hx => hx.elim, fun y hy _ => ih.done y hy, ih.right, ih.cnt, .inl ⟨by omega, fun _ h => h⟩⟩
      have hz : zeros s.ord ≤ n := by have := ih.ok.cnt; omega
      have hm := visit_mid he hr n k (-1) _ s (by omega) hp hz
      refine ⟨hm.ok, fun y hy => ?_, fun y hy => ?_, hm.right, hm.cnt⟩
      · by_cases e : y = k
        · subst e; unfold Vis; rw [hm.self]; omega
        · exact hm.vis _ (ih.vis y (by omega))
      · by_cases hs : Vis s y
        · exact (ih.done y hs).mono hm.vis hm.keep
        · by_cases e : y = k
          · subst e
            exact fun j hj => ⟨(hm.selfd j trivial hj).1, fun hb => (hm.selfd j trivial hj).2 (by omega) hb⟩
          · exact hm.newd y ⟨hy, hs⟩ e
    · rw [if_neg h0]
      refine ⟨ih.ok, fun y hy => ?_, ih.done, ih.right, ih.cnt⟩
      by_cases e : y = k
      · subst e; unfold Vis DS.o; omega
      · exact ih.vis y (by omega)

theorem besTo_all_ok {n : Nat} {ns : List (Nat × Nat)} {rows : List (List Nat)} (he : Ends n ns) (hr : RowOk ns (fun _ => true) n rows) : (visitAll rows ns n n (Proofs.Ytcaeemcobgopmaa.start n ns.length)).br = (List.range ns.length).map (bridge ns) := by
  have h := All.all he hr n (Nat.le_refl _)
  obtain ⟨s, hs⟩ : ∃ s, visitAll rows ns n n (Proofs.Ytcaeemcobgopmaa.start n ns.length) = s := ⟨_, rfl⟩
  rw [hs] at h ⊢
  refine List.ext_getElem (by rw [h.ok.br]; simp) fun j h1 h2 => ?_
  have hj : j < ns.length := by simpa using h2
  rw [List.getElem_map, List.getElem_range]
  have e : s.b j = s.br[j] := by unfold DS.b; simp [List.getD, h1]
  rw [← e]
  have hin : inc ns j (ns[j]).1 = true := by unfold inc; rw [List.getElem?_eq_getElem hj]; simp
  have hlt := (he j _ (List.getElem?_eq_getElem hj)).1
  have hd := (h.done _ (h.vis _ hlt) j hin).2
  rw [Bool.eq_iff_iff]
  exact ⟨h.right j, hd⟩
end Go.Proofs.Ytcaeemcobgopmaa
