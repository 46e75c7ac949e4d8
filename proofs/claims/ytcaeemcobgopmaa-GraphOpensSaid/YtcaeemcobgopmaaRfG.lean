/-
  Reference 05: Indices, Round, Cycle.
-/
import Derived.Test.YtcaeemcobgopmaaRfD
import Derived.Test.YtcaeemcobgopmaaGrI
import Derived.Test.YtcaeemcobgopmaaLw0
namespace Go.Proofs.Ytcaeemcobgopmaa
open Go.RowKit
set_option linter.unusedVariables false

/-- Round, as the reference goes. -/
def rrnd (ns : List (Nat × Nat)) (f : Nat) : List Nat → List Nat → List Nat → Nat → Bool
  | _, [], _, _ => false
  | done, i :: t, seen, a =>
    if i ∈ done then false else if inc ns i a = false then false
    else if t = [] then oth ns i a == f
    else if oth ns i a ∈ seen then false else rrnd ns f (done ++ [i]) t (seen ++ [oth ns i a]) (oth ns i a)

def fresh (done l : List Nat) : Bool := decide (l.Nodup ∧ ∀ x ∈ l, x ∉ done)
theorem fresh_cons (done : List Nat) (i : Nat) (t : List Nat) : fresh done (i :: t) = (decide (i ∉ done) && fresh (done ++ [i]) t) := by
  unfold fresh
  rw [Bool.eq_iff_iff]
  simp only [decide_eq_true_eq, Bool.and_eq_true, List.nodup_cons, List.mem_cons, List.mem_append, List.mem_nil_iff, or_false]
  constructor
  · rintro ⟨⟨h1, h2⟩, h3⟩
    exact ⟨h3 i (.inl rfl), h2, fun x hx h => by
      rcases h with h | h
      · exact h3 x (.inr hx) h
      · subst h; exact h1 hx⟩
  · rintro ⟨h1, h2, h3⟩
    exact ⟨⟨fun h => h3 i h (.inr rfl), h2⟩, fun x hx => by
      rcases hx with rfl | hx
      · exact h1
      · exact fun h => h3 x hx (.inl h)⟩

theorem rrnd_eq (ns : List (Nat × Nat)) (f : Nat) : ∀ (l done seen : List Nat) (a : Nat) (m : Nat → Option Bool), l ≠ [] → a ∈ seen → (∀ x, (m x).getD false = true ↔ (x ∈ seen ∧ x ≠ a)) →
    rrnd ns f done l seen a = (fresh done l && roundF ns f l m a) := by
  intro l
  induction l with
  | nil => intro _ _ _ _ h; exact absurd rfl h
  | cons i t ih =>
    intro done seen a m _ ha hm
    have hma : (m a).getD false = false := by
      cases h : (m a).getD false
      · rfl
      · exact absurd rfl ((hm a).1 h).2
    rw [rrnd, roundF, fresh_cons, hma]
    by_cases h1 : i ∈ done
    · rw [if_pos h1]; simp [h1]
    · rw [if_neg h1]
      cases h2 : inc ns i a
      · simp
      · rw [if_neg (by simp)]
        simp only [Bool.not_true, Bool.or_false, Bool.false_eq_true, if_false]
        rw [decide_eq_true h1, Bool.true_and]
        by_cases h3 : t = []
        · subst h3
          rw [if_pos rfl, roundF]
          simp [fresh]
        · rw [if_neg h3]
          have hm' : ∀ x, (mput m a true x).getD false = true ↔ x ∈ seen := fun x => by
            unfold mput
            by_cases e : x = a
            · subst e; simp [ha]
            · rw [if_neg e, hm x]; simp [e]
          by_cases h4 : oth ns i a ∈ seen
          · rw [if_pos h4]
            obtain ⟨j, t', rfl⟩ : ∃ j t', t = j :: t' := by
              cases t with
              | nil => exact absurd rfl h3
              | cons j t' => exact ⟨j, t', rfl⟩
            have := (hm' _).2 h4
            rw [roundF, this]
            simp
          · rw [if_neg h4]
            refine ih (done ++ [i]) (seen ++ [oth ns i a]) (oth ns i a) (mput m a true) h3 (by simp) fun x => ?_
            rw [hm' x]
            simp only [List.mem_append, List.mem_singleton]
            constructor
            · intro hx
              exact ⟨.inl hx, fun e => h4 (e ▸ hx)⟩
            · rintro ⟨hx | hx, hne⟩
              · exact hx
              · exact absurd hx hne

/-- Cycle, as the reference goes. -/
def rcyc (ns : List (Nat × Nat)) (ls : List Nat) : Bool :=
  if ls.length < 2 then false else
    rrnd ns (ns.getD (ls.headD 0) (0, 0)).1 [] ls [(ns.getD (ls.headD 0) (0, 0)).1] (ns.getD (ls.headD 0) (0, 0)).1 || rrnd ns (ns.getD (ls.headD 0) (0, 0)).2 [] ls [(ns.getD (ls.headD 0) (0, 0)).2] (ns.getD (ls.headD 0) (0, 0)).2
theorem rcyc_eq (ns : List (Nat × Nat)) (ls : List Nat) : rcyc ns ls = cycLs ns ls := by
  unfold rcyc cycLs
  by_cases h : ls.length < 2
  · rw [if_pos h]; simp [h]
  · rw [if_neg h]
    have hne : ls ≠ [] := by intro e; subst e; simp at h
    have key : ∀ f, rrnd ns f [] ls [f] f = (!dup ls && roundF ns f ls (fun _ => none) f) := fun f => by
      rw [rrnd_eq ns f ls [] [f] f (fun _ => none) hne (by simp) (fun x => by simp)]
      congr 1
      unfold fresh dup
      rw [Bool.eq_iff_iff]
      simp
    rw [key, key]
    cases hd : dup ls
    · simp [h]
    · simp

set_option maxHeartbeats 400000 in
theorem rindices_any (v vl : Value) (ns : List (Nat × Nat)) (L : List Int) (w : World) (hp : NPairs w v ns) (hm : ns.length ≤ 4000) (hl : Ints w vl L) (hll : L.length ≤ 1000000) :
    Calls Try.prog 31 #[v, vl] w fun e w' => e = .returned (.bool (inR ns.length L)) ∧ w = w' := by
  obtain ⟨ao, cap, rfl, _⟩ := hp.open_
  obtain ⟨lo, lcap, rfl, hlc⟩ := hl
  clear hp
  go_enter Try.func31, Try.ntmps31
  go_wp2
  go_loop [5] (fun i => ∃ k : Nat, k ≤ L.length ∧ i = .int .i64 k ∧ Hid (∀ (j : Nat) y, j < k → L[j]? = some y → 0 ≤ y ∧ y < (ns.length : Int))) (fun i => L.length - (intOf i).toNat)
  case atStart => exact ⟨0, Nat.zero_le _, rfl, fun j _ hj => by omega⟩
  case round =>
    obtain ⟨k, hk, rfl, hno⟩ := hrel
    by_cases hlt : k < L.length
    · obtain ⟨b, off, rfl, _, hc⟩ := hlc (by omega)
      obtain ⟨y, hy⟩ : ∃ y, L[k]? = some y := ⟨_, List.getElem?_eq_getElem hlt⟩
      have hck := hc k y hy
      have HY := Lib.hid hy
      have k0 : (0 : Int) ≤ (k : Int) := Int.natCast_nonneg _
      have k1 : (k : Int) < (L.length : Int) := by omega
      clear hc hlc hy
      by_cases h1 : 0 ≤ y ∧ y < (ns.length : Int)
      · obtain ⟨h1, h2⟩ := h1
        go_wp2
        go_round
        case rel => exact ⟨k + 1, by omega, by go_num, fun j z hj hz => by
          by_cases e : j = k
          · subst e; rw [HY.out] at hz; cases hz; exact ⟨h1, h2⟩
          · exact hno j z (by omega) hz⟩
        case measure => simp [intOf]; omega
      · have E := Lib.hid (show inR ns.length L = false by
          unfold inR
          rw [List.all_eq_false]
          refine ⟨y, List.mem_of_getElem? HY.out, ?_⟩
          simp only [Bool.and_eq_true, decide_eq_true_eq]
          exact h1)
        by_cases h2 : y < 0
        · clear h1
          go_wp2
          go_ret
          exact ⟨ret_bool E.out.symm, rfl⟩
        · have h3 : (ns.length : Int) ≤ y := by omega
          clear h1
          go_wp2
          go_ret
          exact ⟨ret_bool E.out.symm, rfl⟩
    · have E := Lib.hid (show inR ns.length L = true by
        unfold inR
        rw [List.all_eq_true]
        intro x hx
        obtain ⟨j, hj, rfl⟩ := List.getElem_of_mem hx
        have := hno j _ (by omega) (List.getElem?_eq_getElem hj)
        simpa using this)
      clear hlc
      go_wp2
      go_ret
      exact ⟨ret_bool E.out.symm, rfl⟩

set_option maxRecDepth 100000 in
set_option maxHeartbeats 4000000 in
theorem rround_any (n : Nat) (v vl : Value) (ns : List (Nat × Nat)) (ls : List Nat) (f : Nat) (w : World) (hg : Gr w n v ns) (hl : Nats w vl ls) (hll : ls.length ≤ 1000000) (hi : ∀ i ∈ ls, i < ns.length) (hf : f < n) :
    Calls Try.prog 56 #[v, vl, .int .i64 (f : Int)] w fun e w' => e = .returned (.bool (rrnd ns f [] ls [f] f)) ∧ Below w.heap.size w w' := by
  have hn := hg.n_le
  have hm := hg.m_le
  have HG := Lib.hid hg
  have HL := Lib.hid hl
  have HI := Lib.hid hi
  obtain ⟨ao, cap, rfl, _⟩ := hg.pairs.open_
  obtain ⟨lo, lcap, rfl, _⟩ := hl
  have HS0 : Hid (Own (w.alloc (.cells #[.int .i64 (f : Int)] 3)) w.heap.size 3 natf (.slice (some ⟨w.heap.size, 0, none⟩) 1 1) [f]) := own_lit w 3 natf f w.heap.size (Nat.le_refl _)
  have hB0 := below_new w (.cells #[.int .i64 (f : Int)] 3)
  clear hg hi
  go_enter Try.func56, Try.ntmps56
  go_wp2_with fail
  go_loopw [7, 8, 9, 10, 11] (fun s7 s8 s9 s10 s11 wr => ∃ (i a : Nat) (seen : List Nat), i ≤ ls.length ∧ s9 = .int .i64 (i : Int) ∧ s8 = .int .i64 (a : Int) ∧ a < n ∧ Hid (Own wr w.heap.size 3 natf s7 seen) ∧ seen.length = i + 1 ∧ Below w.heap.size w wr ∧ Hid (rrnd ns f (ls.take i) (ls.drop i) seen a = rrnd ns f [] ls [f] f)) (fun _ _ s9 _ _ _ => ls.length - (intOf s9).toNat)
  case atStart => exact ⟨0, f, [f], Nat.zero_le _, rfl, rfl, hf, HS0.out, rfl, hB0, rfl⟩
  case round =>
    clear HS0 hB0
    obtain ⟨i, a, seen, hil, rfl, rfl, ha, HS, hsl, hB, HR⟩ := hrel
    by_cases hlt : i < ls.length
    · obtain ⟨x, hx⟩ : ∃ x, ls[i]? = some x := ⟨_, List.getElem?_eq_getElem hlt⟩
      have hxm := HI.out x (List.mem_of_getElem? hx)
      have hdr : ls.drop i = x :: ls.drop (i + 1) := by rw [List.drop_eq_getElem_cons hlt, (List.getElem?_eq_some_iff.1 hx).2]
      rw [hdr, rrnd] at HR
      have HX := Lib.hid hx
      have HSL := Lib.hid hsl
      obtain ⟨wo, rfl⟩ : ∃ wo : World, wo = wr := ⟨_, rfl⟩
      clear hx hdr hsl
      go_wp2_with fail
      go_loopw [10] (fun s10 wr => ∃ k : Nat, k ≤ i ∧ s10 = .int .i64 (k : Int) ∧ Below wo.heap.size wo wr ∧ Hid (∀ (j : Nat) y, j < k → ls[j]? = some y → y ≠ x)) (fun s10 _ => i - (intOf s10).toNat)
      case atStart => exact ⟨0, Nat.zero_le _, rfl, Below.refl _ _, fun j _ hj => by omega⟩
      case round =>
        obtain ⟨k, hk, rfl, hBk, hno⟩ := hrel
        have hBw := bstep hB hBk
        by_cases hki : k < i
        · obtain ⟨y, hy⟩ : ∃ y, ls[k]? = some y := ⟨_, List.getElem?_eq_getElem (by omega)⟩
          obtain ⟨lb, loff, rfl, hlb, c1⟩ := nats_get (HL.out.below hBw) hy
          obtain ⟨lb', loff', hlx, _, c2⟩ := nats_get (HL.out.below hBw) HX.out
          cases hlx
          have HY := Lib.hid hy
          have k0 : (0 : Int) ≤ (k : Int) := Int.natCast_nonneg _
          have k1 : (k : Int) < (ls.length : Int) := by omega
          have i0 : (0 : Int) ≤ (i : Int) := Int.natCast_nonneg _
          have i1 : (i : Int) < (ls.length : Int) := by omega
          clear hy
          by_cases hyx : y = x
          · subst hyx
            have e1 : ((y : Int) == (y : Int)) = true := by simp
            have E : Hid (rrnd ns f [] ls [f] f = false) := by
              show _ = _
              rw [← HR.out, if_pos (List.mem_of_getElem? (i := k) (by rw [List.getElem?_take_of_lt hki]; exact HY.out))]
            go_wp2
            go_quiet (fail)
            go_wp2
            go_ret
            exact ⟨ret_bool E.out.symm, below_drewN' hBw _⟩
          · have e1 : ((y : Int) == (x : Int)) = false := beq_no (by omega)
            have HNE := Lib.hid hyx
            clear hyx
            go_wp2
            go_quiet (fail)
            go_wp2
            go_roundw
            case rel => exact ⟨k + 1, by omega, by go_num, below_drewN' hBk _, fun j z hj hz => by
              by_cases e : j = k
              · subst e; rw [HY.out] at hz; cases hz; exact HNE.out
              · exact hno j z (by omega) hz⟩
            case measure => simp [intOf]; omega
        · obtain rfl : k = i := by omega
          have HR2 : Hid ((if inc ns x a = false then false else if ls.drop (k + 1) = [] then oth ns x a == f else if oth ns x a ∈ seen then false else rrnd ns f (ls.take k ++ [x]) (ls.drop (k + 1)) (seen ++ [oth ns x a]) (oth ns x a)) = rrnd ns f [] ls [f] f) := by
            have hnm : x ∉ ls.take k := by
              intro hm
              obtain ⟨j, hj, e⟩ := List.getElem_of_mem hm
              have hjk : j < k ∧ j < ls.length := by simp at hj; omega
              rw [List.getElem_take] at e
              exact hno j x hjk.1 (by rw [List.getElem?_eq_getElem hjk.2, e]) rfl
            have := HR.out
            rw [if_neg hnm] at this
            exact this
          obtain ⟨⟨p, q⟩, hpq⟩ : ∃ e, ns[x]? = some e := ⟨_, List.getElem?_eq_getElem hxm⟩
          obtain ⟨eb, eoff, rfl, hebl, d1, d2⟩ := (HG.out.pairs.below hBw).edge hpq
          obtain ⟨lb, loff, rfl, hlb, c1⟩ := nats_get (HL.out.below hBw) HX.out
          have HPQ := Lib.hid hpq
          have HS2 := Lib.hid (HS.out.below hBk)
          have k0 : (0 : Int) ≤ (k : Int) := Int.natCast_nonneg _
          have k1 : (k : Int) < (ls.length : Int) := by omega
          have x0 : (0 : Int) ≤ (x : Int) := Int.natCast_nonneg _
          have x1 : (x : Int) < (ns.length : Int) := by omega
          simp only at d1 d2
          clear hpq hno HR HS
          go_wp2_with fail
          refine (rother_any p q a _).mono ?_
          rintro e w9 ⟨rfl, hb9⟩
          have hB9 := bstep hBw hb9
          have HS9 := Lib.hid (HS2.out.below hb9)
          clear HS2 d1 d2 c1 hb9 hBk hB
          cases hinc : inc ns x a
          · have hro := rothI_not HPQ.out hinc
            simp only at hro
            rw [hro]
            have E : Hid (rrnd ns f [] ls [f] f = false) := by
              show _ = _
              rw [← HR2.out, if_pos hinc]
            clear hinc hro
            go_wp2
            go_ret
            exact ⟨ret_bool E.out.symm, hB9⟩
          · have hro := rothI_inc HPQ.out hinc
            simp only at hro
            rw [hro]
            have hkl := oth_lt HG.out.ends hinc
            obtain ⟨b, hb⟩ : ∃ b, oth ns x a = b := ⟨_, rfl⟩
            rw [hb] at HR2 hkl ⊢
            rw [if_neg (by rw [hinc]; simp)] at HR2
            have b0 : ¬ (b : Int) < 0 := by omega
            clear hro hinc hb
            by_cases hlast : k = ls.length - 1
            · have e1 : ((k : Int) == (ls.length : Int) - 1) = true := beq_yes (by omega)
              have E : Hid (rrnd ns f [] ls [f] f = (b == f)) := by
                show _ = _
                rw [← HR2.out, if_pos (List.drop_of_length_le (by omega))]
              by_cases hbf : b = f
              · subst hbf
                have e2 : ((b : Int) == (b : Int)) = true := by simp
                clear hlast
                go_wp2
                go_ret
                exact ⟨ret_bool (by rw [E.out]; simp), hB9⟩
              · have e2 : ((b : Int) == (f : Int)) = false := beq_no (by omega)
                have HBF := Lib.hid hbf
                clear hbf hlast
                go_wp2
                go_ret
                exact ⟨ret_bool (by rw [E.out]; simpa using HBF.out), hB9⟩
            · have e1 : ((k : Int) == (ls.length : Int) - 1) = false := beq_no (by omega)
              rw [if_neg (fun h => by have := congrArg List.length h; simp at this; omega)] at HR2
              have HLA := Lib.hid hlast
              obtain ⟨so, sc, hss⟩ := HS9.out.shape
              subst hss
              clear hlast
              go_wp2_with fail
              clear e1
              have hsl2 : seen.length ≤ 1000001 := by have := HSL.out; omega
              go_loop [11] (fun s11 => ∃ j : Nat, j ≤ seen.length ∧ s11 = .int .i64 (j : Int) ∧ Hid (∀ (t : Nat) y, t < j → seen[t]? = some y → y ≠ b)) (fun s11 => seen.length - (intOf s11).toNat)
              case atStart => exact ⟨0, Nat.zero_le _, rfl, fun j _ hj => by omega⟩
              case round =>
                obtain ⟨j, hj, rfl, hno⟩ := hrel
                by_cases hjl : j < seen.length
                · obtain ⟨y, hy⟩ : ∃ y, seen[j]? = some y := ⟨_, List.getElem?_eq_getElem hjl⟩
                  obtain ⟨sb, soff, rfl, hsb, c1⟩ := nats_get HS9.out.sl hy
                  have HY := Lib.hid hy
                  have j0 : (0 : Int) ≤ (j : Int) := Int.natCast_nonneg _
                  have j1 : (j : Int) < (seen.length : Int) := by omega
                  clear hy
                  by_cases hyb : y = b
                  · subst hyb
                    have e1 : ((y : Int) == (y : Int)) = true := by simp
                    have E : Hid (rrnd ns f [] ls [f] f = false) := by
                      show _ = _
                      rw [← HR2.out, if_pos (List.mem_of_getElem? HY.out)]
                    go_wp2
                    go_ret
                    exact ⟨ret_bool E.out.symm, hB9⟩
                  · have e1 : ((y : Int) == (b : Int)) = false := beq_no (by omega)
                    have HNE := Lib.hid hyb
                    clear hyb
                    go_wp2
                    go_round
                    case rel => exact ⟨j + 1, by omega, by go_num, fun t z ht hz => by
                      by_cases e : t = j
                      · subst e; rw [HY.out] at hz; cases hz; exact HNE.out
                      · exact hno t z (by omega) hz⟩
                    case measure => simp [intOf]; omega
                · have HN : Hid (rrnd ns f (ls.take (k + 1)) (ls.drop (k + 1)) (seen ++ [b]) b = rrnd ns f [] ls [f] f) := by
                    show _ = _
                    rw [← HR2.out, if_neg]
                    · rw [List.take_succ_eq_append_getElem hlt, (List.getElem?_eq_some_iff.1 HX.out).2]
                    · intro hm
                      obtain ⟨t, ht, e⟩ := List.getElem_of_mem hm
                      exact hno t b (by omega) (by rw [List.getElem?_eq_getElem ht, e]) rfl
                  have hz9 := hB9.size
                  have hsn : seen.length + 1 ≤ 1099511627776 := by have := HSL.out; omega
                  have hol := HS9.out.lt
                  go_wp2_with (at_builtin; refine wpList_push w9 rfl _ _ 25 rfl 3 8 elemInt w.heap.size natf _ seen b rfl HS9.out rfl rfl hsn (by omega) hz9 ?_; intro v' w' hown' hg _)
                  go_roundw
                  case rel => exact ⟨k + 1, b, seen ++ [b], by omega, by go_num, rfl, hkl, hown', by rw [List.length_append, HSL.out]; rfl, below_grown hB9 hg hz9 (fun g hg => (hol g hg).1), HN.out⟩
                  case measure => simp [intOf]; omega
    · have E : Hid (rrnd ns f [] ls [f] f = false) := by
        show _ = _
        rw [← HR.out, List.drop_of_length_le (by omega), rrnd]
      go_wp2
      go_ret
      exact ⟨ret_bool E.out.symm, hB⟩

set_option maxRecDepth 100000 in
set_option maxHeartbeats 4000000 in
theorem rcycle_any (n : Nat) (v vl : Value) (ns : List (Nat × Nat)) (ls : List Nat) (w : World) (hg : Gr w n v ns) (hl : Nats w vl ls) (hll : ls.length ≤ 1000000) (hi : ∀ i ∈ ls, i < ns.length) :
    Calls Try.prog 32 #[v, vl] w fun e w' => e = .returned (.bool (cycLs ns ls)) ∧ Below w.heap.size w w' := by
  have hm := hg.m_le
  have HG := Lib.hid hg
  have HL := Lib.hid hl
  have HE := Lib.hid (rcyc_eq ns ls)
  obtain ⟨ao, cap, rfl, _⟩ := hg.pairs.open_
  obtain ⟨lo, lcap, rfl, _⟩ := hl
  by_cases h2 : ls.length < 2
  · have E : Hid (rcyc ns ls = false) := by show _ = _; unfold rcyc; rw [if_pos h2]
    clear hg hi
    go_enter Try.func32, Try.ntmps32
    go_wp2
    go_ret
    exact ⟨ret_bool (by rw [← HE.out, E.out]), Below.refl _ _⟩
  · obtain ⟨x, hx⟩ : ∃ x, ls[0]? = some x := ⟨_, List.getElem?_eq_getElem (by omega)⟩
    have hxm := hi x (List.mem_of_getElem? hx)
    have hhd : ls.headD 0 = x := by
      cases ls with
      | nil => cases hx
      | cons a t => simp at hx; simp [hx]
    obtain ⟨⟨p, q⟩, hpq⟩ : ∃ e, ns[x]? = some e := ⟨_, List.getElem?_eq_getElem hxm⟩
    have hgd : ns.getD x (0, 0) = (p, q) := by simp [List.getD, hpq]
    have E : Hid (rcyc ns ls = (rrnd ns p [] ls [p] p || rrnd ns q [] ls [q] q)) := by show _ = _; unfold rcyc; rw [if_neg h2, hhd, hgd]
    have hends := hg.ends x _ hpq
    simp only at hends
    obtain ⟨eb, eoff, rfl, hebl, d1, d2⟩ := hg.pairs.edge hpq
    obtain ⟨lb, loff, rfl, hlb, c1⟩ := nats_get HL.out hx
    have HC1 := Lib.hid (rround_any n _ _ ns ls p w HG.out HL.out hll hi hends.1)
    have HC2 := Lib.hid (fun W (hW : Below w.heap.size w W) => rround_any n _ _ ns ls q W (HG.out.below hW) (HL.out.below hW) hll hi hends.2.1)
    have x0 : (0 : Int) ≤ (x : Int) := Int.natCast_nonneg _
    have x1 : (x : Int) < (ns.length : Int) := by omega
    obtain ⟨r1, hr1⟩ : ∃ r, rrnd ns p [] ls [p] p = r := ⟨_, rfl⟩
    obtain ⟨r2, hr2⟩ : ∃ r, rrnd ns q [] ls [q] q = r := ⟨_, rfl⟩
    rw [hr1] at HC1 E
    rw [hr2] at HC2 E
    rw [Nat.add_zero] at c1
    have C1 := Lib.hid c1
    have D1 := Lib.hid d1
    have D2 := Lib.hid d2
    simp only at d1 d2
    clear hg hi hx hhd hpq hgd hends hr1 hr2
    cases r1
    · skip
      go_enter Try.func32, Try.ntmps32
      go_wp2_with fail
      refine HC1.out.mono ?_
      rintro e w1 ⟨rfl, hb1⟩
      have c1 := (hb1.cell (p := ⟨lb, loff, none⟩) hlb).trans C1.out
      have d1 := (hb1.cell (p := ⟨eb, eoff + x * 2, none⟩) hebl).trans D1.out
      have d2 := (hb1.cell (p := ⟨eb, eoff + x * 2 + 1, none⟩) hebl).trans D2.out
      go_wp2_with fail
      refine (HC2.out _ hb1).mono ?_
      rintro e w2 ⟨rfl, hb2⟩
      have hB2 := bstep hb1 hb2
      go_wp2
      go_ret
      exact ⟨ret_bool (by rw [← HE.out, E.out]; simp), hB2⟩
    · skip
      go_enter Try.func32, Try.ntmps32
      go_wp2_with fail
      refine HC1.out.mono ?_
      rintro e w1 ⟨rfl, hb1⟩
      go_wp2
      go_ret
      exact ⟨ret_bool (by rw [← HE.out, E.out]; simp), hb1⟩
end Go.Proofs.Ytcaeemcobgopmaa
