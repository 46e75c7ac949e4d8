/-
  Maps from strings to ints that the call itself makes, as functions with 0 for what is not there. The balance.
-/
import Derived.Test.YtpidjgljeooblaaMem
import Derived.Maps.Own
import Derived.Maps.OwnOps
import Derived.Maps.OwnSet
import Derived.StringKeys
import Derived.Test.YtpidjgljeooblaaMrk
namespace Go.Proofs.Ytpidjgljeooblaa
section
open Go.RowKit Go.Maps
set_option linter.unusedVariables false
set_option linter.unusedSimpArgs false

theorem strKey : Keyed Try.prog 9 := string_keyed Try.underlying9
theorem strKey_mk {s : ByteArray} (h : s.size ≤ 9223372036854775807) : keyOf Try.prog 9 (.string s) = some (.string s.data.toList) := Go.WideMaps.keyOf_string_mk Try.underlying9 (by unfold maxLen; omega)
def ski (i : Int) : DataW Unit := .lit (.int .i64 i)

theorem bytes_of_lit {a b : ByteArray} (h : Lit.string a.data.toList = .string b.data.toList) : a = b := by
  injection h with h
  exact ByteArray.ext (Array.toList_inj.1 h)

/-- Block b is a map from strings to ints, which gives m, 0 where nothing is. -/
def SMap (w : World) (b n : Nat) (m : ByteArray → Int) : Prop :=
  ∃ D : DataW Unit, w.ownsMap Try.prog 9 (plainElem Try.prog 3) b n D ∧ ∀ x : ByteArray, D.atKey (.string x.data.toList) (ski 0) = ski (m x)

def sput (m : ByteArray → Int) (x : ByteArray) (y : Int) : ByteArray → Int := fun k => if k = x then y else m k

section
variable {w w1 : World} {b n : Nat} {m : ByteArray → Int}
theorem SMap.new (w : World) : SMap (w.alloc (.map #[] 0)) w.heap.size 0 (fun _ => 0) := ⟨.map [], World.ownsMap_made _ _ _ _, fun x => rfl⟩
theorem SMap.lt (h : SMap w b n m) : b < w.heap.size := by obtain ⟨D, h, _⟩ := h; exact h.lt
theorem SMap.only (h : SMap w b n m) {r : Option Nat} (hg : w.grownBy w1 r) (hne : some b ≠ r) : SMap w1 b n m := by
  obtain ⟨D, h, hD⟩ := h
  exact ⟨D, h.kept hg hne, hD⟩
theorem SMap.below (h : SMap w b n m) (hb : Below w.heap.size w w1) : SMap w1 b n m := h.only (only_below hb none) (by simp)
theorem SMap.alloc (h : SMap w b n m) (o : Obj) : SMap (w.alloc o) b n m := h.below (below_new w o)
theorem SMap.look (h : SMap w b n m) {x : ByteArray} (hx : x.size ≤ 9223372036854775807) : (Instr.lookup 62 (.map (some b)) (.string x) false).run Try.prog w = .ok (.int .i64 (m x)) w := by
  obtain ⟨D, h, hD⟩ := h
  have hz : (zeroValue 3).run Try.prog w = .ok (.int .i64 0) w := by kernel_rfl
  obtain ⟨c, hrun, hat, _⟩ := h.lookup_int strKey Try.underlying62 Try.underlying3 hz (strKey_mk hx)
  have e := hD x
  unfold ski at e
  rw [hat] at e
  simp only [DataW.lit.injEq, Lit.int.injEq, true_and] at e
  rw [hrun, e]
theorem SMap.put (h : SMap w b n m) (hn : n ≤ 1099511627776) {x : ByteArray} (hx : x.size ≤ 9223372036854775807) (y : Int) (hy : (Lit.int .i64 y).wf = true) :
    ∃ w', (Instr.mapUpdate 62 (.map (some b)) (.string x) (.int .i64 y)).run Try.prog w = .ok () w' ∧ SMap w' b (n + 1) (sput m x y) ∧ w.grownBy w' (some b) := by
  obtain ⟨D, h, hD⟩ := h
  obtain ⟨w', hrun, h1, h2⟩ := h.update strKey Try.underlying62 (by unfold maxLen; omega) (strKey_mk hx) (plainElem_int Try.underlying3 hy)
  refine ⟨w', hrun, ⟨_, h1, fun k => ?_⟩, h2⟩
  unfold sput
  by_cases e : k = x
  · subst e
    rw [if_pos rfl]
    exact Maps.atKey_put_same h.isMap (by trivial) _ _
  · rw [if_neg e]
    have hne : (Lit.string k.data.toList) ≠ .string x.data.toList := fun h => e (bytes_of_lit h)
    rw [Maps.atKey_put_other hne]
    exact hD k
theorem SMap.drop (h : SMap w b n m) {x : ByteArray} (hx : x.size ≤ 9223372036854775807) (hz : m x = 0) (ty : TypeId) :
    ∃ w', (Builtin.delete_ #[62, 9] ty #[.map (some b), .string x]).run Try.prog w = .ok (.tuple #[]) w' ∧ SMap w' b n m ∧ w.grownBy w' (some b) := by
  obtain ⟨D, h, hD⟩ := h
  obtain ⟨w', hrun, h1, h2⟩ := h.drop strKey Try.underlying62 (strKey_mk hx) ty
  refine ⟨w', hrun, ⟨_, h1, fun k => ?_⟩, h2.grown⟩
  by_cases e : k = x
  · subst e
    rw [Maps.atKey_del_same, hz]
  · have hne : (Lit.string k.data.toList) ≠ .string x.data.toList := fun h => e (bytes_of_lit h)
    rw [Maps.atKey_del_other hne]
    exact hD k
end

theorem wpList_sput (w : World) {ops : Array Oper} {rest : List Oper} {o : Oper} {a : Act} {Q : Exit → Act → World → Prop} (hg : o.guard = none) (mo xo vo : Operand) (hop : o.op = Op.mapUpdate 62 mo xo vo)
    (b n : Nat) (m : ByteArray → Int) (h : SMap w b n m) (hn : n ≤ 1099511627776) (x : ByteArray) (hx : x.size ≤ 9223372036854775807) (y : Int) (hy : (Lit.int .i64 y).wf = true)
    (h1 : a.eval mo = .map (some b)) (h2 : a.eval xo = .string x) (h3 : a.eval vo = .int .i64 y)
    (hK : ∀ w', SMap w' b (n + 1) (sput m x y) → w.grownBy w' (some b) → wpList Try.prog ops Q rest (a.put o.dst undef) w') :
    wpList Try.prog ops Q (o :: rest) a w := by
  refine wpList_plain hg fun K' hK' => ?_
  obtain ⟨w', hrun, r1, r2⟩ := h.put hn hx y hy
  unfold Oper.wp
  simp [execOp, hop, h1, h2, h3, hrun, Result.andThen]
  exact hK' _ _ (hK w' r1 r2)
theorem wpList_sdrop (w : World) {ops : Array Oper} {rest : List Oper} {o : Oper} {a : Act} {Q : Exit → Act → World → Prop} (hg : o.guard = none) (mo xo : Operand) (hop : o.op = Op.call { callee := Callee.builtin Builtin.delete, args := #[mo, xo], argTypes := #[62, 9] })
    (b n : Nat) (m : ByteArray → Int) (h : SMap w b n m) (x : ByteArray) (hx : x.size ≤ 9223372036854775807) (hz : m x = 0)
    (h1 : a.eval mo = .map (some b)) (h2 : a.eval xo = .string x)
    (hK : ∀ w', SMap w' b n m → w.grownBy w' (some b) → wpList Try.prog ops Q rest (a.put o.dst (.tuple #[])) w') :
    wpList Try.prog ops Q (o :: rest) a w := by
  refine wpList_plain hg fun K' hK' => ?_
  obtain ⟨w', hrun, r1, r2⟩ := h.drop hx hz o.type
  unfold Oper.wp
  simp [execOp, hop, resolve, invoke, builtin, h1, h2, hrun, Result.andThen]
  exact hK' _ _ (hK w' r1 r2)
end

section
open Go.RowKit
set_option linter.unusedVariables false
set_option linter.unusedSimpArgs false

theorem elemFd : ElemN Try.prog 45 50 2 24 := elemN_of (z := .agg #[.int .i64 0, .string ⟨#[]⟩]) Try.underlying45 (by kernel_rfl) rfl (by omega)
def OwnFds (w : World) (base : Nat) (v : Value) (l : List (Int × ByteArray)) : Prop := OwnN w base 50 2 finCells v l

theorem sput_same (m : ByteArray → Int) (x : ByteArray) (y : Int) : sput m x y x = y := if_pos rfl
theorem sput_other (m : ByteArray → Int) {x k : ByteArray} (y : Int) (h : k ≠ x) : sput m x y k = m k := if_neg h
/-- What is missing of each mark: by the schedule; behind the runs. -/
def cntF (l : List BarD) : ByteArray → Int := l.foldl (fun m b => sput m b.mark b.count) (fun _ => 0)
def runF (m : ByteArray → Int) (rs : List RunD) : ByteArray → Int := rs.foldl (fun m r => sput m r.mark (m r.mark - r.count)) m
theorem cntF_snoc {l : List BarD} {k : Nat} {x : BarD} (h : l[k]? = some x) : cntF (l.take (k + 1)) = sput (cntF (l.take k)) x.mark x.count := by
  have hk := (List.getElem?_eq_some_iff.1 h).1
  unfold cntF
  rw [List.take_succ_eq_append_getElem hk, List.foldl_append, (List.getElem?_eq_some_iff.1 h).2]
  rfl
theorem runF_snoc (m : ByteArray → Int) {l : List RunD} {k : Nat} {x : RunD} (h : l[k]? = some x) : runF m (l.take (k + 1)) = sput (runF m (l.take k)) x.mark (runF m (l.take k) x.mark - x.count) := by
  have hk := (List.getElem?_eq_some_iff.1 h).1
  unfold runF
  rw [List.take_succ_eq_append_getElem hk, List.foldl_append, (List.getElem?_eq_some_iff.1 h).2]
  rfl
theorem sput_bd {m : ByteArray → Int} {x : ByteArray} {y a b : Int} (h : ∀ s, a ≤ m s ∧ m s ≤ b) (hy : a ≤ y ∧ y ≤ b) : ∀ s, a ≤ sput m x y s ∧ sput m x y s ≤ b := by
  intro s
  unfold sput
  split
  · exact hy
  · exact h s
theorem cntF_bd {l : List BarD} (h : ∀ b ∈ l, 0 ≤ b.count ∧ b.count ≤ 1000) : ∀ s, 0 ≤ cntF l s ∧ cntF l s ≤ 1000 := by
  have key : ∀ (l : List BarD) (m : ByteArray → Int), (∀ b ∈ l, 0 ≤ b.count ∧ b.count ≤ 1000) → (∀ s, 0 ≤ m s ∧ m s ≤ 1000) → ∀ s, 0 ≤ l.foldl (fun m b => sput m b.mark b.count) m s ∧ l.foldl (fun m b => sput m b.mark b.count) m s ≤ 1000 := by
    intro l
    induction l with
    | nil => intro m _ hm; exact hm
    | cons b l ih => intro m hb hm; exact ih _ (fun x hx => hb x (List.mem_cons_of_mem _ hx)) (sput_bd hm (hb b List.mem_cons_self))
  exact key l _ h (fun s => ⟨Int.le_refl _, by show (0 : Int) ≤ 1000; omega⟩)
theorem runF_bd {rs : List RunD} {m : ByteArray → Int} (h : ∀ r ∈ rs, 1 ≤ r.count) (s : ByteArray) : m s - sumC rs ≤ runF m rs s ∧ runF m rs s ≤ m s := by
  have key : ∀ k, k ≤ rs.length → ∀ s, m s - sumC (rs.take k) ≤ runF m (rs.take k) s ∧ runF m (rs.take k) s ≤ m s := by
    intro k
    induction k with
    | zero =>
      intro _ s
      rw [List.take_zero]
      exact ⟨by show m s - 0 ≤ m s; omega, Int.le_refl _⟩
    | succ k ih =>
      intro hk s
      obtain ⟨r, hr⟩ : ∃ y, rs[k]? = some y := ⟨_, List.getElem?_eq_getElem (by omega)⟩
      have h1 := h r (List.mem_of_getElem? hr)
      rw [runF_snoc m hr, sumC_snoc hr]
      by_cases e : s = r.mark
      · subst e
        rw [sput_same]
        have := ih (by omega) r.mark
        omega
      · rw [sput_other _ _ e]
        have := ih (by omega) s
        omega
  have := key rs.length (Nat.le_refl _) s
  rw [List.take_length] at this
  exact this
def findB (m : ByteArray → Int) (b : BarD) : List (Int × ByteArray) := if 0 < m b.mark then [(1, b.mark)] else if m b.mark < 0 then [(2, b.mark)] else []
def balN (m : ByteArray → Int) (l : List BarD) : List (Int × ByteArray) := l.flatMap (findB m)
theorem balN_snoc (m : ByteArray → Int) {l : List BarD} {k : Nat} {x : BarD} (h : l[k]? = some x) : balN m (l.take (k + 1)) = balN m (l.take k) ++ findB m x := by
  have hk := (List.getElem?_eq_some_iff.1 h).1
  unfold balN
  rw [List.take_succ_eq_append_getElem hk, List.flatMap_append, (List.getElem?_eq_some_iff.1 h).2]
  simp
theorem findB_len (m : ByteArray → Int) (b : BarD) : (findB m b).length ≤ 1 := by unfold findB; (repeat' split) <;> simp
theorem balN_len (m : ByteArray → Int) (l : List BarD) : (balN m l).length ≤ l.length := by
  unfold balN
  induction l with
  | nil => simp
  | cons b l ih => have := findB_len m b; simp only [List.flatMap_cons, List.length_append, List.length_cons]; omega
def balOf (l : List BarD) (rs : List RunD) : List (Int × ByteArray) := balN (runF (cntF l) rs) l

theorem balance_bad (v vr : Value) (l : List BarD) (rs : List RunD) (w : World) (hp : Bars w v l) (hr : Runs w vr rs) (hl : l.length ≤ 140737488355328) (hlr : rs.length ≤ 140737488355328) (hf : FitB l) (h : laidOk l rs = false) :
    Calls Try.prog 21 #[v, vr] w fun e w' => e = .returned (.tuple #[.slice none 0 0, .int .i64 1]) ∧ Below w.heap.size w w' := by
  have HV := Lib.hid (lvalid_any v vr l rs w hp hr hl hlr hf)
  rw [h] at HV
  clear hp hr h
  go_enter Try.func21, Try.ntmps21
  go_wp2_with fail
  refine HV.out.mono ?_
  rintro e w1 ⟨rfl, hb1⟩
  have HB1 := Lib.hid hb1
  clear hb1
  go_wp2
  go_ret2
  exact ⟨rfl, HB1.out⟩

structure BalW (w : World) (B n : Nat) (m : ByteArray → Int) (wr : World) : Prop where
  below : Below w.heap.size w wr
  map : SMap wr B n m
  far : w.heap.size ≤ B
theorem BalW.alloc {w wr : World} {B n : Nat} {m : ByteArray → Int} (h : BalW w B n m wr) (o : Obj) : BalW w B n m (wr.alloc o) := ⟨h.below.alloc h.below.size o, h.map.alloc o, h.far⟩
theorem BalW.step {w wr w' : World} {B n n' : Nat} {m m' : ByteArray → Int} (h : BalW w B n m wr) (hm : SMap w' B n' m') (hg : wr.grownBy w' (some B)) : BalW w B n' m' w' :=
  ⟨h.below.grown hg h.below.size (fun j hj => by cases hj; exact h.far), hm, h.far⟩
theorem BalW.push {w wr w' : World} {B n : Nat} {m : ByteArray → Int} {r : Option Nat} (h : BalW w B n m wr) (hg : wr.grownBy w' r) (hr : ∀ g, r = some g → B + 1 ≤ g) : BalW w B n m w' :=
  ⟨h.below.grown hg h.below.size (fun j hj => by have := hr j hj; have := h.far; omega), h.map.only hg (fun e => by have := hr B e.symm; omega), h.far⟩

set_option maxRecDepth 100000 in
set_option maxHeartbeats 4000000 in
theorem balance_good (v vr : Value) (l : List BarD) (rs : List RunD) (w : World) (hp : Bars w v l) (hr : Runs w vr rs) (hl : l.length ≤ 140737488355328) (hlr : rs.length ≤ 140737488355328) (hf : FitB l) (h : laidOk l rs = true)
    (hm : ∀ r ∈ rs, r.mark.size ≤ maxLen) (hcb : ∀ b ∈ l, 0 ≤ b.count ∧ b.count ≤ 1000) (hl6 : l.length ≤ 60) :
    Calls Try.prog 21 #[v, vr] w fun e w' => ∃ o, e = .returned (.tuple #[o, .int .i64 0]) ∧ OwnFds w' w.heap.size o (balOf l rs) ∧ Below w.heap.size w w' := by
  obtain ⟨q1, q2, q3, q4⟩ := laidOk_parts h
  have HV := Lib.hid (lvalid_any v vr l rs w hp hr hl hlr hf)
  rw [h] at HV
  have HP := Lib.hid hp
  have HR := Lib.hid hr
  have HC := Lib.hid (fun r hr => right_count (q3 r hr))
  have HFB := Lib.hid hf
  have HMS := Lib.hid hm
  have HCB := Lib.hid hcb
  have HMB : Hid (∀ k s, -2000 ≤ runF (cntF l) (rs.take k) s ∧ runF (cntF l) (rs.take k) s ≤ 1000) := fun k s => by
    have h1 := runF_bd (m := cntF l) (fun r hr => (right_count (q3 r (List.mem_of_mem_take hr))).1 : ∀ r ∈ rs.take k, 1 ≤ r.count) s
    have h2 := cntF_bd hcb s
    have h3 := sumC_le (l := l) (rs := rs) (fun r hr => (right_count (q3 r hr)).1) k
    omega
  obtain ⟨ao, cap, rfl⟩ := hp.at_
  obtain ⟨ro, rcap, rfl⟩ := hr.at_
  clear hp hr h q1 q3 q4 hf hm hcb
  have hmm := @run_makeMap Try.prog
  go_enter Try.func21, Try.ntmps21
  go_wp2_with fail
  refine HV.out.mono ?_
  rintro e w1 ⟨rfl, hb1⟩
  have HW1 : Hid (BalW w w1.heap.size 0 (fun _ => 0) (w1.alloc (.map #[] 0))) := ⟨hb1.alloc hb1.size _, SMap.new w1, hb1.size⟩
  have hB1 : w.heap.size ≤ w1.heap.size := hb1.size
  clear hb1
  go_wp2_with fail
  generalize hB : w1.heap.size = B at *
  go_loopw [22] (fun i wr => ∃ k : Nat, k ≤ l.length ∧ i = .int .i64 k ∧ BalW w B k (cntF (l.take k)) wr) (fun i _ => l.length - (intOf i).toNat)
  case atStart => exact ⟨0, Nat.zero_le _, rfl, HW1.out⟩
  case round =>
    obtain ⟨k, hk, rfl, hBW⟩ := hrel
    by_cases hk2 : k < l.length
    · obtain ⟨x, hy⟩ : ∃ y, l[k]? = some y := ⟨_, List.getElem?_eq_getElem hk2⟩
      obtain ⟨b, off, rfl, hbl, c0, c1, c2, c3, uo, uc, c4, hdx⟩ := bars_get (HP.out.below hBW.below) hy
      have HSN := Lib.hid (cntF_snoc hy)
      have HX := Lib.hid (HCB.out x (List.mem_of_getElem? hy))
      have HXM := Lib.hid (HFB.out x (List.mem_of_getElem? hy)).1
      have HBW := Lib.hid (hBW.alloc (.cells #[.string x.mark, .int .i64 x.size, .int .i64 x.count, .int .i64 x.code, .slice uo x.dims.length uc] 54))
      clear hy hBW hdx
      go_wp2_with (at_mapUpdate; refine wpList_sput _ rfl _ _ _ rfl B k _ HBW.out.map (by omega) x.mark (by have := HXM.out; unfold maxLen at this; omega) x.count (by have := HX.out; exact WalkArith.wf_i64 (by omega)) rfl rfl rfl ?_; intro w5 hmp5 hg5; have HBW5 := Lib.hid (HBW.out.step hmp5 hg5); clear hmp5 hg5)
      go_roundw
      case rel => exact ⟨k + 1, by omega, by go_num, by rw [HSN.out]; exact HBW5.out⟩
      case measure => simp [intOf]; omega
    · obtain rfl : k = l.length := by omega
      rw [List.take_length] at hBW
      have HW2 : Hid (BalW w B l.length (runF (cntF l) (rs.take 0)) wr) := hBW
      clear hBW
      go_wp2_with fail
      go_loopw [34] (fun i wr => ∃ k : Nat, k ≤ rs.length ∧ i = .int .i64 k ∧ BalW w B (l.length + k) (runF (cntF l) (rs.take k)) wr) (fun i _ => rs.length - (intOf i).toNat)
      case atStart => exact ⟨0, Nat.zero_le _, rfl, HW2.out⟩
      case round =>
        clear HW2
        obtain ⟨k, hk, rfl, hBW⟩ := hrel
        by_cases hk2 : k < rs.length
        · obtain ⟨r, hy⟩ : ∃ y, rs[k]? = some y := ⟨_, List.getElem?_eq_getElem hk2⟩
          obtain ⟨b, off, rfl, hbl, c0, c1, c2, c3, c4, c5, c6, c7, c8, c9⟩ := runs_get (HR.out.below hBW.below) hy
          have HSN := Lib.hid (runF_snoc (cntF l) hy)
          obtain ⟨n1, n2⟩ := HC.out r (List.mem_of_getElem? hy)
          have HXM := Lib.hid (HMS.out r (List.mem_of_getElem? hy))
          have hm1 := HMB.out k r.mark
          have HBW := Lib.hid (hBW.alloc (.cells #[.string r.mark, .int .i64 r.tx, .int .i64 r.ty, .int .i64 r.at_.x, .int .i64 r.at_.y, .int .i64 r.at_.z, .int .i64 r.step.x, .int .i64 r.step.y, .int .i64 r.step.z, .int .i64 r.count] 60))
          have hlk := HBW.out.map.look (x := r.mark) (by have := HXM.out; unfold maxLen at this; omega)
          have hrB : B < wr.heap.size := hBW.map.lt
          clear hy hBW
          generalize runF (cntF l) (rs.take k) = m at *
          generalize hmv : m r.mark = c at *
          by_cases hz : c - r.count = 0
          · go_wp2_with (first
              | (at_mapUpdate; refine wpList_sput _ rfl _ _ _ rfl B (l.length + k) _ HBW.out.map (by omega) r.mark (by have := HXM.out; unfold maxLen at this; omega) 0 (WalkArith.wf_i64 (by omega)) rfl rfl rfl ?_; intro w5 hmp5 hg5; have HBW5 := Lib.hid (HBW.out.step hmp5 hg5); have hx5 : w5.cell? ⟨wr.heap.size, 0, none⟩ = some (.string r.mark) := (World.cell?_of_block (a := ⟨wr.heap.size, 0, none⟩) (hg5.block wr.heap.size (by simp) (by intro e; injection e with e; omega))).trans (by rw [World.cell?_alloc_at _ _ _ _ rfl]; rfl); have hlk5 : (Instr.lookup 62 (.map (some B)) (.string r.mark) false).run Try.prog w5 = .ok (.int .i64 0) w5 := (hmp5.look (x := r.mark) (by have := HXM.out; unfold maxLen at this; omega)).trans (by rw [sput_same]); clear hmp5 hg5)
              | (at_delete; refine wpList_sdrop _ rfl _ _ rfl B _ _ HBW5.out.map r.mark (by have := HXM.out; unfold maxLen at this; omega) (sput_same _ _ _) rfl rfl ?_; intro w6 hmp6 hg6; have HBW6 := Lib.hid (HBW5.out.step hmp6 hg6); clear hmp6 hg6))
            go_roundw
            case rel => exact ⟨k + 1, by omega, by go_num, by rw [HSN.out, hz]; exact HBW6.out⟩
            case measure => simp [intOf]; omega
          · go_wp2_with (at_mapUpdate; refine wpList_sput _ rfl _ _ _ rfl B (l.length + k) _ HBW.out.map (by omega) r.mark (by have := HXM.out; unfold maxLen at this; omega) (c - r.count) (WalkArith.wf_i64 (by omega)) rfl rfl rfl ?_; intro w5 hmp5 hg5; have HBW5 := Lib.hid (HBW.out.step hmp5 hg5); have hx5 : w5.cell? ⟨wr.heap.size, 0, none⟩ = some (.string r.mark) := (World.cell?_of_block (a := ⟨wr.heap.size, 0, none⟩) (hg5.block wr.heap.size (by simp) (by intro e; injection e with e; omega))).trans (by rw [World.cell?_alloc_at _ _ _ _ rfl]; rfl); have hlk5 : (Instr.lookup 62 (.map (some B)) (.string r.mark) false).run Try.prog w5 = .ok (.int .i64 (c - r.count)) w5 := (hmp5.look (x := r.mark) (by have := HXM.out; unfold maxLen at this; omega)).trans (by rw [sput_same]); clear hmp5 hg5)
            go_roundw
            case rel => exact ⟨k + 1, by omega, by go_num, by rw [HSN.out]; exact HBW5.out⟩
            case measure => simp [intOf]; omega
        · obtain rfl : k = rs.length := by omega
          rw [List.take_length] at hBW
          have HMB2 := Lib.hid (HMB.out rs.length)
          rw [List.take_length] at HMB2
          have HW3 : Hid (BalW w B (l.length + rs.length) (runF (cntF l) rs) wr) := hBW
          have hrB : B < wr.heap.size := hBW.map.lt
          have HF : Hid (∀ o w', OwnFds w' w.heap.size o (balN (runF (cntF l) rs) l) → OwnFds w' w.heap.size o (balOf l rs)) := fun o w' h => h
          clear hBW
          generalize runF (cntF l) rs = m at *
          go_wp2_with fail
          go_loopw [11, 14, 56, 64, 73] (fun o c i t u wr => ∃ k : Nat, k ≤ l.length ∧ i = .int .i64 k ∧ BalW w B (l.length + rs.length) m wr ∧ OwnFds wr (B + 1) o (balN m (l.take k))) (fun _ _ i _ _ _ => l.length - (intOf i).toNat)
          case atStart => exact ⟨0, Nat.zero_le _, rfl, HW3.out, OwnN.nil _ _ _ _ _⟩
          case round =>
            clear HW3
            obtain ⟨k, hk, rfl, hBW, hown⟩ := hrel
            have hrB2 : B < wr.heap.size := hBW.map.lt
            have hbase : w.heap.size ≤ wr.heap.size := hBW.below.size
            by_cases hk2 : k < l.length
            · obtain ⟨x, hy⟩ : ∃ y, l[k]? = some y := ⟨_, List.getElem?_eq_getElem hk2⟩
              obtain ⟨b, off, rfl, hbl, c0, c1, c2, c3, uo, uc, c4, hdx⟩ := bars_get (HP.out.below hBW.below) hy
              have HSN := Lib.hid (balN_snoc m hy)
              have HXM := Lib.hid (HFB.out x (List.mem_of_getElem? hy)).1
              have hm1 := HMB2.out x.mark
              have HBW := Lib.hid (hBW.alloc (.cells #[.string x.mark, .int .i64 x.size, .int .i64 x.count, .int .i64 x.code, .slice uo x.dims.length uc] 54))
              have HO := Lib.hid (OwnN.alloc hown (.cells #[.string x.mark, .int .i64 x.size, .int .i64 x.count, .int .i64 x.code, .slice uo x.dims.length uc] 54))
              have hlk := HBW.out.map.look (x := x.mark) (by have := HXM.out; unfold maxLen at this; omega)
              have hl2 : (balN m (l.take k)).length + 1 ≤ 1099511627776 := by have := balN_len m (l.take k); rw [List.length_take] at this; omega
              clear hy hBW hdx hown
              by_cases h1 : 0 < m x.mark
              · have HF : Hid (findB m x = [(1, x.mark)]) := if_pos h1
                go_wp2_with (at_builtin; refine wpList_pushAt _ (wr.heap.size + 1) (by simp) rfl _ _ 45 rfl 50 2 24 elemFd (B + 1) finCells _ _ (1, x.mark) _ rfl rfl (fin_one _) HO.out rfl rfl hl2 (by omega) (by omega) ?_; intro v' w' hown' hg' hat'; have HO9 := Lib.hid hown'; have HB9 := Lib.hid (HBW.out.push hg' (fun j hj => (HO.out.lt j hj).1)); clear hown' hg' hat')
                go_roundw
                case rel => exact ⟨k + 1, by omega, by go_num, HB9.out, by rw [HSN.out, HF.out]; exact HO9.out⟩
                case measure => simp [intOf]; omega
              · by_cases h2 : m x.mark < 0
                · have HF : Hid (findB m x = [(2, x.mark)]) := (if_neg h1).trans (if_pos h2)
                  go_wp2_with (at_builtin; refine wpList_pushAt _ (wr.heap.size + 1) (by simp) rfl _ _ 45 rfl 50 2 24 elemFd (B + 1) finCells _ _ (2, x.mark) _ rfl rfl (fin_one _) HO.out rfl rfl hl2 (by omega) (by omega) ?_; intro v' w' hown' hg' hat'; have HO9 := Lib.hid hown'; have HB9 := Lib.hid (HBW.out.push hg' (fun j hj => (HO.out.lt j hj).1)); clear hown' hg' hat')
                  go_roundw
                  case rel => exact ⟨k + 1, by omega, by go_num, HB9.out, by rw [HSN.out, HF.out]; exact HO9.out⟩
                  case measure => simp [intOf]; omega
                · have HF : Hid (findB m x = []) := (if_neg h1).trans (if_neg h2)
                  obtain h3 : m x.mark = 0 := by omega
                  go_wp2
                  go_roundw
                  case rel => exact ⟨k + 1, by omega, by go_num, HBW.out, by rw [HSN.out, HF.out, List.append_nil]; exact HO.out⟩
                  case measure => simp [intOf]; omega
            · obtain rfl : k = l.length := by omega
              rw [List.take_length] at hown
              have HO := Lib.hid hown
              have HBW := Lib.hid hBW
              clear hown hBW
              go_wp2
              go_ret2
              exact ⟨_, rfl, HF.out _ _ (OwnN.mono HO.out (by have := HBW.out.far; omega)), HBW.out.below⟩
end
end Go.Proofs.Ytpidjgljeooblaa
