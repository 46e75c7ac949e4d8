/-
  Base texts, shaken by wip/shake.py: Lwx.
-/
import Derived.Test.YtejcgjdfajppgaaGreatDoorKsc
import Derived.Deep.CutBlock
import Derived.Test.YtejcgjdfajppgaaGreatDoorKmp
import Derived.Test.YtejcgjdfajppgaaGreatDoorKqb
namespace Go.Proofs.YtejcgjdfajppgaaGreatDoor
section
section
open Go.RowKit
set_option linter.unusedVariables false
set_option linter.unusedSimpArgs false

end

section
open Go.RowKit
set_option linter.unusedVariables false
set_option linter.unusedSimpArgs false
attribute [local go_sem ↓] Go.wp_at_zero Go.wp_at_succ

theorem flat_setR (ps : List RunD) : ∀ (j : Nat) (r : RunD) (q : Pt), ps[j]? = some r → (((ps.flatMap runCells).set (j * 10 + 3) (.int .i64 q.x)).set (j * 10 + 4) (.int .i64 q.y)).set (j * 10 + 5) (.int .i64 q.z) = (ps.set j { r with at_ := q }).flatMap runCells := by
  induction ps with
  | nil => intro j r q h; cases h
  | cons a ps ih =>
    intro j r q h
    have e : (a :: ps).flatMap runCells = .string a.mark :: .int .i64 a.tx :: .int .i64 a.ty :: .int .i64 a.at_.x :: .int .i64 a.at_.y :: .int .i64 a.at_.z :: .int .i64 a.step.x :: .int .i64 a.step.y :: .int .i64 a.step.z :: .int .i64 a.count :: ps.flatMap runCells := rfl
    cases j with
    | zero => cases h; rw [e]; rfl
    | succ j =>
      rw [e]
      have h2 := ih j r q (by simpa using h)
      rw [show (j + 1) * 10 + 3 = j * 10 + 3 + 1 + 1 + 1 + 1 + 1 + 1 + 1 + 1 + 1 + 1 by omega, show (j + 1) * 10 + 4 = j * 10 + 4 + 1 + 1 + 1 + 1 + 1 + 1 + 1 + 1 + 1 + 1 by omega, show (j + 1) * 10 + 5 = j * 10 + 5 + 1 + 1 + 1 + 1 + 1 + 1 + 1 + 1 + 1 + 1 by omega]
      simp only [List.set_cons_succ]
      rw [h2]; rfl
section
variable {w wr w' : World} {by_ : Pt} {base : Nat} {o o' : Value} {D D' : List RunD}
end

end

section
open Go.RowKit
set_option linter.unusedVariables false
set_option linter.unusedSimpArgs false
attribute [local go_sem ↓] Go.wp_at_zero Go.wp_at_succ

theorem OwnN.free {α : Type} {n : Nat} {enc : α → List Value} {w : World} {base : Nat} {e : TypeId} {g m cap : Nat} {l : List α} (h : OwnN w base e n enc (.slice (some ⟨g, 0, none⟩) m cap) l) (k : Nat) : w.frozen? ⟨g, k, none⟩ = false := by
  rcases h.2 with ⟨h', _⟩ | ⟨g', cap', cur, h', _, hg, _⟩
  · cases h'
  · cases h'
    simp [World.frozen?, hg]
end

section
open Go.RowKit
set_option linter.unusedVariables false
set_option linter.unusedSimpArgs false

end

section
open Go.RowKit
set_option linter.unusedVariables false
set_option linter.unusedSimpArgs false
attribute [local go_sem ↓] Go.wp_at_zero Go.wp_at_succ

section
variable {w W W' : World} {g : Nat} {U : Bx}
end
end

section
open Go.RowKit
set_option linter.unusedVariables false
set_option linter.unusedSimpArgs false
attribute [local go_sem ↓] Go.wp_at_zero Go.wp_at_succ

end

section
open Go.RowKit
set_option linter.unusedVariables false
set_option linter.unusedSimpArgs false
attribute [local go_sem ↓] Go.wp_at_zero Go.wp_at_succ

end

section
open Go.RowKit
set_option linter.unusedVariables false
set_option linter.unusedSimpArgs false
attribute [local go_sem ↓] Go.wp_at_zero Go.wp_at_succ

end

section
section
open Go.RowKit
set_option linter.unusedVariables false
set_option linter.unusedSimpArgs false
attribute [local go_sem ↓] Go.wp_at_zero Go.wp_at_succ

end

section
open Go.RowKit
set_option linter.unusedVariables false
set_option linter.unusedSimpArgs false
attribute [local go_sem ↓] Go.wp_at_zero Go.wp_at_succ

def dimsL (d : List Int) (ls : List (Nat × Nat)) : List Int := ls.map fun l => d[l.1]?.getD 0
def dimL (b : BarD) : List Int := dimsL b.dims (legsOf b.code)
theorem dimsL_len (d : List Int) (ls : List (Nat × Nat)) : (dimsL d ls).length = ls.length := List.length_map ..
theorem dimsL_snoc (d : List Int) {ls : List (Nat × Nat)} {k : Nat} {l : Nat × Nat} (h : ls[k]? = some l) : dimsL d (ls.take (k + 1)) = dimsL d (ls.take k) ++ [d[l.1]?.getD 0] := by
  have hk := (List.getElem?_eq_some_iff.1 h).1
  unfold dimsL
  rw [List.take_succ_eq_append_getElem hk, List.map_append, (List.getElem?_eq_some_iff.1 h).2]
  rfl
theorem dims_there {x : BarD} (h : barOk x = true) {k : Nat} {l : Nat × Nat} (hl : (legsOf x.code)[k]? = some l) : ∃ d, x.dims[l.1]? = some d ∧ 1 ≤ d := by
  unfold barOk headB at h
  simp only [Bool.and_eq_true, decide_eq_true_eq] at h
  have h1 := (legs_ok x.code l (List.mem_of_getElem? hl)).1
  have h3 := h.1.1.2
  have hlt : l.1 < x.dims.length := by omega
  exact ⟨_, List.getElem?_eq_getElem hlt, (dimsB_yes h.2).1 _ (List.getElem_mem hlt)⟩
end

section
open Go.RowKit
set_option linter.unusedVariables false
set_option linter.unusedSimpArgs false
attribute [local go_sem ↓] Go.wp_at_zero Go.wp_at_succ

theorem zints_get {w : World} {ao : Option Addr} {n cap k : Nat} {l : List Int} {x : Int} (h : Ints w (.slice ao n cap) l) (hk : l[k]? = some x) :
    ∃ b off, ao = some ⟨b, off, none⟩ ∧ b < w.heap.size ∧ w.cell? ⟨b, off + k, none⟩ = some (.int .i64 x) := by
  obtain ⟨ao', cap', hv, h2⟩ := h
  cases hv
  obtain ⟨b, off, rfl, hlt, hc⟩ := h2 (by have := (List.getElem?_eq_some_iff.1 hk).1; omega)
  exact ⟨b, off, rfl, hlt, hc k x hk⟩
abbrev intv (x : Int) : Value := .int .i64 x
abbrev OwnI (w : World) (B : Nat) (o : Value) (l : List Int) : Prop := Own w B 3 intv o l

theorem wpList_pushO {α : Type} {P : Program} (w0 : World) (N : Nat) (hN : w0.heap.size = N) {ops : Array Oper} {rest : List Oper} {o : Oper} {a : Act} {Q : Exit → Act → World → Prop} (hgd : o.guard = none) (s x : Operand) (t : TypeId)
    (ho : o.op = .call { callee := .builtin .append, args := #[s, x], argTypes := #[t, t] })
    (e bytes : Nat) (he : Elem P t e bytes) (base : Nat) (f : α → Value) (v : Value) (l : List α) (y : α) (h1 : (f y).oneCell' = true)
    (hown : Own w0 base e f v l) (hs : a.eval s = v) (hx : a.eval x = .slice (some ⟨N, 0, none⟩) 1 1)
    (h63 : l.length + 1 ≤ 1099511627776) (hby : bytes ≤ 64) (hbase : base ≤ N)
    (hK : ∀ v' w', Own w' base e f v' (l ++ [y]) → w0.grownBy w' v.ownBlock → (v'.ownBlock = v.ownBlock ∨ ∃ g, w0.heap.size ≤ g ∧ v'.ownBlock = some g) → wpList P ops Q rest (a.put o.dst v') w') :
    wpList P ops Q (o :: rest) a (w0.alloc (.cells #[f y] e)) := by
  subst hN
  exact wpList_push w0 hgd s x t ho e bytes he base f v l y h1 hown hs hx h63 hby hbase hK
set_option maxRecDepth 100000 in
set_option maxHeartbeats 4000000 in
theorem shLegs_any (x : BarD) (uo : Option Addr) (uc : Nat) (w : World) (hd : Ints w (.slice uo x.dims.length uc) x.dims) (hm : x.mark.size ≤ maxLen) (hl : x.dims.length ≤ 140737488355328) (hok : barOk x = true) :
    Calls Tryz.prog 96 #[barv x (.slice uo x.dims.length uc)] w fun e w' => ∃ o, e = .returned (.tuple #[o, .int .i64 0]) ∧ OwnI w' w.heap.size o (dimL x) ∧ Below w.heap.size w w' := by
  have hb0 := below_new w (.cells #[.string x.mark, .int .i64 x.size, .int .i64 x.count, .int .i64 x.code, .slice uo x.dims.length uc] 42)
  have HV := Lib.hid (svalid_any x (.slice uo x.dims.length uc) _ (Sl.below hd hb0) hm hl)
  rw [hok] at HV
  have HDT := Lib.hid (fun (k : Nat) p (hk : (legsOf x.code)[k]? = some p) => dims_there hok hk)
  have HD := Lib.hid hd
  have HL6 := Lib.hid (legs_len6 x.code)
  have HLG := Lib.hid (fun W => slegs_full x.code W)
  have HSN := Lib.hid (fun (k : Nat) p (hk : (legsOf x.code)[k]? = some p) => dimsL_snoc x.dims hk)
  have HDL : Hid (dimL x = dimsL x.dims (legsOf x.code)) := rfl
  generalize dimL x = RS at *
  obtain ⟨m, s, c, co, ds⟩ := x
  simp only at *
  generalize legsOf co = ls at *
  clear hd hm hok
  go_enter Tryz.func96, Tryz.ntmps96
  go_wp2_with fail
  refine HV.out.mono ?_
  rintro e w1 ⟨rfl, hb1⟩
  have HB1 := Lib.hid (bstep hb0 hb1)
  have HX1 := Lib.hid ((BlkIs.new w #[.string m, .int .i64 s, .int .i64 c, .int .i64 co, .slice uo ds.length uc] 42).below hb1)
  have c3 := HX1.out.cell 3
  clear hb1 hb0 HV
  go_wp2_with fail
  refine (HLG.out w1).mono ?_
  rintro e w2 ⟨v, rfl, HL, HF, hb2⟩
  obtain ⟨lo, lc, rfl⟩ := HL.out.at_
  have HB2 := Lib.hid (bstep HB1.out hb2)
  have HX2 := Lib.hid (HX1.out.below hb2)
  have h6 : ls.length ≤ 6 := HL6.out
  clear hb2 HLG HF c3 HB1 HX1
  go_wp2_with fail
  go_loopw [4, 14] (fun o i wr => ∃ k : Nat, k ≤ ls.length ∧ i = .int .i64 (k : Int) ∧ Below w2.heap.size w2 wr ∧ OwnI wr w2.heap.size o (dimsL ds (ls.take k))) (fun _ i _ => ls.length - (intOf i).toNat)
  case atStart => exact ⟨0, Nat.zero_le _, rfl, Below.refl _ _, Own.nil _ _ _ _⟩
  case round =>
    obtain ⟨k, hk, rfl, hBr, hown⟩ := hrel
    have HB := Lib.hid hBr
    have HO := Lib.hid hown
    clear hBr hown
    by_cases hk2 : k < ls.length
    · obtain ⟨p, hp⟩ : ∃ y, ls[k]? = some y := ⟨_, List.getElem?_eq_getElem hk2⟩
      obtain ⟨d, hd, hd1⟩ := HDT.out k p hp
      have HS := Lib.hid (HSN.out k p hp)
      rw [hd] at HS
      simp only [Option.getD_some] at HS
      obtain ⟨lb, loff, rfl, hbl, g0, g1⟩ := legs_get (HL.out.below HB.out) hp
      have hx := HX2.out.below HB.out
      have b4 := hx.cell 4
      have bz := hx.lt
      obtain ⟨b, off, rfl, hdl, d0⟩ := zints_get (Sl.below (Sl.below HD.out HB2.out) HB.out) hd
      have k0 : (0 : Int) ≤ (p.1 : Int) := by omega
      have k1 : (p.1 : Int) < (ds.length : Int) := by have := (List.getElem?_eq_some_iff.1 hd).1; omega
      have hlen1 : (dimsL ds (ls.take k)).length + 1 ≤ 1099511627776 := by rw [dimsL_len, List.length_take]; omega
      have HO2 := Lib.hid (Own.alloc HO.out (.cells #[.int .i64 (p.1 : Int), .int .u8 (p.2 : Int)] 132))
      have HB2' := Lib.hid (HB.out.alloc HB.out.size (.cells #[.int .i64 (p.1 : Int), .int .u8 (p.2 : Int)] 132))
      have hN1 : (wr.alloc (.cells #[.int .i64 (p.1 : Int), .int .u8 (p.2 : Int)] 132)).heap.size = wr.heap.size + 1 := by simp
      have hbase : w2.heap.size ≤ wr.heap.size + 1 := by have := HB.out.size; omega
      clear hp hd hx
      go_wp2_with (at_builtin; refine wpList_pushO (wr.alloc (.cells #[.int .i64 (p.1 : Int), .int .u8 (p.2 : Int)] 132)) (wr.heap.size + 1) hN1 rfl _ _ 23 rfl 3 8 elemInt w2.heap.size intv _ _ d rfl HO2.out rfl rfl hlen1 (by omega) hbase ?_; intro v' w' hown' hg' hat'; have HO9 := Lib.hid hown'; have HB9 := Lib.hid (HB2'.out.grown hg' HB2'.out.size (fun j hj => (HO2.out.lt j hj).1)); clear hown' hg' hat')
      go_roundw
      case rel => exact ⟨k + 1, by omega, by go_num, HB9.out, by rw [HS.out]; exact HO9.out⟩
      case measure => simp [intOf]; omega
    · obtain rfl : k = ls.length := by omega
      rw [List.take_length] at HO
      have hz := HB2.out.size
      go_wp2
      go_ret2
      exact ⟨_, rfl, by rw [HDL.out]; exact Own.mono HO.out hz, bstep HB2.out HB.out⟩
end
end
end
end Go.Proofs.YtejcgjdfajppgaaGreatDoor
