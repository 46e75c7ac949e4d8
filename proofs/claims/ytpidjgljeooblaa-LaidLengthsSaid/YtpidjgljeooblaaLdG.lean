/-
  The reference's image of a point is the program's.
-/
import Derived.Test.YtpidjgljeooblaaLdF
namespace Go.Proofs.Ytpidjgljeooblaa
open Go.RowKit
set_option linter.unusedVariables false
set_option linter.unusedSimpArgs false
attribute [local go_sem ↓] Go.wp_at_zero Go.wp_at_succ

/-- Four blocks: a point, two directions, the result. -/
structure RimW (w : World) (G A B : Nat) (p a b : Pt) (W : World) : Prop where
  below : Below w.heap.size w W
  pt : BlkIs W G 31 #[.int .i64 p.x, .int .i64 p.y, .int .i64 p.z]
  res : BlkIs W (G + 1) 31 #[.int .i64 0, .int .i64 0, .int .i64 0]
  av : BlkIs W A 31 #[.int .i64 a.x, .int .i64 a.y, .int .i64 a.z]
  bv : BlkIs W B 31 #[.int .i64 b.x, .int .i64 b.y, .int .i64 b.z]
theorem RimW.after {w W W' : World} {G A B : Nat} {p a b : Pt} (h : RimW w G A B p a b W) (hb : Below W.heap.size W W') : RimW w G A B p a b W' :=
  ⟨bstep h.below hb, h.pt.below hb, h.res.below hb, h.av.below hb, h.bv.below hb⟩
theorem RimW.drew {w W : World} {G A B : Nat} {p a b : Pt} (h : RimW w G A B p a b W) : RimW w G A B p a b W.drew := ⟨h.below.drew, h.pt, h.res, h.av, h.bv⟩
abbrev RimS (G A B : Nat) (p a b : Pt) (W : World) : Prop :=
  W.cell? ⟨G, 0, none⟩ = some (.int .i64 p.x) ∧ W.cell? ⟨G, 1, none⟩ = some (.int .i64 p.y) ∧ W.cell? ⟨G, 2, none⟩ = some (.int .i64 p.z) ∧
  W.cell? ⟨A, 0, none⟩ = some (.int .i64 a.x) ∧ W.cell? ⟨A, 1, none⟩ = some (.int .i64 a.y) ∧ W.cell? ⟨A, 2, none⟩ = some (.int .i64 a.z) ∧
  W.cell? ⟨B, 0, none⟩ = some (.int .i64 b.x) ∧ W.cell? ⟨B, 1, none⟩ = some (.int .i64 b.y) ∧ W.cell? ⟨B, 2, none⟩ = some (.int .i64 b.z)
theorem RimW.s {w W : World} {G A B : Nat} {p a b : Pt} (h : RimW w G A B p a b W) : RimS G A B p a b W :=
  ⟨h.pt.cell 0, h.pt.cell 1, h.pt.cell 2, h.av.cell 0, h.av.cell 1, h.av.cell 2, h.bv.cell 0, h.bv.cell 1, h.bv.cell 2⟩
theorem rim_set {W : World} {G A B R i : Nat} {p a b : Pt} {u : Value} (hne : G ≠ R ∧ A ≠ R ∧ B ≠ R) (h : RimS G A B p a b W) : RimS G A B p a b (W.setCell ⟨R, i, none⟩ u) := by
  have k : ∀ (g o : Nat), g ≠ R → (W.setCell ⟨R, i, none⟩ u).cell? ⟨g, o, none⟩ = W.cell? ⟨g, o, none⟩ := fun g o hg => World.cell?_setCell_other _ _ _ _ (fun e => hg (by injection e with e1 _; exact e1.symm))
  obtain ⟨h1, h2, h3, h4, h5, h6, h7, h8, h9⟩ := h
  exact ⟨(k _ _ hne.1).trans h1, (k _ _ hne.1).trans h2, (k _ _ hne.1).trans h3, (k _ _ hne.2.1).trans h4, (k _ _ hne.2.1).trans h5, (k _ _ hne.2.1).trans h6, (k _ _ hne.2.2).trans h7, (k _ _ hne.2.2).trans h8, (k _ _ hne.2.2).trans h9⟩

theorem rim_eq (x y : Int) (p : Pt) : padd (pmul p.x (uv x)) (padd (pmul p.y (uv y)) (pmul p.z (crossP (uv x) (uv y)))) = img x y p := by
  unfold padd pmul img
  simp only [Int.mul_comm p.x, Int.mul_comm p.y, Int.mul_comm p.z, Int.add_assoc]
theorem pmul_bd {k N : Int} {a : Pt} (ha : PtIn 2 a) (h1 : -N ≤ k) (h2 : k ≤ N) : PtIn (2 * N) (pmul k a) := by
  obtain ⟨a1, a2, a3, a4, a5, a6⟩ := ha
  have c1 := prod_bd (c := a.x) ⟨a1, a2⟩ h1 h2
  have c2 := prod_bd (c := a.y) ⟨a3, a4⟩ h1 h2
  have c3 := prod_bd (c := a.z) ⟨a5, a6⟩ h1 h2
  unfold PtIn pmul
  simp only [Int.mul_comm k]
  exact ⟨c1.1, c1.2, c2.1, c2.2, c3.1, c3.2⟩
theorem PtIn.mono {m n : Int} {p : Pt} (h : PtIn m p) (hmn : m ≤ n) : PtIn n p := by unfold PtIn at *; omega
theorem padd_bd {m n : Int} {p q : Pt} (h : PtIn m p) (k : PtIn n q) : PtIn (m + n) (padd p q) := by unfold PtIn padd at *; simp only; omega

set_option maxRecDepth 100000 in
set_option maxHeartbeats 4000000 in
theorem rimage_any (x y : Int) (p : Pt) (w : World) (hx : axB x = true) (hy : axB y = true) (hp : PtIn 1048576 p) :
    Calls Try.prog 87 #[.agg #[.int .i64 x, .int .i64 y], ptv p] w fun e w' => e = .returned (ptv (img x y p)) ∧ Below w.heap.size w w' := by
  have hA := uv_bd hx
  have hB := uv_bd hy
  have hC := cross_bd hA hB
  have HX := Lib.hid (fun W => runit_any x W hx)
  have HY := Lib.hid (fun W => runit_any y W hy)
  have HCR := Lib.hid (fun W => rcross_any _ _ W hA hB)
  have b1 := pmul_bd (k := p.x) (hA.mono (by omega)) hp.1 hp.2.1
  have b2 := pmul_bd (k := p.y) (hB.mono (by omega)) hp.2.2.1 hp.2.2.2.1
  have b3 := pmul_bd (k := p.z) hC hp.2.2.2.2.1 hp.2.2.2.2.2
  have b4 := padd_bd b2 b3
  have HR := Lib.hid (rim_eq x y p)
  have HT1 := Lib.hid (fun W => ptimes_any _ p.x W (b1.mono (by omega)))
  have HT2 := Lib.hid (fun W => ptimes_any _ p.y W (b2.mono (by omega)))
  have HT3 := Lib.hid (fun W => ptimes_any _ p.z W (b3.mono (by omega)))
  have HP1 := Lib.hid (fun W => rplus_any _ _ W (b2.mono (by omega)) (b3.mono (by omega)))
  have HP2 := Lib.hid (fun W => rplus_any _ _ W (b1.mono (by omega)) (b4.mono (by omega)))
  clear hA hB hC b1 b2 b3 b4 hp hx hy
  generalize hr : img x y p = r at *
  generalize ha : uv x = a at *
  generalize hb : uv y = b at *
  generalize hc : crossP a b = c at *
  clear hr ha hb hc
  go_enter Try.func87, Try.ntmps87
  go_wp2_with fail
  refine (HX.out _).mono ?_
  rintro e w8 ⟨rfl, hb8⟩
  obtain ⟨hc8, hf8⟩ := bcell hb8
  have hz8 : w.heap.size + 1 + 1 < w8.heap.size := by have := hb8.size; simp at this; omega
  have P8 : BlkIs w8 (w.heap.size + 1) 31 #[.int .i64 p.x, .int .i64 p.y, .int .i64 p.z] := BlkIs.below ((BlkIs.new1 w _ _ _).alloc _) hb8
  have R8 : BlkIs w8 (w.heap.size + 1 + 1) 31 #[.int .i64 0, .int .i64 0, .int .i64 0] := BlkIs.below (by have h := BlkIs.new1 (w.alloc (.cells #[.int .i64 x, .int .i64 y] 58)) (.cells #[.int .i64 p.x, .int .i64 p.y, .int .i64 p.z] 31) #[.int .i64 0, .int .i64 0, .int .i64 0] 31; rw [World.size_alloc] at h; exact h) hb8
  have HB8 := Lib.hid (bstep (by go_grown) hb8 : Below w.heap.size w w8)
  have H8 := Lib.hid (And.intro P8 R8)
  have y8 : w8.cell? ⟨w.heap.size, 1, none⟩ = some (.int .i64 y) := (hc8 _ _ (by simp; omega)).trans (by go_simp)
  have hz80 : w.heap.size < w8.heap.size := by omega
  clear P8 R8 hb8 hc8 hf8
  go_wp2_with fail
  refine (HY.out _).mono ?_
  rintro e w9 ⟨rfl, hb9⟩
  have hz9 : w8.heap.size < w9.heap.size := by have := hb9.size; simp at this; omega
  have HW : Hid (RimW w (w.heap.size + 1) w8.heap.size w9.heap.size p a b (w9.alloc (.cells #[.int .i64 b.x, .int .i64 b.y, .int .i64 b.z] 31))) :=
    ⟨(bstep (HB8.out.alloc (by omega) _) hb9).alloc (by omega) _, ((H8.out.1.alloc _).below hb9).alloc _, ((H8.out.2.alloc _).below hb9).alloc _, ((BlkIs.new _ _ _).below hb9).alloc _, BlkIs.new _ _ _⟩
  clear hb9 y8
  go_upto_region 3 with fail
  have HN : Hid (w.heap.size + 1 ≠ w.heap.size + 1 + 1 ∧ w8.heap.size ≠ w.heap.size + 1 + 1 ∧ w9.heap.size ≠ w.heap.size + 1 + 1) := ⟨by omega, by omega, by omega⟩
  obtain ⟨W0, hW0⟩ : ∃ W0, w9.alloc (.cells #[.int .i64 b.x, .int .i64 b.y, .int .i64 b.z] 31) = W0 := ⟨_, rfl⟩
  rw [hW0] at HW ⊢
  clear hW0 hz8 hz80 hz9
  go_region_held3 (fun w' => w'.cell? ⟨w.heap.size + 1, 0, none⟩ = some (.int .i64 p.x) ∧ w'.cell? ⟨w.heap.size + 1, 1, none⟩ = some (.int .i64 p.y) ∧ w'.cell? ⟨w.heap.size + 1, 2, none⟩ = some (.int .i64 p.z) ∧ w'.cell? ⟨w8.heap.size, 0, none⟩ = some (.int .i64 a.x) ∧ w'.cell? ⟨w8.heap.size, 1, none⟩ = some (.int .i64 a.y) ∧ w'.cell? ⟨w8.heap.size, 2, none⟩ = some (.int .i64 a.z) ∧ w'.cell? ⟨w9.heap.size, 0, none⟩ = some (.int .i64 b.x) ∧ w'.cell? ⟨w9.heap.size, 1, none⟩ = some (.int .i64 b.y) ∧ w'.cell? ⟨w9.heap.size, 2, none⟩ = some (.int .i64 b.z))
    ((first
      | (with_reducible exact HW.out.s)
      | (with_reducible exact HW.out.drew.s)
      | (with_reducible exact rim_set HN.out (rim_set HN.out (rim_set HN.out HW.out.s)))
      | fail))
    ((first
      | (go_at_call 104; (first | (with_reducible refine (HT1.out _).mono ?_) | (with_reducible refine (HT2.out _).mono ?_) | (with_reducible refine (HT3.out _).mono ?_)); rintro e w7 ⟨rfl, hb7⟩; (first | replace HW := Lib.hid (HW.out.after hb7) | replace HW := Lib.hid (HW.out.after (below_drawn hb7))); clear hb7)
      | (go_at_call 105; (with_reducible refine (HCR.out _).mono ?_); rintro e w7 ⟨rfl, hb7⟩; (first | replace HW := Lib.hid (HW.out.after hb7) | replace HW := Lib.hid (HW.out.after (below_drawn hb7))); clear hb7)
      | (go_at_call 58; (first | (with_reducible refine (HP1.out _).mono ?_) | (with_reducible refine (HP2.out _).mono ?_)); rintro e w7 ⟨rfl, hb7⟩; (first | replace HW := Lib.hid (HW.out.after hb7) | replace HW := Lib.hid (HW.out.after (below_drawn hb7))); clear hb7; have c0 := HW.out.res.cell 0; have c1 := HW.out.res.cell 1; have c2 := HW.out.res.cell 2; have f0 := HW.out.res.free)
      | fail))
  go_wp2
  refine bodyPost_ret (v := ptv r) (by rw [← HR.out]; simp [results, Try.results87, go_sem, c0, c1, c2, f0]) rfl ⟨rfl, ?_⟩
  exact ((HW.out.below.setCell (by simp; omega) _).setCell (by simp; omega) _).setCell (by simp; omega) _

theorem img_bd (x y : Int) (p : Pt) (hx : axB x = true) (hy : axB y = true) (hp : PtIn 1048576 p) : PtIn 8388608 (img x y p) := by
  have hA := uv_bd hx
  have hB := uv_bd hy
  have hC := cross_bd hA hB
  rw [← rim_eq]
  have b1 := pmul_bd (k := p.x) (hA.mono (by omega)) hp.1 hp.2.1
  have b2 := pmul_bd (k := p.y) (hB.mono (by omega)) hp.2.2.1 hp.2.2.2.1
  have b3 := pmul_bd (k := p.z) hC hp.2.2.2.2.1 hp.2.2.2.2.2
  exact (padd_bd b1 (padd_bd b2 b3)).mono (by omega)

set_option maxHeartbeats 1000000 in
theorem placed_any (x y : Int) (at_ p : Pt) (w : World) (hx : axB x = true) (hy : axB y = true) (hp : PtIn 1048576 p) (ha : PtIn 1099511627776 at_) :
    Calls Try.prog 107 #[.agg #[.int .i64 x, .int .i64 y], ptv at_, ptv p] w fun e w' => e = .returned (ptv (padd at_ (img x y p))) ∧ Below w.heap.size w w' := by
  have HI := Lib.hid (fun W => image_any x y p W hx hy hp)
  have hi := img_bd x y p hx hy hp
  clear hp hx hy
  generalize img x y p = q at *
  obtain ⟨a1, a2, a3, a4, a5, a6⟩ := ha
  obtain ⟨b1, b2, b3, b4, b5, b6⟩ := hi
  obtain ⟨ax, ay, az⟩ := at_
  obtain ⟨qx, qy, qz⟩ := q
  simp only [padd] at *
  go_enter Try.func107, Try.ntmps107
  go_wp2_with fail
  refine (HI.out _).mono ?_
  rintro e w8 ⟨rfl, hb8⟩
  obtain ⟨hc8, hf8⟩ := bcell hb8
  have hz8 : w.heap.size + 1 + 1 + 1 < w8.heap.size := by have := hb8.size; simp at this; omega
  have hz81 : w.heap.size + 1 < w8.heap.size := by omega
  have HB8 := Lib.hid (bstep (by go_grown) hb8 : Below w.heap.size w w8)
  clear hb8
  go_wp2
  exact bodyPost_ret (v := ptv _) (by simp [results, Try.results107, go_sem, hc8, hf8, hz8]) rfl ⟨rfl, (((HB8.out.setCell (by simp; omega) _).setCell (by simp; omega) _).setCell (by simp; omega) _).alloc (by simp; omega) _⟩
end Go.Proofs.Ytpidjgljeooblaa
