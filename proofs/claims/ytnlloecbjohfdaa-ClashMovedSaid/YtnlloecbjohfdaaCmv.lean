/-
  The walk of ClashMoved.
-/
import Derived.Test.YtnlloecbjohfdaaCsi
import Derived.Test.YtnlloecbjohfdaaQdl
import Derived.Test.YtnlloecbjohfdaaLwx
namespace Go.Proofs.Ytnlloecbjohfdaa
section
open Go.RowKit
set_option linter.unusedVariables false
set_option linter.unusedSimpArgs false
attribute [local go_sem ↓] Go.wp_at_zero Go.wp_at_succ

theorem rclear_any (c : Int) (w : World) : Calls Try.prog 31 #[.int .i64 c] w fun e w' => e = .returned (.bool (clrB c)) ∧ w' = w := by
  by_cases h0 : 0 ≤ c
  · by_cases h1 : c ≤ 1000
    · have HE : Hid (clrB c = true) := by unfold Hid clrB; exact dec_yes ⟨h0, h1⟩
      rw [HE.out]
      go_enter Try.func31, Try.ntmps31
      go_wp2
      go_ret
      exact ⟨rfl, rfl⟩
    · have HE : Hid (clrB c = false) := by unfold Hid clrB; exact dec_no (fun h => h1 h.2)
      rw [HE.out]
      go_enter Try.func31, Try.ntmps31
      go_wp2
      go_ret
      exact ⟨rfl, rfl⟩
  · have HE : Hid (clrB c = false) := by unfold Hid clrB; exact dec_no (fun h => h0 h.1)
    rw [HE.out]
    go_enter Try.func31, Try.ntmps31
    go_wp2
    go_ret
    exact ⟨rfl, rfl⟩
theorem cmv1_any (g : Nat) (by_ p : Pt) (w : World) (hg : BlkIs w g 35 #[.int .i64 by_.x, .int .i64 by_.y, .int .i64 by_.z]) (hp : PtIn 1048576 p) (hb : PtIn 2097152 by_) :
    Calls Try.prog 35 #[ptv p, .pointer (some ⟨g, 0, none⟩)] w fun e w' => e = .returned (ptv (padd p by_)) ∧ Below w.heap.size w w' := by
  obtain ⟨x, y, z⟩ := p
  obtain ⟨u, v, t⟩ := by_
  obtain ⟨p1, p2, p3, p4, p5, p6⟩ := hp
  obtain ⟨q1, q2, q3, q4, q5, q6⟩ := hb
  simp only at p1 p2 p3 p4 p5 p6 q1 q2 q3 q4 q5 q6
  have s1 : IntKind.i64.wrap (x + u) = x + u := IntWalk.i64_in _ (by omega)
  have s2 : IntKind.i64.wrap (y + v) = y + v := IntWalk.i64_in _ (by omega)
  have s3 : IntKind.i64.wrap (z + t) = z + t := IntWalk.i64_in _ (by omega)
  have c0 := hg.cell 0
  have c1 := hg.cell 1
  have c2 := hg.cell 2
  have cl := hg.lt
  clear hg p1 p2 p3 p4 p5 p6 q1 q2 q3 q4 q5 q6
  go_enter Try.func35, Try.ntmps35
  go_wp2
  exact bodyPost_ret (v := ptv (padd ⟨x, y, z⟩ ⟨u, v, t⟩)) (by simp [results, Try.results35, go_sem, padd]) rfl ⟨rfl, by go_grown⟩
/-- The points of a clash lie in the space. -/
theorem allC_near {L : List (List Bx)} {Z : List Int} {c : Int} (hz : LzOk L Z) {x : ClD} (h : x ∈ allC L Z c L.length L.length) : PtIn 1048576 x.p ∧ PtIn 1048576 x.q := by
  obtain ⟨i, k, h1, h2, h3, rfl⟩ := allC_mem.1 h
  obtain ⟨p1, p2, p3⟩ := hz.legs i (by omega)
  obtain ⟨q1, q2, q3⟩ := hz.legs k h2
  obtain ⟨⟨a, ha, ia⟩, ⟨b, hb, ib⟩, _⟩ := hit_wit (L := L) (i := i) (k := k) p1 q1 p3 q3
  have ga := bxOk_dec.1 (List.all_eq_true.1 p3 a ha)
  have gb := bxOk_dec.1 (List.all_eq_true.1 q3 b hb)
  unfold inBx at ia ib
  show PtIn 1048576 (sqAt L i k).p ∧ PtIn 1048576 (sqAt L i k).q
  unfold PtIn
  omega
theorem mvE_near {by_ : Pt} {rs : List RunD} (h : mvE by_ rs = 0) : PtIn 2097152 by_ ∧ mvL by_ rs = rs.map (mvR by_) := by
  by_cases h1 : 60 < rs.length
  · rw [(mv_full (by_ := by_) h1).1] at h; omega
  · cases h2 : ptIn 2097152 by_ with
    | false => rw [(mv_far h1 h2).1] at h; omega
    | true =>
      refine ⟨ptIn_iff.1 h2, ?_⟩
      cases h3 : rs.all (mvOk by_) with
      | true =>
        refine (mv_yes h1 h2 fun j r hj hr => ?_).2
        exact List.all_eq_true.1 h3 r (List.mem_of_getElem? hr)
      | false =>
        rw [List.all_eq_false] at h3
        obtain ⟨r, hr, hq⟩ := h3
        obtain ⟨k, hk, rfl⟩ := List.mem_iff_getElem.1 hr
        rw [(mv_no h1 h2 (List.getElem?_eq_getElem hk) (by simpa using hq)).1] at h; omega
/-- The one point by which all is moved, and the two lists. -/
structure MvW (w : World) (by_ : Pt) (av bv : Value) (A B : List ClD) (wr : World) : Prop where
  below : Below w.heap.size w wr
  pt : BlkIs wr w.heap.size 35 #[.int .i64 by_.x, .int .i64 by_.y, .int .i64 by_.z]
  al : Cls wr av A
  bl : Cls wr bv B
theorem MvW.after {w wr w' : World} {by_ : Pt} {av bv : Value} {A B : List ClD} (h : MvW w by_ av bv A B wr) (hb : Below wr.heap.size wr w') : MvW w by_ av bv A B w' := ⟨bstep h.below hb, h.pt.below hb, Fl.below h.al hb, Fl.below h.bl hb⟩
theorem MvW.other {w wr w' : World} {by_ : Pt} {av bv : Value} {A B : List ClD} {g : Nat} (h : MvW w by_ av bv A B wr) (hg : wr.grownBy w' (some g)) (h0 : w.heap.size < g) (ha : ∀ b off n cap, av = .slice (some ⟨b, off, none⟩) n cap → b < g) (hb : ∀ b off n cap, bv = .slice (some ⟨b, off, none⟩) n cap → b < g) : MvW w by_ av bv A B w' :=
  ⟨h.below.grown hg h.below.size (fun j hj => by cases hj; omega), h.pt.else_ hg (fun e => by have := Option.some.inj e; omega),
   Fl.keep h.al hg.size fun b o hlt ⟨off, n, c, e⟩ => grown_cell hg hlt (by have := ha _ _ _ _ e; omega), Fl.keep h.bl hg.size fun b o hlt ⟨off, n, c, e⟩ => grown_cell hg hlt (by have := hb _ _ _ _ e; omega)⟩
abbrev ClS (g : Nat) (x : ClD) (W : World) : Prop :=
  W.cell? ⟨g, 2, none⟩ = some (.int .i64 x.p.x) ∧ W.cell? ⟨g, 3, none⟩ = some (.int .i64 x.p.y) ∧ W.cell? ⟨g, 4, none⟩ = some (.int .i64 x.p.z) ∧ W.cell? ⟨g, 5, none⟩ = some (.int .i64 x.q.x) ∧ W.cell? ⟨g, 6, none⟩ = some (.int .i64 x.q.y) ∧ W.cell? ⟨g, 7, none⟩ = some (.int .i64 x.q.z)

set_option maxRecDepth 100000 in
set_option maxHeartbeats 16000000 in
theorem clashMoved_walk (w : World) (v : Value) (l : List BarD) (hp : Bars w v l) (hf : FitB l) (hl : l.length * 64 ≤ 140737488351232) (vr : Value) (rs : List RunD) (hr : Runs w vr rs) (hm : ∀ r ∈ rs, r.mark.size ≤ maxLen) (hlr : rs.length * 88 ≤ 140737488351232)
    (c : Int) (wc : (Lit.int .i64 c).wf = true) (by_ : Pt) (w1 : (Lit.int .i64 by_.x).wf = true) (w2 : (Lit.int .i64 by_.y).wf = true) (w3 : (Lit.int .i64 by_.z).wf = true) :
    Calls Try.prog 8 #[v, vr, .int .i64 c, ptv by_] w fun e w' => e = .returned (.bool true) ∧ Below w.heap.size w w' := by
  have hl2 : l.length ≤ 140737488355328 := by omega
  have hlr2 : rs.length ≤ 140737488355328 := by omega
  have HRD := Lib.hid (fun W (hW : Below w.heap.size w W) => ready_any v vr l rs W (hp.below hW) (hr.below hW) hl2 hlr2 hf)
  have HCL := Lib.hid (fun W => rclear_any c W)
  have HMV := Lib.hid (fun W (hW : Below w.heap.size w W) => lmoved_any vr rs by_ W (hr.below hW))
  have HP := Lib.hid hp
  have HR := Lib.hid hr
  have HFI := Lib.hid hf
  have hlm : (mvL by_ rs).length ≤ 140737488355328 := by unfold mvL; split <;> simp; omega
  have HX0 := Lib.hid (BlkIs.new w #[.int .i64 by_.x, .int .i64 by_.y, .int .i64 by_.z] 35)
  clear hp hr hf hl hm hlr wc w1 w2 w3
  go_enter Try.func8, Try.ntmps8
  go_wp2_with fail
  refine (cawake_any _).mono ?_
  rintro e w1 ⟨rfl, hb1⟩
  have HW1 := Lib.hid (bstep (below_new _ _) hb1 : Below w.heap.size w w1)
  have HX1 := Lib.hid (HX0.out.below hb1)
  clear hb1 HX0
  go_wp2_with fail
  refine (HRD.out _ HW1.out).mono ?_
  rintro e w2 ⟨q, rfl, hb2, hq⟩
  have HW2 := Lib.hid (bstep HW1.out hb2)
  have HX2 := Lib.hid (HX1.out.below hb2)
  have HQ := Lib.hid hq
  clear hb2 hq HW1 HX1
  cases q
  · go_wp2
    go_ret
    exact ⟨rfl, HW2.out⟩
  · obtain ⟨hok, h14⟩ := HQ.out rfl
    have HOK := Lib.hid hok
    clear hok HQ
    obtain ⟨qc, hqc⟩ : ∃ q, clrB c = q := ⟨_, rfl⟩
    have HQC := Lib.hid hqc
    rw [hqc] at HCL
    clear hqc
    go_wp2_with fail
    refine (HCL.out _).mono ?_
    rintro e w3 ⟨rfl, rfl⟩
    cases qc
    · go_wp2
      go_ret
      exact ⟨rfl, HW2.out⟩
    · have p0 := HX2.out.cell 0
      have p1 := HX2.out.cell 1
      have p2 := HX2.out.cell 2
      go_wp2_with fail
      refine (HMV.out _ HW2.out).mono ?_
      rintro e w4 ⟨o, rfl, HO4, hb4⟩
      have HW4 := Lib.hid (bstep HW2.out hb4)
      have HX4 := Lib.hid (HX2.out.below hb4)
      clear hb4 p0 p1 p2 HW2 HX2
      obtain ⟨oo, oc, rfl⟩ := OwnN.shape HO4.out
      have hm4 : Runs w4 (.slice oo (mvL by_ rs).length oc) (mvL by_ rs) := OwnN.fl run_len HO4.out
      clear HO4
      have hlm2 := hlm
      generalize (mvL by_ rs).length = ml at hm4 hlm2 ⊢
      have HM4 := Lib.hid hm4
      clear hm4
      by_cases hc : mvE by_ rs = 0
      · obtain ⟨hby, hml⟩ := mvE_near hc
        rw [hc]
        have HBY := Lib.hid hby
        rw [hml] at HM4 hlm
        clear hc hby hml
        have HV := Lib.hid (rlaid_any v (.slice oo ml oc) l (rs.map (mvR by_)) w4 (HP.out.below HW4.out) HM4.out hl2 hlm HFI.out)
        obtain ⟨qv, hqv⟩ : ∃ q, laidOk l (rs.map (mvR by_)) = q := ⟨_, rfl⟩
        have HQV := Lib.hid hqv
        rw [hqv] at HV
        clear hqv
        go_wp2_with fail
        refine HV.out.mono ?_
        rintro e w5 ⟨rfl, hb5⟩
        have HW5 := Lib.hid (bstep HW4.out hb5)
        have HX5 := Lib.hid (HX4.out.below hb5)
        have HM5 := Lib.hid (Fl.below HM4.out hb5)
        clear hb5 HV HW4 HX4 HM4
        cases qv
        · go_wp2
          go_ret
          exact ⟨rfl, HW5.out⟩
        · have HLG := Lib.hid (lgs_mv HOK.out HQV.out)
          have HSZ := Lib.hid (szs_mv l rs by_)
          have HLP := Lib.hid (fun i (hi : i < cumN rs) => lgs_pos HOK.out hi)
          have h14b : (lgsOf l (rs.map (mvR by_))).length ≤ 14 := by rw [HLG.out]; unfold shL; rw [List.length_map]; exact h14
          have HPA := Lib.hid (fun W (hW : Below w.heap.size w W) => cpairs_good v vr c l rs W (HP.out.below hW) (HR.out.below hW) hl2 hlr2 HFI.out HOK.out HQC.out h14)
          have HPB := Lib.hid (fun W (hW : Below w.heap.size w W) (hM : Runs W (.slice oo ml oc) (rs.map (mvR by_))) => cpairs_good v (.slice oo ml oc) c l (rs.map (mvR by_)) W (HP.out.below hW) hM hl2 hlm HFI.out HQV.out HQC.out h14b)
          have HAB : Hid (allC (lgsOf l (rs.map (mvR by_))) (szsOf l (rs.map (mvR by_))) c (lgsOf l (rs.map (mvR by_))).length (lgsOf l (rs.map (mvR by_))).length = (allC (lgsOf l rs) (szsOf l rs) c (lgsOf l rs).length (lgsOf l rs).length).map (shC by_)) := by
            unfold Hid
            rw [HLG.out, HSZ.out]
            have hlen : (shL by_ (lgsOf l rs)).length = (lgsOf l rs).length := by unfold shL; rw [List.length_map]
            rw [hlen]
            exact allC_sh by_ (szsOf l rs) c (fun i hi => HLP.out i (by rwa [lgsOf_len] at hi))
          have HNR := Lib.hid (fun x hx => allC_near (c := c) (lzOk_of HOK.out) (x := x) hx)
          have hla := allC_len (lgsOf l rs) (szsOf l rs) c (lgsOf l rs).length (lgsOf l rs).length
          have hla2 : (lgsOf l rs).length * (lgsOf l rs).length ≤ 14 * 14 := Nat.mul_le_mul h14 h14
          rw [HAB.out] at HPB
          generalize allC (lgsOf l rs) (szsOf l rs) c (lgsOf l rs).length (lgsOf l rs).length = A at *
          clear HLG HSZ HLP HAB h14b
          go_wp2_with fail
          refine (HPA.out _ HW5.out).mono ?_
          rintro e w6 ⟨ao, rfl, hao, hb6⟩
          have HW6 := Lib.hid (bstep HW5.out hb6)
          have HX6 := Lib.hid (HX5.out.below hb6)
          have HM6 := Lib.hid (Fl.below HM5.out hb6)
          obtain ⟨aa, ac, rfl⟩ := OwnN.shape hao
          have HA6 := Lib.hid (OwnN.fl cl_len hao)
          clear hb6 hao HPA HW5 HX5 HM5
          go_wp2_with fail
          refine (HPB.out _ HW6.out HM6.out).mono ?_
          rintro e w7 ⟨bo, rfl, hbo, hb7⟩
          obtain ⟨ba, bc, rfl⟩ := OwnN.shape hbo
          have HMW : Hid (MvW w by_ (.slice aa A.length ac) (.slice ba (A.map (shC by_)).length bc) A (A.map (shC by_)) w7) := ⟨bstep HW6.out hb7, HX6.out.below hb7, Fl.below HA6.out hb7, OwnN.fl cl_len hbo⟩
          have hml : (A.map (shC by_)).length = A.length := List.length_map _
          rw [hml] at HMW ⊢
          clear hb7 hbo HPB HW6 HX6 HM6 HA6 hml
          go_wp2_with fail
          go_loopw [73] (fun x wr => ∃ k : Nat, k ≤ A.length ∧ x = .int .i64 (k : Int) ∧ MvW w by_ (.slice aa A.length ac) (.slice ba A.length bc) A (A.map (shC by_)) wr) (fun x _ => A.length - (intOf x).toNat)
          case atStart => exact ⟨0, Nat.zero_le _, rfl, HMW.out⟩
          case round =>
            clear HMW
            obtain ⟨k, hk, rfl, hMW⟩ := hrel
            have HM := Lib.hid hMW
            clear hMW
            by_cases hk2 : k < A.length
            · obtain ⟨x, hx⟩ : ∃ y, A[k]? = some y := ⟨_, List.getElem?_eq_getElem hk2⟩
              have HBK : Hid ((A.map (shC by_))[k]? = some (shC by_ x)) := by unfold Hid; rw [List.getElem?_map, hx]; rfl
              obtain ⟨hxp, hxq⟩ := HNR.out x (List.mem_of_getElem? hx)
              obtain ⟨ab, aoff, rfl, hab, c0, c1, c2, c3, c4, c5, c6, c7⟩ := cls_get HM.out.al hx
              have HCP := Lib.hid (fun W (hW : BlkIs W w.heap.size 35 #[.int .i64 by_.x, .int .i64 by_.y, .int .i64 by_.z]) => cmv1_any w.heap.size by_ x.p W hW hxp HBY.out)
              have HCQ := Lib.hid (fun W (hW : BlkIs W w.heap.size 35 #[.int .i64 by_.x, .int .i64 by_.y, .int .i64 by_.z]) => cmv1_any w.heap.size by_ x.q W hW hxq HBY.out)
              have HSX : Hid (shC by_ x = ⟨x.a, x.b, padd x.p by_, padd x.q by_⟩) := rfl
              have HM2 := Lib.hid (HM.out.after (below_new wr (.cells #[.int .i64 x.a, .int .i64 x.b, .int .i64 x.p.x, .int .i64 x.p.y, .int .i64 x.p.z, .int .i64 x.q.x, .int .i64 x.q.y, .int .i64 x.q.z] 56)))
              have HT2 := Lib.hid (BlkIs.new wr #[.int .i64 x.a, .int .i64 x.b, .int .i64 x.p.x, .int .i64 x.p.y, .int .i64 x.p.z, .int .i64 x.q.x, .int .i64 x.q.y, .int .i64 x.q.z] 56)
              have hgw : w.heap.size < wr.heap.size := HM.out.pt.lt
              have HOA := Lib.hid (fun b off n cap (h : (.slice (some ⟨ab, aoff, none⟩) A.length ac : Value) = .slice (some ⟨b, off, none⟩) n cap) => (by
                cases h
                exact hab : b < wr.heap.size))
              have HOB := Lib.hid (fun b off n cap (h : (.slice ba A.length bc : Value) = .slice (some ⟨b, off, none⟩) n cap) => (by
                cases h
                obtain ⟨b', off', he, hb', _⟩ := cls_get HM.out.bl HBK.out
                cases he
                exact hb' : b < wr.heap.size))
              clear hx hxp hxq hab
              go_wp2_with fail
              clear c0 c1 c2 c3 c4 c5 c6 c7
              generalize wr.alloc (.cells #[.int .i64 x.a, .int .i64 x.b, .int .i64 x.p.x, .int .i64 x.p.y, .int .i64 x.p.z, .int .i64 x.q.x, .int .i64 x.q.y, .int .i64 x.q.z] 56) = y0 at *
              generalize hgt : wr.heap.size = g at *
              clear hgt
              have HMa : Hid (MvW w by_ (.slice (some ⟨ab, aoff, none⟩) A.length ac) (.slice ba A.length bc) A (A.map (shC by_)) y0.drew) := HM2.out.after (Below.refl _ _).drew
              have HTa : Hid (BlkIs y0.drew g 56 #[.int .i64 x.a, .int .i64 x.b, .int .i64 x.p.x, .int .i64 x.p.y, .int .i64 x.p.z, .int .i64 x.q.x, .int .i64 x.q.y, .int .i64 x.q.z]) := HT2.out
              clear HM HM2 HT2
              refine wp_region_D 9 (fun W => ClS g x W) (by kernel_rfl) (fun hcl0 => ?_)
              have hcl := Lib.hid hcl0
              clear hcl0
              have hS := (⟨HTa.out.cell 2, HTa.out.cell 3, HTa.out.cell 4, HTa.out.cell 5, HTa.out.cell 6, HTa.out.cell 7⟩ : ClS g x _)
              refine wpAnyD_takeV (i := 0) (some 78) (.func (.func 35) #[] #[.pointer (some ⟨w.heap.size, 0, none⟩)]) [3] rfl rfl (by kernel_rfl) (fun _ _ _ h => h) hcl (Or.inl ⟨by rfl, (fun W _ => by rfl)⟩) hS (fun hcl => ?_)
              simp only [Act.put, List.setIfInBounds_toArray, List.set_cons_zero, List.set_cons_succ]
              refine wpAnyD_takeV (i := 1) (some 79) (.pointer (some ⟨g, 2, none⟩)) [] rfl rfl (by kernel_rfl) (fun _ _ _ h => h) hcl (Or.inl ⟨by rfl, (fun W _ => by rfl)⟩) hS (fun hcl => ?_)
              simp only [Act.put, List.setIfInBounds_toArray, List.set_cons_zero, List.set_cons_succ]
              refine wpAnyD_takeV (i := 2) (some 80) (ptv x.p) [] rfl rfl (by kernel_rfl) (fun _ _ _ h => h) hcl (Or.inl ⟨by rfl, (by intro W hW; obtain ⟨x0, x1, x2, x3, x4, x5⟩ := hW; go_simp)⟩) hS (fun hcl => ?_)
              simp only [Act.put, List.setIfInBounds_toArray, List.set_cons_zero, List.set_cons_succ]
              refine wpAnyD_takeV (i := 4) (some 82) (.func (.func 35) #[] #[.pointer (some ⟨w.heap.size, 0, none⟩)]) [7] rfl rfl (by kernel_rfl) (fun _ _ _ h => h) hcl (Or.inl ⟨by rfl, (fun W _ => by rfl)⟩) hS (fun hcl => ?_)
              simp only [Act.put, List.setIfInBounds_toArray, List.set_cons_zero, List.set_cons_succ]
              refine wpAnyD_takeV (i := 5) (some 83) (.pointer (some ⟨g, 5, none⟩)) [] rfl rfl (by kernel_rfl) (fun _ _ _ h => h) hcl (Or.inl ⟨by rfl, (fun W _ => by rfl)⟩) hS (fun hcl => ?_)
              simp only [Act.put, List.setIfInBounds_toArray, List.set_cons_zero, List.set_cons_succ]
              refine wpAnyD_takeV (i := 6) (some 84) (ptv x.q) [] rfl rfl (by kernel_rfl) (fun _ _ _ h => h) hcl (Or.inl ⟨by rfl, (by intro W hW; obtain ⟨x0, x1, x2, x3, x4, x5⟩ := hW; go_simp)⟩) hS (fun hcl => ?_)
              simp only [Act.put, List.setIfInBounds_toArray, List.set_cons_zero, List.set_cons_succ]
              clear hS
              refine wpAnyD_ready (rs := [3]) (by kernel_rfl) (by simp) ?_
              refine (AllD.cons (o := _) rfl hcl.out (by kernel_rfl) (fun K' HK => ?_) AllD.nil)
              refine step_callA rfl (some 81) rfl 35 #[ptv x.p, .pointer (some ⟨w.heap.size, 0, none⟩)] (by go_simp) (fun v W => v = ptv (padd x.p by_) ∧ Below y0.drew.heap.size y0.drew W) ((HCP.out _ HMa.out.pt).mono fun e w' h => ⟨_, h.1, rfl, h.2⟩) ?_
              rintro v9 y2 ⟨rfl, hb9⟩
              have HM2 := Lib.hid (HMa.out.after hb9)
              have HT2 := Lib.hid (HTa.out.below hb9)
              clear hb9
              have hS := (⟨HT2.out.cell 2, HT2.out.cell 3, HT2.out.cell 4, HT2.out.cell 5, HT2.out.cell 6, HT2.out.cell 7⟩ : ClS g x _)
              refine HK.out _ _ (.inr hS) (fun hcl0 => ?_)
              have hcl := Lib.hid hcl0
              clear hcl0 HK K'
              simp only [Act.put, List.setIfInBounds_toArray, List.set_cons_zero, List.set_cons_succ]
              refine wpAnyD_takeV (i := 8) (some 86) (.pointer (some ⟨g, 2, none⟩)) [] rfl rfl (by kernel_rfl) (fun _ _ _ h => h) hcl (Or.inl ⟨by rfl, (fun W _ => by rfl)⟩) hS (fun hcl => ?_)
              simp only [Act.put, List.setIfInBounds_toArray, List.set_cons_zero, List.set_cons_succ]
              clear hS
              refine wpAnyD_ready (rs := [7]) (by kernel_rfl) (by simp) ?_
              refine (AllD.cons (o := _) rfl hcl.out (by kernel_rfl) (fun K' HK => ?_) AllD.nil)
              refine step_callA rfl (some 85) rfl 35 #[ptv x.q, .pointer (some ⟨w.heap.size, 0, none⟩)] (by go_simp) (fun v W => v = ptv (padd x.q by_) ∧ Below y2.heap.size y2 W) ((HCQ.out _ HM2.out.pt).mono fun e w' h => ⟨_, h.1, rfl, h.2⟩) ?_
              rintro v9 y3 ⟨rfl, hb9⟩
              have HM3 := Lib.hid (HM2.out.after hb9)
              have HT3 := Lib.hid (HT2.out.below hb9)
              clear hb9
              have hS := (⟨HT3.out.cell 2, HT3.out.cell 3, HT3.out.cell 4, HT3.out.cell 5, HT3.out.cell 6, HT3.out.cell 7⟩ : ClS g x _)
              refine HK.out _ _ (.inr hS) (fun hcl0 => ?_)
              have hcl := Lib.hid hcl0
              clear hcl0 HK K'
              simp only [Act.put, List.setIfInBounds_toArray, List.set_cons_zero, List.set_cons_succ]
              clear hS HMa HTa HM2 HT2
              refine wpAnyD_drop rfl (by decide) hcl (by kernel_rfl) ?_
              simp only [List.toList_toArray, List.drop_succ_cons, List.drop_zero]
              clear hcl
              obtain ⟨y4, hy4⟩ : ∃ W, ((((((y3.setCell ⟨g, 2, none⟩ (.int .i64 (padd x.p by_).x)).setCell ⟨g, 3, none⟩ (.int .i64 (padd x.p by_).y)).setCell ⟨g, 4, none⟩ (.int .i64 (padd x.p by_).z)).setCell ⟨g, 5, none⟩ (.int .i64 (padd x.q by_).x)).setCell ⟨g, 6, none⟩ (.int .i64 (padd x.q by_).y)).setCell ⟨g, 7, none⟩ (.int .i64 (padd x.q by_).z)) = W := ⟨_, rfl⟩
              have HT4 : Hid (BlkIs y4 g 56 #[.int .i64 x.a, .int .i64 x.b, .int .i64 (padd x.p by_).x, .int .i64 (padd x.p by_).y, .int .i64 (padd x.p by_).z, .int .i64 (padd x.q by_).x, .int .i64 (padd x.q by_).y, .int .i64 (padd x.q by_).z]) := by
                unfold Hid
                rw [← hy4]
                exact (((((HT3.out.set 2 _).set 3 _).set 4 _).set 5 _).set 6 _).set 7 _
              have hgr : y3.grownBy y4 (some g) := by
                rw [← hy4]
                exact only_trans (only_trans (only_trans (only_trans (only_trans (only_set _ _ _ _) (only_set _ _ _ _)) (only_set _ _ _ _)) (only_set _ _ _ _)) (only_set _ _ _ _)) (only_set _ _ _ _)
              have HM4 := Lib.hid (HM3.out.other hgr hgw HOA.out HOB.out)
              have H4 := Lib.hid hy4
              have t0 := HT3.out.cell 0
              have t1 := HT3.out.cell 1
              have t2 := HT3.out.cell 2
              have t3 := HT3.out.cell 3
              have t4 := HT3.out.cell 4
              have t5 := HT3.out.cell 5
              have t6 := HT3.out.cell 6
              have t7 := HT3.out.cell 7
              have tf := HT3.out.free
              have tl := HT3.out.lt
              clear hy4 hgr
              go_wp2_with fail
              rw [H4.out]
              clear H4 t0 t1 t2 t3 t4 t5 t6 t7 tf tl HM3 HT3
              have hbk2 : (A.map (shC by_))[k]? = some ⟨x.a, x.b, padd x.p by_, padd x.q by_⟩ := HBK.out
              obtain ⟨bb, boff, rfl, hbb, d0, d1, d2, d3, d4, d5, d6, d7⟩ := cls_get HM4.out.bl hbk2
              have k0 : (0 : Int) ≤ (k : Int) := by omega
              have k1 : (k : Int) < (A.length : Int) := by omega
              have d0 := fun d os => cell_regrown d0 d os
              have d1 := fun d os => cell_regrown d1 d os
              have d2 := fun d os => cell_regrown d2 d os
              have d3 := fun d os => cell_regrown d3 d os
              have d4 := fun d os => cell_regrown d4 d os
              have d5 := fun d os => cell_regrown d5 d os
              have d6 := fun d os => cell_regrown d6 d os
              have d7 := fun d os => cell_regrown d7 d os
              have t0 := fun d os => cell_regrown (HT4.out.cell 0) d os
              have t1 := fun d os => cell_regrown (HT4.out.cell 1) d os
              have t2 := fun d os => cell_regrown (HT4.out.cell 2) d os
              have t3 := fun d os => cell_regrown (HT4.out.cell 3) d os
              have t4 := fun d os => cell_regrown (HT4.out.cell 4) d os
              have t5 := fun d os => cell_regrown (HT4.out.cell 5) d os
              have t6 := fun d os => cell_regrown (HT4.out.cell 6) d os
              have t7 := fun d os => cell_regrown (HT4.out.cell 7) d os
              have hq2 : ∀ W, (Op.equalIn 10000 56 (.agg #[.int .i64 x.a, .int .i64 x.b, .int .i64 (padd x.p by_).x, .int .i64 (padd x.p by_).y, .int .i64 (padd x.p by_).z, .int .i64 (padd x.q by_).x, .int .i64 (padd x.q by_).y, .int .i64 (padd x.q by_).z]) (.agg #[.int .i64 x.a, .int .i64 x.b, .int .i64 (padd x.p by_).x, .int .i64 (padd x.p by_).y, .int .i64 (padd x.p by_).z, .int .i64 (padd x.q by_).x, .int .i64 (padd x.q by_).y, .int .i64 (padd x.q by_).z])).run Try.prog W = .ok true W := fun W => by
                have := run_eq_cl ⟨x.a, x.b, padd x.p by_, padd x.q by_⟩ ⟨x.a, x.b, padd x.p by_, padd x.q by_⟩ W
                rwa [dec_yes rfl] at this
              clear hbk2 hbb HT4
              go_wp2_with fail
              refine wp_region_quiet_below (by kernel_rfl) (by kernel_rfl) ?_
              repeat (go_big_quiet_step ((first
                | fail)))
              refine wpQuiet_nil ?_
              intro _ hw'
              obtain ⟨⟨nq, osq⟩, hw''⟩ := hw'
              subst hw''
              have HM5 := Lib.hid (HM4.out.after (below_regrown _ nq osq))
              go_wp2
              go_roundw
              case rel => exact ⟨k + 1, by omega, by go_num, HM5.out⟩
              case measure => simp [intOf]; omega
            · obtain rfl : k = A.length := by omega
              go_wp2
              go_ret
              exact ⟨rfl, HM.out.below⟩
      · have hcb : (mvE by_ rs != 0) = true := bne_yes hc
        generalize mvE by_ rs = cm at *
        clear hc
        go_wp2
        go_ret
        exact ⟨rfl, HW4.out⟩
end
end Go.Proofs.Ytnlloecbjohfdaa
