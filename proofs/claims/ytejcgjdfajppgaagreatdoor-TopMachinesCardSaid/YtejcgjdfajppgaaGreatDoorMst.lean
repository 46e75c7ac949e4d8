/-
  machine.given, Length, Starts.
-/
import Derived.Test.YtejcgjdfajppgaaGreatDoorMor
namespace Go.Proofs.YtejcgjdfajppgaaGreatDoor
section
open Go.RowKit
set_option linter.unusedVariables false
set_option linter.unusedSimpArgs false
attribute [local go_sem ↓] Go.wp_at_zero Go.wp_at_succ

theorem ntI_inj {a b : List Nat} (h : ntI a = ntI b) : a = b := by
  unfold ntI at h
  exact (List.map_inj_right (fun x y e => by omega)).1 h
/-- Jobs that are valid, and where they lie. -/
structure Jobs (w : World) (ao : Option Addr) (cap : Nat) (l : List WkD) : Prop where
  at_ : Wks w (.slice ao l.length cap) l
  few : l.length ≤ 12
  fit : FitW l
  cap : l.length ≤ cap
  ok : wksOk l = true
theorem Jobs.below {w w1 : World} {ao : Option Addr} {cap : Nat} {l : List WkD} (h : Jobs w ao cap l) (hb : Below w.heap.size w w1) : Jobs w1 ao cap l := ⟨h.at_.below hb, h.few, h.fit, h.cap, h.ok⟩
theorem Jobs.valid {w : World} {ao : Option Addr} {cap : Nat} {l : List WkD} (h : Jobs w ao cap l) :
    Calls Tryz.prog 8 #[.slice ao l.length cap] w fun e w' => e = .returned (.bool true) ∧ Below w.heap.size w w' := by
  have := mvalid_any ao cap l w h.at_ h.few h.fit h.cap
  rw [h.ok] at this
  exact this
/-- A list of numbers with its place. -/
structure OrdA (w : World) (zo : Option Addr) (zc : Nat) (Z : List Int) : Prop where
  at_ : Ints w (.slice zo Z.length zc) Z
  few : Z.length ≤ 30
  cap : Z.length ≤ zc
theorem OrdA.below {w w1 : World} {zo : Option Addr} {zc : Nat} {Z : List Int} (h : OrdA w zo zc Z) (hb : Below w.heap.size w w1) : OrdA w1 zo zc Z := ⟨Sl.below h.at_ hb, h.few, h.cap⟩
set_option maxHeartbeats 1000000 in
theorem mgiven_any (ao zo : Option Addr) (cap zc : Nat) (l : List WkD) (Z : List Int) (w : World) (hj : Jobs w ao cap l) (hz : OrdA w zo zc Z) :
    Calls Tryz.prog 31 #[.slice ao l.length cap, .slice zo Z.length zc] w fun e w' => ErIf (OrdOk l.length Z) e ∧ Below w.heap.size w w' := by
  have HV := Lib.hid hj.valid
  have HZ := Lib.hid hz
  have hn := hj.few
  clear hj hz
  go_enter Tryz.func31, Tryz.ntmps31
  go_wp2_with fail
  refine HV.out.mono ?_
  rintro e w1 ⟨rfl, hb1⟩
  have HB1 := Lib.hid hb1
  have HO := Lib.hid (mordered_any l.length zo zc Z w1 (HZ.out.below hb1).at_ HZ.out.cap hn HZ.out.few)
  clear hb1 HV
  go_wp2_with fail
  refine HO.out.mono ?_
  rintro e w2 ⟨⟨er, rfl, hiff⟩, rfl⟩
  have HI := Lib.hid hiff
  clear hiff HO
  go_wp2
  go_ret
  exact ⟨⟨er, rfl, HI.out⟩, HB1.out⟩
def LPostM (l : List WkD) (Z : List Int) (e : Ending) : Prop :=
  ∃ n er : Int, e = .returned (.tuple #[.int .i64 n, .int .i64 er]) ∧ (er = 0 ↔ OrdOk l.length Z) ∧ ∀ o, Z = ntI o → o.Perm (List.range l.length) → n = lenJ (cutF l) (bendF l) o
theorem ord_ints {w : World} {zo : Option Addr} {zc : Nat} {Z : List Int} {o : List Nat} (h : Ints w (.slice zo Z.length zc) Z) (he : Z = ntI o) : Ints w (.slice zo o.length zc) (ntI o) := by
  subst he
  rw [ntI_len] at h
  exact h
set_option maxHeartbeats 1000000 in
set_option maxRecDepth 100000 in
theorem mlength_any (ao zo : Option Addr) (cap zc : Nat) (l : List WkD) (Z : List Int) (w : World) (hj : Jobs w ao cap l) (hz : OrdA w zo zc Z) :
    Calls Tryz.prog 12 #[.slice ao l.length cap, .slice zo Z.length zc] w fun e w' => LPostM l Z e ∧ Below w.heap.size w w' := by
  have HG := Lib.hid (mgiven_any ao zo cap zc l Z w hj hz)
  have HJ := Lib.hid hj
  have HZ := Lib.hid hz
  clear hj hz
  go_enter Tryz.func12, Tryz.ntmps12
  go_wp2_with fail
  refine HG.out.mono ?_
  rintro e w1 ⟨⟨er, rfl, hiff⟩, hb1⟩
  have HB1 := Lib.hid hb1
  have HI := Lib.hid hiff
  clear hiff hb1 HG
  by_cases h0 : er = 0
  · subst h0
    obtain ⟨o, hZ, hp⟩ := HI.out.1 rfl
    have hlen : Z.length = o.length := by rw [hZ, ntI_len]
    have hol : o.length = l.length := by rw [hp.length_eq, List.length_range]
    have HR := Lib.hid (mrun_any ao zo cap zc l o w1 (HJ.out.below HB1.out).at_ (ord_ints (HZ.out.below HB1.out).at_ hZ) HJ.out.few (by rw [hol]; exact HJ.out.few) (wks_tm HJ.out.ok) (hp.nodup_iff.2 List.nodup_range) (fun i hi => List.mem_range.1 (hp.mem_iff.1 hi)))
    have HE := Lib.hid hZ
    rw [← hlen] at HR
    clear hZ hp hlen hol
    go_wp2_with fail
    refine HR.out.mono ?_
    rintro e w2 ⟨G1, G2, A, B, rfl, hb2, _⟩
    have HB2 := Lib.hid (bstep HB1.out hb2)
    clear hb2 HR
    go_wp2
    go_ret2
    exact ⟨⟨_, 0, rfl, ⟨fun _ => HI.out.1 trivial, fun _ => rfl⟩, fun o2 h2 _ => by rw [ntI_inj (HE.out.symm.trans h2)]⟩, HB2.out⟩
  · have e1 : ¬ er = 0 := h0
    go_wp2
    go_ret2
    exact ⟨⟨0, er, rfl, HI.out, fun o2 h2 hp2 => absurd (HI.out.2 ⟨o2, h2, hp2⟩) h0⟩, HB1.out⟩
def StPost (l : List WkD) (o : List Nat) (w : World) (e : Ending) (w' : World) : Prop :=
  ∃ G1 G2 A B, e = .returned (.tuple #[.slice (some ⟨G1, 0, none⟩) l.length l.length, .slice (some ⟨G2, 0, none⟩) l.length l.length, .int .i64 0]) ∧
    Below w.heap.size w w' ∧ Own w' w.heap.size 3 intv (.slice (some ⟨G1, 0, none⟩) l.length l.length) A ∧ Own w' w.heap.size 3 intv (.slice (some ⟨G2, 0, none⟩) l.length l.length) B ∧ RunIs (cutF l) (bendF l) o l.length o.length A B
set_option maxHeartbeats 1000000 in
set_option maxRecDepth 100000 in
theorem mstarts_any (ao zo : Option Addr) (cap zc : Nat) (l : List WkD) (o : List Nat) (w : World) (hj : Jobs w ao cap l) (hz : OrdA w zo zc (ntI o)) (hp : o.Perm (List.range l.length)) :
    Calls Tryz.prog 11 #[.slice ao l.length cap, .slice zo o.length zc] w (StPost l o w) := by
  have HG := Lib.hid (mgiven_any ao zo cap zc l (ntI o) w hj hz)
  rw [ntI_len] at HG
  have HJ := Lib.hid hj
  have HZ := Lib.hid hz
  have HP := Lib.hid hp
  clear hj hz hp
  go_enter Tryz.func11, Tryz.ntmps11
  go_wp2_with fail
  refine HG.out.mono ?_
  rintro e w1 ⟨⟨er, rfl, hiff⟩, hb1⟩
  have HB1 := Lib.hid hb1
  obtain rfl : er = 0 := hiff.2 ⟨o, rfl, HP.out⟩
  clear hiff hb1 HG
  have hol : o.length = l.length := by rw [HP.out.length_eq, List.length_range]
  have HR := Lib.hid (mrun_any ao zo cap zc l o w1 (HJ.out.below HB1.out).at_ (ord_ints (HZ.out.below HB1.out).at_ rfl) HJ.out.few (by rw [hol]; exact HJ.out.few) (wks_tm HJ.out.ok) (HP.out.nodup_iff.2 List.nodup_range) (fun i hi => List.mem_range.1 (HP.out.mem_iff.1 hi)))
  clear hol
  go_wp2_with fail
  refine HR.out.mono ?_
  rintro e w2 ⟨G1, G2, A, B, rfl, hb2, hA, hB, hr⟩
  have HF := Lib.hid (And.intro (bstep HB1.out hb2) (And.intro (hA.mono HB1.out.size) (And.intro (hB.mono HB1.out.size) hr)))
  clear hb2 HR hA hB hr
  go_wp2
  go_ret3
  exact ⟨G1, G2, A, B, rfl, HF.out.1, HF.out.2.1, HF.out.2.2.1, HF.out.2.2.2⟩
end
end Go.Proofs.YtejcgjdfajppgaaGreatDoor
