/- The program's ValidPlan. -/
import Derived.Test.YtdleofaikjkndaaDoorPlanVT
namespace Go.Proofs.YtdleofaikjkndaaDoor
open Go.RowKit Go.Proofs.YtdleofaikjkndaaDoorW.PrintWords Go.Proofs.YtdleofaikjkndaaDoor.PFnExactJoinPlans

theorem step_at {w : World} {A : Option Addr} {S : List S53} (h : Kd.C k53 w A S.length S) {k : Nat} (hk : k < S.length) :
    ∃ ad A3 c3, A = some ad ∧ w.cell? (ad.add (k * 4)) = some (.int .i64 S[k].f0) ∧ w.cell? ⟨(ad.add (k * 4)).block, (ad.add (k * 4)).off + 1, none⟩ = some (.int .i64 S[k].f1) ∧ w.cell? ⟨(ad.add (k * 4)).block, (ad.add (k * 4)).off + 2, none⟩ = some (.int .i64 S[k].f2) ∧
      w.cell? ⟨(ad.add (k * 4)).block, (ad.add (k * 4)).off + 3, none⟩ = some (.slice A3 S[k].f3.length c3) ∧ S[k].f3.length ≤ c3 ∧ Kd.C (Kd.int .i64) w A3 S[k].f3.length S[k].f3 := by
  obtain ⟨ad, A3, c3, e, h0, h1, h2, h3, h4, h5⟩ := at_T53 h (k : Int) (by omega) (by omega)
  have e2 : rd_T53 S (k : Int) = S[k] := by
    unfold rd_T53
    simp [List.getD_eq_getElem?_getD, List.getElem?_eq_getElem hk]
  rw [e2] at h0 h1 h2 h3 h4 h5
  exact ⟨ad, A3, c3, e, h0, h1, h2, h3, h4, h5⟩

set_option maxHeartbeats 400000 in
theorem notValid_any (tb toff : Nat) (s : S53) (A : Option Addr) (c : Nat) (w : World) (HT : Hid (FormTab w tb toff)) (HR : Hid (Kd.C (Kd.int .i64) w A s.f3.length s.f3)) :
    Calls Tryd.prog 41 #[.agg #[.int .i64 s.f0, .int .i64 s.f1, .int .i64 s.f2, .slice A s.f3.length c]] w fun e w' => e = .returned (.bool (!vStep s)) ∧ Below w.heap.size w w' := by
  have HV : Hid (vStep4 s.f0 s.f1 s.f2 s.f3 = vStep s) := rfl
  go_enter Tryd.func41, Tryd.ntmps41
  go_wp2_with fail
  refine (validStep_any tb toff _ _ _ _ _ _ _ (Lib.hid (HT.out.below (below_alloc (Below.refl _ _) _))) (Lib.hid (Kd.C_alloc HR.out _))).mono ?_
  rintro e w' ⟨he, hb⟩
  rw [HV.out] at he
  subst he
  have HB := Lib.hid hb
  clear hb
  go_wp2_with fail
  go_ret
  exact ⟨rfl, below_call (below_alloc (Below.refl _ _) _) HB.out⟩

/-- The place of the first one for which p holds, or -1. -/
def idxOf (S : List S53) (p : S53 → Bool) : Int := if S.any p then (S.findIdx p : Int) else -1
def IdxPost (S : List S53) (p : S53 → Bool) (w : World) (e : Ending) (w' : World) : Prop := e = .returned (.int .i64 (idxOf S p)) ∧ Below w.heap.size w w'
theorem idxOf_none {S : List S53} {p : S53 → Bool} (h : (S.take S.length).any p = false) : idxOf S p = -1 := by
  rw [List.take_length] at h
  simp [idxOf, h]
theorem idxOf_some {S : List S53} {p : S53 → Bool} {k : Nat} (hk : k < S.length) (h : (S.take k).any p = false) (hp : p S[k] = true) : idxOf S p = k := by
  have ha : S.any p = true := by
    rw [List.any_eq_true]
    exact ⟨S[k], List.getElem_mem _, hp⟩
  have hf : S.findIdx p = k := by
    rw [List.findIdx_eq hk]
    refine ⟨hp, fun j hj => ?_⟩
    rw [List.any_eq_false] at h
    have := h S[j] (by rw [List.mem_take_iff_getElem]; exact ⟨j, by omega, rfl⟩)
    simpa using this
  simp [idxOf, ha, hf]
theorem take_any_snoc {S : List S53} {p : S53 → Bool} {k : Nat} (hk : k < S.length) (h : (S.take k).any p = false) (hp : p S[k] = false) : (S.take (k + 1)).any p = false := by
  rw [List.take_succ_eq_append_getElem hk, List.any_append, h]
  simp [hp]
theorem idxOf_ge (S : List S53) (p : S53 → Bool) : decide (0 ≤ idxOf S p) = S.any p := by
  unfold idxOf
  cases S.any p <;> simp

set_option maxHeartbeats 1000000 in
theorem indexInvalid_any (tb toff : Nat) (A : Option Addr) (c : Nat) (S : List S53) (w : World) (HT : Hid (FormTab w tb toff)) (HR : Hid (Kd.C k53 w A S.length S)) :
    Calls Tryd.prog 56 #[.slice A S.length c, .func (.func 41) #[] #[]] w (IdxPost S (fun s => !vStep s) w) := by
  have hmax : S.length ≤ 9223372036854775807 := Kd.C_max HR.out
  go_enter Tryd.func56, Tryd.ntmps56
  go_wp2_with fail
  go_loopw [5, 8] (fun _ i wr => ∃ k : Nat, k ≤ S.length ∧ i = .int .i64 k ∧ Hid ((S.take k).any (fun s => !vStep s) = false) ∧ Hid (Below w.heap.size w wr)) (fun _ i _ => S.length - (intOf i).toNat)
  case atStart => exact ⟨0, by omega, rfl, by simp [Hid], Below.refl _ _⟩
  case round =>
    obtain ⟨k, hk, rfl, HJ, HB⟩ := hrel
    by_cases hlt : k < S.length
    · obtain ⟨ad, A3, c3, rfl, x0, x1, x2, x3, hl3, hi3⟩ := step_at (Kd.C_below HR.out HB.out) hlt
      have HI := Lib.hid hi3
      clear hl3 hi3
      cases hp : vStep S[k] with
      | true =>
        have HP := Lib.hid hp
        clear hp
        go_wp2_with fail
        refine (notValid_any tb toff _ _ _ _ (Lib.hid (HT.out.below HB.out)) HI).mono ?_
        rintro e w' ⟨he1, hb1⟩
        rw [HP.out] at he1
        subst he1
        have HB1 := Lib.hid (below_call HB.out hb1)
        clear hb1
        go_wp2_with fail
        go_roundw
        case rel => exact ⟨k + 1, by omega, by go_num, take_any_snoc hlt HJ.out (by simp [HP.out]), HB1.out⟩
        case measure => simp [intOf]; omega
      | false =>
        have HP := Lib.hid hp
        clear hp
        go_wp2_with fail
        refine (notValid_any tb toff _ _ _ _ (Lib.hid (HT.out.below HB.out)) HI).mono ?_
        rintro e w' ⟨he1, hb1⟩
        rw [HP.out] at he1
        subst he1
        have HB1 := Lib.hid (below_call HB.out hb1)
        clear hb1
        go_wp2_with fail
        go_ret
        exact ⟨ret_int (idxOf_some hlt HJ.out (by simp [HP.out])).symm, HB1.out⟩
    · obtain rfl : k = S.length := by omega
      go_wp2_with fail
      go_ret
      exact ⟨ret_int (idxOf_none HJ.out).symm, HB.out⟩

set_option maxHeartbeats 400000 in
theorem anyInvalid_any (tb toff : Nat) (A : Option Addr) (c : Nat) (S : List S53) (w : World) (HT : Hid (FormTab w tb toff)) (HR : Hid (Kd.C k53 w A S.length S)) :
    Calls Tryd.prog 40 #[.slice A S.length c, .func (.func 41) #[] #[]] w fun e w' => e = .returned (.bool (S.any fun s => !vStep s)) ∧ Below w.heap.size w w' := by
  have HG := Lib.hid (idxOf_ge S (fun s => !vStep s))
  go_enter Tryd.func40, Tryd.ntmps40
  go_wp2_with fail
  refine (indexInvalid_any tb toff _ _ _ _ HT HR).mono ?_
  rintro e w' ⟨rfl, hb⟩
  generalize idxOf S (fun s => !vStep s) = z at *
  go_wp2_with fail
  go_ret
  exact ⟨ret_bool HG.out, hb⟩

def vPlan (S : List S53) : Bool := decide (S.length ≤ 8) && S.all vStep
theorem all_any (S : List S53) : (!(S.any fun s => !vStep s)) = S.all vStep := by
  rw [List.not_any_eq_all_not]
  simp

set_option maxHeartbeats 1000000 in
theorem validPlan_any (tb toff : Nat) (A : Option Addr) (c : Nat) (S : List S53) (w : World) (HT : Hid (FormTab w tb toff)) (HR : Hid (Kd.C k53 w A S.length S)) :
    Calls Tryd.prog 24 #[.agg #[.slice A S.length c]] w fun e w' => e = .returned (.bool (vPlan S)) ∧ Below w.heap.size w w' := by
  have HA := Lib.hid (all_any S)
  by_cases h8 : S.length ≤ 8
  · have h8I : (S.length : Int) ≤ 8 := by omega
    go_enter Tryd.func24, Tryd.ntmps24
    go_wp2_with fail
    refine (anyInvalid_any tb toff _ _ _ _ (Lib.hid (HT.out.below (below_alloc (Below.refl _ _) _))) (Lib.hid (Kd.C_alloc HR.out _))).mono ?_
    rintro e w' ⟨rfl, hb⟩
    have HB := Lib.hid hb
    clear hb
    go_wp2_with fail
    go_ret
    exact ⟨ret_bool (by unfold vPlan; rw [HA.out]; simp [h8]), below_call (below_alloc (Below.refl _ _) _) HB.out⟩
  · have h8I : ¬ ((S.length : Int) ≤ 8) := by omega
    go_enter Tryd.func24, Tryd.ntmps24
    go_wp2_with fail
    go_ret
    exact ⟨ret_bool (by unfold vPlan; simp [h8]), below_alloc (Below.refl _ _) _⟩
end Go.Proofs.YtdleofaikjkndaaDoor
