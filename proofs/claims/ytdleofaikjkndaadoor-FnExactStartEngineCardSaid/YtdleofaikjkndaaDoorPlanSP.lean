/- The reference's validity of a plan. -/
import Derived.Test.YtdleofaikjkndaaDoorPlanST
import Derived.Test.YtdleofaikjkndaaDoorPlanVP
namespace Go.Proofs.YtdleofaikjkndaaDoor
open Go.RowKit Go.Proofs.YtdleofaikjkndaaDoorW.PrintWords Go.Proofs.YtdleofaikjkndaaDoor.PFnExactJoinPlans

theorem l07Step_at (a : Addr) (s : S53) (A : Option Addr) (c : Nat) (w : World) (h0 : w.cell? a = some (.int .i64 s.f0)) (h1 : w.cell? ⟨a.block, a.off + 1, none⟩ = some (.int .i64 s.f1)) (h2 : w.cell? ⟨a.block, a.off + 2, none⟩ = some (.int .i64 s.f2)) (h3 : w.cell? ⟨a.block, a.off + 3, none⟩ = some (.slice A s.f3.length c)) (HR : Hid (Kd.C (Kd.int .i64) w A s.f3.length s.f3)) :
    Calls Tryd.prog 37 #[.pointer (some a)] w fun e w' => e = .returned (.bool (vStep s)) ∧ Below w.heap.size w w' := by
  have hs := World.cell?_spot h0
  obtain ⟨b, o, sp⟩ := a
  simp only at hs
  subst hs
  exact l07Step_any s.f0 b o s.f1 s.f2 A c s.f3 w h1 h2 h3 h0 HR

theorem take_all_snoc {S : List S53} {p : S53 → Bool} {k : Nat} (hk : k < S.length) (h : (S.take k).all p = true) (hp : p S[k] = true) : (S.take (k + 1)).all p = true := by
  rw [List.take_succ_eq_append_getElem hk, List.all_append, h]
  simp [hp]

set_option maxRecDepth 100000 in
set_option maxHeartbeats 2000000 in
theorem l07Ok_any (p : Nat) (A : Option Addr) (c : Nat) (S : List S53) (w : World) (hp : w.cell? ⟨p, 0, none⟩ = some (.slice A S.length c)) (HR : Hid (Kd.C k53 w A S.length S)) :
    Calls Tryd.prog 21 #[.pointer (some ⟨p, 0, none⟩)] w fun e w' => e = .returned (.bool (vPlan S)) ∧ Below w.heap.size w w' := by
  have hmax : S.length ≤ 9223372036854775807 := Kd.C_max HR.out
  have HP := Lib.hid hp
  clear hp
  go_enter Tryd.func21, Tryd.ntmps21
  go_wp2_with fail
  go_loopw [3] (fun i wr => ∃ k : Nat, k ≤ S.length ∧ i = .int .i64 k ∧ Hid ((S.take k).all vStep = true) ∧ Hid (Below w.heap.size w wr)) (fun i _ => S.length - (intOf i).toNat)
  case atStart => exact ⟨0, by omega, rfl, by simp [Hid], Below.refl _ _⟩
  case round =>
    obtain ⟨k, hk, rfl, HJ, HB⟩ := hrel
    have hp1 := cell_below HP.out HB.out
    by_cases hlt : k < S.length
    · obtain ⟨ad, A3, c3, rfl, x0, x1, x2, x3, hl3, hi3⟩ := step_at (Kd.C_below HR.out HB.out) hlt
      have HI := Lib.hid hi3
      clear hl3 hi3
      cases hv : vStep S[k] with
      | true =>
        have HV := Lib.hid hv
        clear hv
        go_wp2_with fail
        refine (l07Step_at _ _ _ _ _ x0 x1 x2 x3 HI).mono ?_
        rintro e w' ⟨he1, hb1⟩
        rw [HV.out] at he1
        subst he1
        have HB1 := Lib.hid (below_call HB.out hb1)
        clear hb1
        go_wp2_with fail
        go_roundw
        case rel => exact ⟨k + 1, by omega, by go_num, take_all_snoc hlt HJ.out HV.out, HB1.out⟩
        case measure => simp [intOf]; omega
      | false =>
        have HV := Lib.hid hv
        have hfin : vPlan S = false := by
          unfold vPlan
          have : S.all vStep = false := by
            rw [List.all_eq_false]
            exact ⟨S[k], List.getElem_mem _, by rw [hv]; simp⟩
          rw [this]
          simp
        have HF := Lib.hid hfin
        clear hv hfin
        go_wp2_with fail
        refine (l07Step_at _ _ _ _ _ x0 x1 x2 x3 HI).mono ?_
        rintro e w' ⟨he1, hb1⟩
        rw [HV.out] at he1
        subst he1
        have HB1 := Lib.hid (below_call HB.out hb1)
        clear hb1
        go_wp2_with fail
        go_ret
        exact ⟨ret_bool HF.out.symm, HB1.out⟩
    · obtain rfl : k = S.length := by omega
      have hfin : decide ((S.length : Int) ≤ 8) = vPlan S := by
        have := HJ.out
        rw [List.take_length] at this
        unfold vPlan
        rw [this]
        simp; omega
      have HF := Lib.hid hfin
      clear hfin
      go_wp2_with fail
      all_goals
        go_ret
        refine ⟨ret_bool ?_, HB.out⟩
        rw [← HF.out]
        try (simp; omega)
end Go.Proofs.YtdleofaikjkndaaDoor
