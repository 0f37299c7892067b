/-
  The program's JoinPlans returns the same plan as the reference's, with the same error or none, for every two plans, and its law leaves both plans as they were. Condition: the table of the forms of steps reads as the program's text lays it (tied by the card).
-/
import Derived.Test.YtdleofaikjkndaaDoorPlanLJ
import Derived.Test.YtdleofaikjkndaaDoorPlanO
import Derived.Test.YtdleofaikjkndaaDoorPost
import Derived.Test.YtdleofaikjkndaaDoorCards
import Derived.Test.YtdleofaikjkndaaDoorTie
import Derived.SevenTiedAt
import Derived.Lib.SmallJoins
namespace Go.Proofs.YtdleofaikjkndaaDoor
open Go Go.RowKit Go.WideShapes Go.ChangeShapes Go.Joins

theorem door_met_joinPlans (os : Os) (args : Array Value) : laidMetH Tryd.prog Rows.fnExactJoinPlansRow.laid ((World.doorLaid Tryd.prog 400 os).forCall (fun _ _ => 0) ⟨#[], args, []⟩).memory :=
  laidMetH_of_parts3 (fuel := 8) (laidMet_of_run' 8 (by kernel_rfl) (by kernel_rfl)) (by kernel_rfl) (by kernel_rfl)

set_option maxRecDepth 100000 in
theorem joinPlans_lifted (os : Os) (started : os.Started) (H : Type) (enc : TypeId × Value → H) :
    ReturnsInHanded {} Tryd.checked os 3 .any (fun w args => (Rows.fnExactJoinPlansSpec.pre enc Tryd.prog Tryd.f3 [] false w args ∧ laidMetH Tryd.prog Rows.fnExactJoinPlansRow.laid w) ∧ sizedMet enc Tryd.prog Tryd.f3 (OpenSpec.ofChange Rows.fnExactJoinPlansSpec) false w args)
      (Rows.fnExactJoinPlansSpec.post enc Tryd.prog Tryd.f3 false true false false) := by
  refine returnsInHanded_of_change_and (C := Tryd.checked) (X := fun w _ => laidMetH Tryd.prog Rows.fnExactJoinPlansRow.laid w) (fun _ _ _ hh h => h.of_heap hh) Tryd.own started (by kernel_rfl) Tryd.func3
    (ChangeSpec.witness_shaped (enc := enc) (C := Tryd.checked) (os := os) (X := fun w _ => laidMetH Tryd.prog Rows.fnExactJoinPlansRow.laid w) false (World.doorLaid Tryd.prog 400 os) #[.agg #[.slice none 0 0], .agg #[.slice none 0 0]] 8 rfl (World.shaped_of_RefB (by kernel_rfl) (by kernel_rfl)) (by kernel_rfl) (by kernel_rfl) (by kernel_rfl) (door_met_joinPlans os _)) ?_
  intro W base args ds gs before hval0 hW _ _ hL _
  have hval : ∀ (j : Nat) t v, Tryd.f3.params[j]? = some t → args[j]? = some v → Value.okWide Tryd.prog W .any base t v := hval0
  have hW' := hW
  obtain ⟨p, q, hA0, hV, rfl, hfz, hnd⟩ := hW
  have hA : DataW.TrodAll enc Tryd.prog W 0 (fun _ => true) true Tryd.f3.params.toList args.toList ds p := hA0
  rw [Tryd.params3] at hA hval
  obtain ⟨v0, v1, d0, d1, p0, p1, rfl, rfl, rfl, h0, h1⟩ := trodAll_two hA
  obtain ⟨g, t, cs, fuel, dg, pg, rfl, _, _, _, _, rfl⟩ := trodVars_one hV
  obtain ⟨A1, c1, P0, rfl, hc1, HP⟩ := open_plan_C (hval 0 24 v0 rfl rfl) h0
  obtain ⟨A2, c2, Q0, rfl, hc2, HQ⟩ := open_plan_C (hval 1 24 v1 rfl rfl) h1
  obtain ⟨tb, toff, hT⟩ := formTab_of_laid rfl hL
  refine (lawJoin_any tb toff A1 A2 c1 c2 P0 Q0 W (Lib.hid hT) hc1 hc2 (Lib.hid HP) (Lib.hid HQ)).mono fun e W' ⟨he, hb⟩ => ?_
  subst he
  exact ⟨_, rfl, post_true Tryd.laidOut hW' (by kernel_rfl) (by kernel_rfl) hb rfl (tb := 4) rfl Tryd.underlying4⟩

theorem joinPlans_holds : Rows.FnExactJoinPlansSaid :=
  OpenClaim.holds_of_wide 3 Tryd.f3 rfl rfl rfl rfl rfl rfl rfl ⟨rfl, rfl, rfl, rfl, rfl⟩ rfl rfl rfl rfl rfl (by kernel_rfl) Tryd.func3 (by kernel_rfl)
    (of_decide_eq_true (by kernel_rfl)) (by unfold Func.isWrapper; first | (rw [if_pos (by decide +kernel)]; kernel_rfl) | (rw [if_neg (by decide +kernel)]; exact ⟨rfl, rfl⟩))
    (fun os started H enc _ => joinPlans_lifted os started H enc)

theorem JoinPlans_card_holds : Rows.FnExactJoinPlansCardSaid :=
  Claim7.holds_tied_plain_at .later [] [.widerDeep] true _ false
    joinPlans_holds (fun _ h => by cases h) (by kernel_rfl) (fun _ h => by cases h) fnExactJoinPlans_row_tie rfl ⟨rfl, rfl⟩ (by kernel_rfl) rfl
    (fun f fn hf hfn => by
      obtain rfl : f = 3 := Option.some.inj ((show Tryd.prog.funcNamed "loop.example/g01155/laws.FnExactJoinPlans" = some 3 by kernel_rfl).symm.trans hf) |>.symm
      obtain rfl : fn = Tryd.f3 := (Option.some.inj (Tryd.func3.symm.trans hfn)).symm
      exact ⟨by kernel_rfl, fun j t ht => by
        rw [Tryd.params3] at ht
        have hm : t ∈ [24] := by simpa using Array.mem_of_getElem? ht
        have hall : ([24].all fun u => !Tryd.prog.wantsStandIn u) = true := by kernel_rfl
        exact (show Tryd.prog.wantsStandIn t = false by simpa using List.all_eq_true.1 hall t hm)⟩)
    (by kernel_rfl)
#print axioms JoinPlans_card_holds
end Go.Proofs.YtdleofaikjkndaaDoor
