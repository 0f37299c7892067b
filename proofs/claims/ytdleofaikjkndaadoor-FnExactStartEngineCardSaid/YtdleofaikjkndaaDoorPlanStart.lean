/-
  The program's StartEngine returns the same engine as the reference's, with the same error or none, for every plan, and its law leaves the plan as it was. Condition: the table of the forms of steps reads as the program's text lays it (tied by the card).
-/
import Derived.Test.YtdleofaikjkndaaDoorPlanLS
import Derived.Test.YtdleofaikjkndaaDoorPlanO
import Derived.Test.YtdleofaikjkndaaDoorPost
import Derived.Test.YtdleofaikjkndaaDoorCards
import Derived.Test.YtdleofaikjkndaaDoorTie
import Derived.SevenTiedAt
import Derived.Lib.SmallJoins
namespace Go.Proofs.YtdleofaikjkndaaDoor
open Go Go.RowKit Go.WideShapes Go.ChangeShapes Go.Joins

theorem door_met_startEngine (os : Os) (args : Array Value) : laidMetH Tryd.prog Rows.fnExactStartEngineRow.laid ((World.doorLaid Tryd.prog 400 os).forCall (fun _ _ => 0) ⟨#[], args, []⟩).memory :=
  laidMetH_of_parts3 (fuel := 8) (laidMet_of_run' 8 (by kernel_rfl) (by kernel_rfl)) (by kernel_rfl) (by kernel_rfl)

set_option maxRecDepth 100000 in
theorem startEngine_lifted (os : Os) (started : os.Started) (H : Type) (enc : TypeId × Value → H) :
    ReturnsInHanded {} Tryd.checked os 4 .any (fun w args => (Rows.fnExactStartEngineSpec.pre enc Tryd.prog Tryd.f4 [] false w args ∧ laidMetH Tryd.prog Rows.fnExactStartEngineRow.laid w) ∧ sizedMet enc Tryd.prog Tryd.f4 (OpenSpec.ofChange Rows.fnExactStartEngineSpec) false w args)
      (Rows.fnExactStartEngineSpec.post enc Tryd.prog Tryd.f4 false true false false) := by
  refine returnsInHanded_of_change_and (C := Tryd.checked) (X := fun w _ => laidMetH Tryd.prog Rows.fnExactStartEngineRow.laid w) (fun _ _ _ hh h => h.of_heap hh) Tryd.own started (by kernel_rfl) Tryd.func4
    (ChangeSpec.witness_shaped (enc := enc) (C := Tryd.checked) (os := os) (X := fun w _ => laidMetH Tryd.prog Rows.fnExactStartEngineRow.laid w) false (World.doorLaid Tryd.prog 400 os) #[.agg #[.slice none 0 0]] 8 rfl (World.shaped_of_RefB (by kernel_rfl) (by kernel_rfl)) (by kernel_rfl) (by kernel_rfl) (by kernel_rfl) (door_met_startEngine os _)) ?_
  intro W base args ds gs before hval0 hW _ _ hL _
  have hval : ∀ (j : Nat) t v, Tryd.f4.params[j]? = some t → args[j]? = some v → Value.okWide Tryd.prog W .any base t v := hval0
  have hW' := hW
  obtain ⟨p, q, hA0, hV, rfl, hfz, hnd⟩ := hW
  have hA : DataW.TrodAll enc Tryd.prog W 0 (fun _ => true) true Tryd.f4.params.toList args.toList ds p := hA0
  rw [Tryd.params4] at hA hval
  obtain ⟨v0, d0, rfl, rfl, h0⟩ := trodAll_one hA
  obtain ⟨g, t, cs, fuel, dg, pg, rfl, _, _, _, _, rfl⟩ := trodVars_one hV
  obtain ⟨A1, c1, P0, rfl, hc1, HP⟩ := open_plan_C (hval 0 24 v0 rfl rfl) h0
  obtain ⟨tb, toff, hT⟩ := formTab_of_laid rfl hL
  refine (lawStart_any tb toff A1 c1 P0 W (Lib.hid hT) hc1 (Lib.hid HP)).mono fun e W' ⟨he, hb⟩ => ?_
  subst he
  exact ⟨_, rfl, post_true Tryd.laidOut hW' (by kernel_rfl) (by kernel_rfl) hb rfl (tb := 4) rfl Tryd.underlying4⟩

theorem startEngine_holds : Rows.FnExactStartEngineSaid :=
  OpenClaim.holds_of_wide 4 Tryd.f4 rfl rfl rfl rfl rfl rfl rfl ⟨rfl, rfl, rfl, rfl, rfl⟩ rfl rfl rfl rfl rfl (by kernel_rfl) Tryd.func4 (by kernel_rfl)
    (of_decide_eq_true (by kernel_rfl)) (by unfold Func.isWrapper; first | (rw [if_pos (by decide +kernel)]; kernel_rfl) | (rw [if_neg (by decide +kernel)]; exact ⟨rfl, rfl⟩))
    (fun os started H enc _ => startEngine_lifted os started H enc)

theorem StartEngine_card_holds : Rows.FnExactStartEngineCardSaid :=
  Claim7.holds_tied_plain_at .later [] [.widerDeep] true _ false
    startEngine_holds (fun _ h => by cases h) (by kernel_rfl) (fun _ h => by cases h) fnExactStartEngine_row_tie rfl ⟨rfl, rfl⟩ (by kernel_rfl) rfl
    (fun f fn hf hfn => by
      obtain rfl : f = 4 := Option.some.inj ((show Tryd.prog.funcNamed "loop.example/g01155/laws.FnExactStartEngine" = some 4 by kernel_rfl).symm.trans hf) |>.symm
      obtain rfl : fn = Tryd.f4 := (Option.some.inj (Tryd.func4.symm.trans hfn)).symm
      exact ⟨by kernel_rfl, fun j t ht => by
        rw [Tryd.params4] at ht
        have hm : t ∈ [24] := by simpa using Array.mem_of_getElem? ht
        have hall : ([24].all fun u => !Tryd.prog.wantsStandIn u) = true := by kernel_rfl
        exact (show Tryd.prog.wantsStandIn t = false by simpa using List.all_eq_true.1 hall t hm)⟩)
    (by kernel_rfl)
#print axioms StartEngine_card_holds
end Go.Proofs.YtdleofaikjkndaaDoor
