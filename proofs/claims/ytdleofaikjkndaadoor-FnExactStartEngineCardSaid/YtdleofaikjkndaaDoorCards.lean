/-
  DERIVED. GIVEN WITH THE SEED: THE CARDS: each row of YtdleofaikjkndaaDoorRows.lean that lists a variable, with what it lists TIED to the program's text (the seventh form; the later family's looks); each row that meets fmt, with fmt's text TOLD by the authors' own Lean function (tested against real Go, not proved from fmt's source: count such statements apart). THE CARD IS WHAT COUNTS. Prove the row's statement (the work); the ties are given (YtdleofaikjkndaaDoorTie.lean); close each card by the builder's one call (the guide's Derived/Test/ToyasCard.lean, 'card_holds'). Laid BY PROGRAM, IN A SANDBOX (cutbox-door.mjs). By AI agents, Wed Nov 11 2026. No macro, syntax, notation, axiom, sorry.
-/
import Derived.Test.YtdleofaikjkndaaDoorRows
import GoSem.ClaimSeven
namespace Go.Proofs.YtdleofaikjkndaaDoor
namespace Rows

/-- THE TIED CARD OF 'laws.FnExactJoinPlans'. -/
def fnExactJoinPlansCard : Claim7 := { stood := { row := fnExactJoinPlansRow, standIns := [], harness := (true, "567be2507cf39df38b946a13ae7b448d658f2005a4d24f8c1214515258a7e85c"), looks := false }, kinds := [], alts := [], laidByText := true, laidKinds := [.widerDeep], laidTests := true, laidLooks := .later }
def FnExactJoinPlansCardSaid : Prop := Claim7.holds Tryd.pinned (.plain (OpenSpec.ofChange fnExactJoinPlansSpec)) fnExactJoinPlansCard

/-- THE TIED CARD OF 'laws.FnExactStartEngine'. -/
def fnExactStartEngineCard : Claim7 := { stood := { row := fnExactStartEngineRow, standIns := [], harness := (true, "567be2507cf39df38b946a13ae7b448d658f2005a4d24f8c1214515258a7e85c"), looks := false }, kinds := [], alts := [], laidByText := true, laidKinds := [.widerDeep], laidTests := true, laidLooks := .later }
def FnExactStartEngineCardSaid : Prop := Claim7.holds Tryd.pinned (.plain (OpenSpec.ofChange fnExactStartEngineSpec)) fnExactStartEngineCard

/-- THE TIED CARD OF 'laws.FnExactTidyPlan'. -/
def fnExactTidyPlanCard : Claim7 := { stood := { row := fnExactTidyPlanRow, standIns := [], harness := (true, "567be2507cf39df38b946a13ae7b448d658f2005a4d24f8c1214515258a7e85c"), looks := false }, kinds := [], alts := [], laidByText := true, laidKinds := [.widerDeep], laidTests := true, laidLooks := .later }
def FnExactTidyPlanCardSaid : Prop := Claim7.holds Tryd.pinned (.plain (OpenSpec.ofChange fnExactTidyPlanSpec)) fnExactTidyPlanCard

/-- THE SECOND FORM's CARD OF 'laws.FnExactJoinPlans'. -/
def fnExactJoinPlansUptoCard : Claim7 := { stood := { row := fnExactJoinPlansUptoRow, standIns := [], harness := (true, "567be2507cf39df38b946a13ae7b448d658f2005a4d24f8c1214515258a7e85c"), looks := false }, kinds := [], alts := [], laidByText := true, laidKinds := [.widerDeep], laidTests := true, laidLooks := .later }
def FnExactJoinPlansUptoCardSaid : Prop := Claim7.holds Tryd.pinned (.plain (OpenSpec.upto fnExactJoinPlansSpec)) fnExactJoinPlansUptoCard

/-- THE SECOND FORM's CARD OF 'laws.FnExactStartEngine'. -/
def fnExactStartEngineUptoCard : Claim7 := { stood := { row := fnExactStartEngineUptoRow, standIns := [], harness := (true, "567be2507cf39df38b946a13ae7b448d658f2005a4d24f8c1214515258a7e85c"), looks := false }, kinds := [], alts := [], laidByText := true, laidKinds := [.widerDeep], laidTests := true, laidLooks := .later }
def FnExactStartEngineUptoCardSaid : Prop := Claim7.holds Tryd.pinned (.plain (OpenSpec.upto fnExactStartEngineSpec)) fnExactStartEngineUptoCard

/-- THE SECOND FORM's CARD OF 'laws.FnExactTidyPlan'. -/
def fnExactTidyPlanUptoCard : Claim7 := { stood := { row := fnExactTidyPlanUptoRow, standIns := [], harness := (true, "567be2507cf39df38b946a13ae7b448d658f2005a4d24f8c1214515258a7e85c"), looks := false }, kinds := [], alts := [], laidByText := true, laidKinds := [.widerDeep], laidTests := true, laidLooks := .later }
def FnExactTidyPlanUptoCardSaid : Prop := Claim7.holds Tryd.pinned (.plain (OpenSpec.upto fnExactTidyPlanSpec)) fnExactTidyPlanUptoCard
end Rows
end Go.Proofs.YtdleofaikjkndaaDoor
