/-
  NARROWER THAN 'FOR EVERY INPUT', by the rows' own cells (each row's printed sentence says how): FnExactJoinPlans: laid · FnExactStartEngine: laid · FnExactTidyPlan: laid.
  DERIVED. THE GIVEN ROWS OF THIS SEAT. 3 by the template 'for every input the law returns true; each argument reads behind the call as it read before'; 0 by the template 'total and deterministic' (their statements: YtdleofaikjkndaaDoorTotals.lean).
  GIVEN WITH THE SEED: the statements are not yours to turn. If you find one false, say at which input.
  Laid BY PROGRAM, IN A SANDBOX (cutbox-rows.mjs): the forced cells as the released guide's own fill.sh prints them over the translation 90bb7dfb6ab5b8e1… (all of the seat's roots in one cut). By AI agents, Wed Nov 11 2026. No macro, syntax, notation, axiom, sorry.
-/
import Derived.Test.YtdleofaikjkndaaDoorChecked
import GoSem.Claim
import GoSem.ClaimJoined
import GoSem.ClaimMapViews
import Derived.JoinedTies
import Derived.KernelRfl
namespace Go.Proofs.YtdleofaikjkndaaDoor
/- THE CELL 'sum', in the pinned program and in every row, IS THE sha256 OF THE DUMP (.gsa) THAT YtdleofaikjkndaaDoorProg.lean LOADS. Nothing in Lean hashes anything: it is a label: what it is worth is what the hold of that sum in a sandbox is worth. -/
noncomputable def Tryd.pinned : Pinned := { name := "ytdleofaikjkndaadoor", sum := "90bb7dfb6ab5b8e1e8f6dc074fc89bed7e8fab1834f9ddca73bcfd454e06de23", checked := Tryd.checked }
namespace Rows
def none {H : Type} : Left H := { results := [], args := [] }

/- WHAT THE LISTED PACKAGE-LEVEL VARIABLES READ AS WHEN THE CALL BEGINS. Each datum BY PROGRAM (the guide's laid-datum.mjs) off the statement by which the dump's own 'gosem.cut.vars' lays the variable. In a bare row this is a premise. The card (YtdleofaikjkndaaDoorCards.lean) ties it to the program's text. -/
def laid_loop_example_g01155_impl_stepForms {H : Type} : DataW H := .slice [.agg [.lit (.string []), .lit (.bool false), .lit (.bool false), .lit (.bool false)], .agg [.lit (.string [103, 97, 105, 110]), .lit (.bool true), .lit (.bool true), .lit (.bool false)], .agg [.lit (.string [100, 101, 108, 97, 121]), .lit (.bool true), .lit (.bool false), .lit (.bool false)], .agg [.lit (.string [102, 105, 108, 116, 101, 114]), .lit (.bool false), .lit (.bool false), .lit (.bool true)], .agg [.lit (.string [116, 117, 114, 110]), .lit (.bool true), .lit (.bool true), .lit (.bool false)], .agg [.lit (.string [107, 101, 101, 112]), .lit (.bool true), .lit (.bool false), .lit (.bool false)], .agg [.lit (.string [115, 116, 117, 102, 102]), .lit (.bool true), .lit (.bool false), .lit (.bool false)], .agg [.lit (.string [98, 108, 111, 99, 107]), .lit (.bool true), .lit (.bool false), .lit (.bool false)], .agg [.lit (.string [98, 97, 99, 107]), .lit (.bool true), .lit (.bool false), .lit (.bool false)], .agg [.lit (.string [102, 108, 105, 112]), .lit (.bool true), .lit (.bool false), .lit (.bool false)], .agg [.lit (.string [115, 117, 109]), .lit (.bool true), .lit (.bool false), .lit (.bool false)], .agg [.lit (.string [110, 97, 114, 114, 111, 119]), .lit (.bool false), .lit (.bool false), .lit (.bool false)], .agg [.lit (.string [109, 105, 114, 114, 111, 114]), .lit (.bool false), .lit (.bool false), .lit (.bool false)], .agg [.lit (.string [115, 113, 117, 97, 114, 101]), .lit (.bool false), .lit (.bool false), .lit (.bool false)]] []

/-- 'laws.FnExactJoinPlans': WHATEVER THE INPUT: true; the input reads as it did. -/
def fnExactJoinPlansSpec : ChangeSpec := { name := "fnExactJoinPlans", vars := ["loop.example/g01155/impl.stepForms"], fn := fun _ => fun
  | [d1, d2, g1] => { results := [.lit (.bool true)], args := [d1, d2], vars := [g1] }
  | _ => none }
def fnExactJoinPlansRow : OpenClaim := { program := "ytdleofaikjkndaadoor", sum := "90bb7dfb6ab5b8e1e8f6dc074fc89bed7e8fab1834f9ddca73bcfd454e06de23", func := "loop.example/g01155/laws.FnExactJoinPlans", spec := "fnExactJoinPlans", unfollowed := true, recurses := true, named := ["loop.example/g01155/impl.stepForms"], apart := false, laid := [("loop.example/g01155/impl.stepForms", laid_loop_example_g01155_impl_stepForms)] }
def FnExactJoinPlansSaid : Prop := fnExactJoinPlansRow.holds Tryd.pinned (OpenSpec.ofChange fnExactJoinPlansSpec)

/-- ITS FALSE NEIGHBOUR: 'it returns false'. Refute it at one input. -/
def fnExactJoinPlansWrong : ChangeSpec := { name := "fnExactJoinPlans", vars := ["loop.example/g01155/impl.stepForms"], fn := fun _ => fun
  | [d1, d2, g1] => { results := [.lit (.bool false)], args := [d1, d2], vars := [g1] }
  | _ => none }
def FnExactJoinPlansWrongFalsely : Prop := fnExactJoinPlansRow.holds Tryd.pinned (OpenSpec.ofChange fnExactJoinPlansWrong)

/-- 'laws.FnExactStartEngine': WHATEVER THE INPUT: true; the input reads as it did. -/
def fnExactStartEngineSpec : ChangeSpec := { name := "fnExactStartEngine", vars := ["loop.example/g01155/impl.stepForms"], fn := fun _ => fun
  | [d, g1] => { results := [.lit (.bool true)], args := [d], vars := [g1] }
  | _ => none }
def fnExactStartEngineRow : OpenClaim := { program := "ytdleofaikjkndaadoor", sum := "90bb7dfb6ab5b8e1e8f6dc074fc89bed7e8fab1834f9ddca73bcfd454e06de23", func := "loop.example/g01155/laws.FnExactStartEngine", spec := "fnExactStartEngine", unfollowed := true, recurses := true, named := ["loop.example/g01155/impl.stepForms"], apart := false, laid := [("loop.example/g01155/impl.stepForms", laid_loop_example_g01155_impl_stepForms)] }
def FnExactStartEngineSaid : Prop := fnExactStartEngineRow.holds Tryd.pinned (OpenSpec.ofChange fnExactStartEngineSpec)

/-- ITS FALSE NEIGHBOUR: 'it returns false'. Refute it at one input. -/
def fnExactStartEngineWrong : ChangeSpec := { name := "fnExactStartEngine", vars := ["loop.example/g01155/impl.stepForms"], fn := fun _ => fun
  | [d, g1] => { results := [.lit (.bool false)], args := [d], vars := [g1] }
  | _ => none }
def FnExactStartEngineWrongFalsely : Prop := fnExactStartEngineRow.holds Tryd.pinned (OpenSpec.ofChange fnExactStartEngineWrong)

/-- 'laws.FnExactTidyPlan': WHATEVER THE INPUT: true; the input reads as it did. -/
def fnExactTidyPlanSpec : ChangeSpec := { name := "fnExactTidyPlan", vars := ["loop.example/g01155/impl.stepForms"], fn := fun _ => fun
  | [d, g1] => { results := [.lit (.bool true)], args := [d], vars := [g1] }
  | _ => none }
def fnExactTidyPlanRow : OpenClaim := { program := "ytdleofaikjkndaadoor", sum := "90bb7dfb6ab5b8e1e8f6dc074fc89bed7e8fab1834f9ddca73bcfd454e06de23", func := "loop.example/g01155/laws.FnExactTidyPlan", spec := "fnExactTidyPlan", unfollowed := true, recurses := true, named := ["loop.example/g01155/impl.stepForms"], apart := false, laid := [("loop.example/g01155/impl.stepForms", laid_loop_example_g01155_impl_stepForms)] }
def FnExactTidyPlanSaid : Prop := fnExactTidyPlanRow.holds Tryd.pinned (OpenSpec.ofChange fnExactTidyPlanSpec)

/-- ITS FALSE NEIGHBOUR: 'it returns false'. Refute it at one input. -/
def fnExactTidyPlanWrong : ChangeSpec := { name := "fnExactTidyPlan", vars := ["loop.example/g01155/impl.stepForms"], fn := fun _ => fun
  | [d, g1] => { results := [.lit (.bool false)], args := [d], vars := [g1] }
  | _ => none }
def FnExactTidyPlanWrongFalsely : Prop := fnExactTidyPlanRow.holds Tryd.pinned (OpenSpec.ofChange fnExactTidyPlanWrong)

/- THE SECOND FORM. 'bulk': how many values and letters a reading holds, each counted each time it is reached (what is shared counts as often as it is met; a slice's spare places count too). A statement '..UptoSaid' is the law's where the arguments, and the package variables that the reading takes, are together of bulk at most 1048576: NARROWER than '..Said'. Prove '..Said' where nothing that the law and all that it calls make is longer than what came in: it says more and counts as full. Else prove '..UptoSaid'. A law counts once. -/
mutual
def uptoBulk {H : Type} : DataW H → Nat
  | .lit (.string bytes) => bytes.length + 1
  | .lit _ => 1
  | .nil => 1
  | .ptr d => uptoBulk d + 1
  | .slice elems spare => uptoBulkAll elems + uptoBulkAll spare + 1
  | .agg parts => uptoBulkAll parts + 1
  | .iface _ d => uptoBulk d + 1
  | .map entries => uptoBulkEntries entries + 1
  | .held _ => 1
def uptoBulkAll {H : Type} : List (DataW H) → Nat
  | [] => 0
  | d :: r => uptoBulk d + uptoBulkAll r
def uptoBulkEntries {H : Type} : List (Lit × DataW H) → Nat
  | [] => 0
  | x :: r => uptoBulkEntry x + uptoBulkEntries r
def uptoBulkEntry {H : Type} : Lit × DataW H → Nat
  | (.string bytes, d) => bytes.length + uptoBulk d + 1
  | (_, d) => uptoBulk d + 1
 end
def uptoSmall : (H : Type) → List (DataW H) → Bool := fun _ ds => decide (uptoBulkAll ds ≤ 1048576)
def OpenSpec.upto (s : _root_.Go.ChangeSpec) : _root_.Go.OpenSpec := { _root_.Go.OpenSpec.ofChange s with cond := some uptoSmall }

/-- 'laws.FnExactJoinPlans', WHERE WHAT IT READS IS OF BULK AT MOST 1048576: true; the input reads as it did. -/
def fnExactJoinPlansUptoRow : OpenClaim := { program := "ytdleofaikjkndaadoor", sum := "90bb7dfb6ab5b8e1e8f6dc074fc89bed7e8fab1834f9ddca73bcfd454e06de23", func := "loop.example/g01155/laws.FnExactJoinPlans", spec := "fnExactJoinPlans", unfollowed := true, recurses := true, named := ["loop.example/g01155/impl.stepForms"], apart := false, laid := [("loop.example/g01155/impl.stepForms", laid_loop_example_g01155_impl_stepForms)], narrowed := true }
def FnExactJoinPlansUptoSaid : Prop := fnExactJoinPlansUptoRow.holds Tryd.pinned (OpenSpec.upto fnExactJoinPlansSpec)

/-- 'laws.FnExactStartEngine', WHERE WHAT IT READS IS OF BULK AT MOST 1048576: true; the input reads as it did. -/
def fnExactStartEngineUptoRow : OpenClaim := { program := "ytdleofaikjkndaadoor", sum := "90bb7dfb6ab5b8e1e8f6dc074fc89bed7e8fab1834f9ddca73bcfd454e06de23", func := "loop.example/g01155/laws.FnExactStartEngine", spec := "fnExactStartEngine", unfollowed := true, recurses := true, named := ["loop.example/g01155/impl.stepForms"], apart := false, laid := [("loop.example/g01155/impl.stepForms", laid_loop_example_g01155_impl_stepForms)], narrowed := true }
def FnExactStartEngineUptoSaid : Prop := fnExactStartEngineUptoRow.holds Tryd.pinned (OpenSpec.upto fnExactStartEngineSpec)

/-- 'laws.FnExactTidyPlan', WHERE WHAT IT READS IS OF BULK AT MOST 1048576: true; the input reads as it did. -/
def fnExactTidyPlanUptoRow : OpenClaim := { program := "ytdleofaikjkndaadoor", sum := "90bb7dfb6ab5b8e1e8f6dc074fc89bed7e8fab1834f9ddca73bcfd454e06de23", func := "loop.example/g01155/laws.FnExactTidyPlan", spec := "fnExactTidyPlan", unfollowed := true, recurses := true, named := ["loop.example/g01155/impl.stepForms"], apart := false, laid := [("loop.example/g01155/impl.stepForms", laid_loop_example_g01155_impl_stepForms)], narrowed := true }
def FnExactTidyPlanUptoSaid : Prop := fnExactTidyPlanUptoRow.holds Tryd.pinned (OpenSpec.upto fnExactTidyPlanSpec)

end Rows
end Go.Proofs.YtdleofaikjkndaaDoor
