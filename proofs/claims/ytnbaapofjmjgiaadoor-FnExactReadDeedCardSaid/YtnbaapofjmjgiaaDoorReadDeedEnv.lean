/- What the row's condition gives the walk of ReadDeed: the tables, the sentinels, a library variable's shape. -/
import Derived.Test.YtnbaapofjmjgiaaDoorReadDeedI
import Derived.Test.YtnbaapofjmjgiaaDoorRows
import Derived.Test.YtnbaapofjmjgiaaDoorPost
import Derived.Test.YtnbaapofjmjgiaaDoorCards
import Derived.Stop.LaidErr
import Derived.Stop.Joined
import Derived.Shelf.Vars
import Derived.SevenTiedAt
import Derived.Lib.SmallJoins
namespace Go.Proofs.YtnbaapofjmjgiaaDoor
open Go Go.RowKit Go.WideShapes Go.ChangeShapes Go.Joins

theorem gPow10 : Tryd.prog.globalNamed "internal/strconv.uint64pow10" = some 6 := by kernel_rfl
theorem tPow10 : (Tryd.prog.globals[6]?).map (·.type) = some 96 := by kernel_rfl

theorem pow10_of_laid {W : World} {l : List (String × DataW Unit)} (hl : (l.filter fun x => x.1 == "internal/strconv.uint64pow10") = [("internal/strconv.uint64pow10", Lib.tabData .u64 Lib.pow10Tab)]) (h : laidMetH Tryd.prog l W) : Lib.TabIs Tryd.prog W "internal/strconv.uint64pow10" .u64 Lib.pow10Tab := by
  have h := h.filter fun x => x.1 == "internal/strconv.uint64pow10"
  rw [hl, MakeChecks.laidMetH_plain _ _ _ (by kernel_rfl)] at h
  exact Lib.tabIs_of_head gPow10 tPow10 Tryd.underlying96 Tryd.underlying64 (by kernel_rfl) (by kernel_rfl) h

theorem gSyntax : Tryd.prog.globalNamed "strconv.ErrSyntax" = some 2 := by kernel_rfl
theorem tSyntax : (Tryd.prog.globals[2]?).map (·.type) = some 47 := by kernel_rfl
theorem gRange : Tryd.prog.globalNamed "strconv.ErrRange" = some 3 := by kernel_rfl
theorem tRange : (Tryd.prog.globals[3]?).map (·.type) = some 47 := by kernel_rfl

/-- A variable of the type error that reads as an interface value holds one. -/
theorem iface_of_laid {W : World} {n nm : String} {d : DataW Unit} {g : Nat} (hg : Tryd.prog.globalNamed n = some g) (ht : (Tryd.prog.globals[g]?).map (·.type) = some 47)
    (h : laidMet Tryd.prog [(n, .iface nm d)] W) : ∃ ev, W.cell? ⟨g, 0, none⟩ = some ev ∧ (ev = .nilIface ∨ ∃ te pe, ev = .iface te pe) := by
  obtain ⟨ps, ⟨g0, t0, cs0, f0, p0, q0, hg0, ht0, hv0, hd0, _, e0⟩, _, _⟩ := h
  obtain rfl := Option.some.inj (hg.symm.trans hg0)
  obtain rfl := Option.some.inj (ht.symm.trans ht0)
  have hcell := World.var?_cell hg hv0 0
  cases f0 with
  | zero => simp [DataW.trod] at hd0
  | succ f0 =>
    unfold DataW.trod at hd0
    rw [Tryd.underlying47] at hd0
    have h0 : cs0[0]? = cs0.toList[0]? := by simp
    rw [h0] at hcell
    generalize cs0.toList = cs at hd0 hcell
    match cs with
    | [] => simp at hd0
    | _ :: _ :: _ => simp at hd0
    | [.nilIface] => exact ⟨_, hcell, .inl rfl⟩
    | [.iface u v] => exact ⟨_, hcell, .inr ⟨u, v, rfl⟩⟩
    | [.bool _] | [.int _ _] | [.float _ _] | [.complex _ _ _] | [.string _] | [.agg _] | [.tuple _] | [.pointer _] | [.slice _ _ _] | [.map _] | [.nilFunc] | [.func _ _ _] | [.chan _] => simp at hd0

theorem env_of {W : World} (hsh : W.ShapedOpen Tryd.prog) (h : laidMetH Tryd.prog Rows.fnExactReadDeedRow.laid W) : ∃ tb toff, RDEnv W tb toff := by
  obtain ⟨tb, toff, hT⟩ := deedTab_of_laid rfl h
  have hS := h.filter fun x => x.1 == "strconv.ErrSyntax"
  have hR := h.filter fun x => x.1 == "strconv.ErrRange"
  rw [show (Rows.fnExactReadDeedRow.laid.filter fun x => x.1 == "strconv.ErrSyntax") = [("strconv.ErrSyntax", Rows.laid_strconv_ErrSyntax)] from rfl, MakeChecks.laidMetH_plain _ _ _ (by kernel_rfl)] at hS
  rw [show (Rows.fnExactReadDeedRow.laid.filter fun x => x.1 == "strconv.ErrRange") = [("strconv.ErrRange", Rows.laid_strconv_ErrRange)] from rfl, MakeChecks.laidMetH_plain _ _ _ (by kernel_rfl)] at hR
  exact ⟨tb, toff, hT, pow10_of_laid rfl h, iface_of_laid gSyntax tSyntax hS, iface_of_laid gRange tRange hR,
    cell_of_shapedOpen_int (zero := #[.int .i64 0]) (t := 3) hsh (of_decide_eq_true (by kernel_rfl)) (by kernel_rfl) rfl (by kernel_rfl) (by kernel_rfl) Tryd.underlying3⟩
end Go.Proofs.YtnbaapofjmjgiaaDoor
