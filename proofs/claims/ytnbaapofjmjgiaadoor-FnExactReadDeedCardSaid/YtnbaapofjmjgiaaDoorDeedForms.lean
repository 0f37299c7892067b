/- The table of the deeds' forms, read out of the row's condition: where it lies and what its cells hold. -/
import Derived.Test.YtnbaapofjmjgiaaDoorRows
import Derived.Test.YtnbaapofjmjgiaaDoorBase
import Derived.ProofKit
import Derived.LaidMore
import Derived.LaidSub
import Derived.OpenShut
import Derived.Deep.SlicePairs
import Derived.Stop.Joined
namespace Go.Proofs.YtnbaapofjmjgiaaDoor
open Go.RowKit Go.WideShapes Go.ChangeShapes Go.Deep

def deedRows : List (List UInt8 × Int) := [([], 0), ([115, 101, 110, 100], 3), ([112, 97, 115, 115], 3), ([100, 101, 108, 105, 118, 101, 114], 1), ([99, 111, 112, 121], 1), ([100, 114, 111, 112], 1), ([115, 112, 111, 105, 108], 2), ([115, 121, 110, 99], 1), ([99, 114, 97, 115, 104], 1)]

theorem deedForms_data {H : Type} : (Rows.laid_loop_example_g01155_impl_deedForms : DataW H) = .slice (deedRows.map fun r => .agg [.lit (.string r.1), .lit (.int .i64 r.2)]) [] := rfl

theorem gDeedForms : Tryd.prog.globalNamed "loop.example/g01155/impl.deedForms" = some 0 := by kernel_rfl
theorem tDeedForms : (Tryd.prog.globals[0]?).map (·.type) = some 37 := by kernel_rfl
theorem cDeedForm : Tryd.prog.cellsOf 39 = 2 := by kernel_rfl
theorem cString : Tryd.prog.cellsOf 9 = 1 := by kernel_rfl
theorem cInt : Tryd.prog.cellsOf 3 = 1 := by kernel_rfl

/-- Where the table lies, and what it holds. -/
structure DeedTab (w : World) (tb toff : Nat) : Prop where
  head : w.cell? ⟨0, 0, none⟩ = some (.slice (some ⟨tb, toff, none⟩) 9 9)
  h0 : 0 < w.heap.size
  hb : tb < w.heap.size
  cells : ∀ i r, deedRows[i]? = some r → w.cell? ⟨tb, toff + i * 2, none⟩ = some (.string ⟨r.1.toArray⟩) ∧ w.cell? ⟨tb, toff + i * 2 + 1, none⟩ = some (.int .i64 r.2)

theorem deedTab_of_trod {W : World} {cs0 : Array Value} {f0 : Nat} {p0 : List MemPlace} (hv0 : W.var? Tryd.prog "loop.example/g01155/impl.deedForms" = some cs0)
    (hd0 : DataW.trod (H := Unit) (fun _ => ()) Tryd.prog W 0 (fun _ => true) false f0 37 cs0.toList = some (Rows.laid_loop_example_g01155_impl_deedForms, p0)) : ∃ tb toff, DeedTab W tb toff := by
  rcases open_slice_pairs Tryd.underlying37 Tryd.underlying39 cDeedForm rfl rfl cString cInt hd0 with ⟨_, hx⟩ | ⟨a, len, cap, m, n, V0, V1, D0, D1, P0, P1, hcs, _, hl, _, hm, hx, hi⟩
  · rw [deedForms_data] at hx
    simp at hx
  · rw [deedForms_data] at hx
    simp only [Prod.mk.injEq, DataW.slice.injEq] at hx
    obtain ⟨⟨hx1, hx2⟩, _⟩ := hx
    have hlen : len = 9 := by
      have := congrArg List.length hx1
      simpa [deedRows] using this.symm
    have hcap : cap = 9 := by
      have := congrArg List.length hx2
      simp [hm] at this
      omega
    subst hlen hcap
    simp only [if_true] at hm
    subst hm
    obtain ⟨b, off, spot⟩ := a
    have h0c := (hi 0 (by omega)).1
    have hspot : spot = none := by simpa [Addr.add] using World.cell?_spot h0c
    subst hspot
    have hcell : W.cell? ⟨0, 0, none⟩ = some (.slice (some ⟨b, off, none⟩) 9 9) := by
      have := World.var?_cell gDeedForms hv0 0
      rw [Array.eq_one_of_toList hcs] at this
      simpa using this
    refine ⟨b, off, hcell, lt_of_cell hcell, lt_of_cell h0c, fun i r hr => ?_⟩
    have hlt : i < 9 := by
      have := (List.getElem?_eq_some_iff.1 hr).1
      simpa [deedRows] using this
    obtain ⟨c0, c1, t0, t1⟩ := hi i hlt
    rw [add_plain] at c0 c1
    obtain ⟨s, e1, e2, _⟩ := DataW.trod_string Tryd.underlying9 t0
    obtain ⟨k, e3, e4, _⟩ := DataW.trod_int Tryd.underlying3 t1
    simp only [List.cons.injEq, and_true, Prod.mk.injEq] at e1 e2 e3 e4
    have hg := congrArg (fun l => l[i]?) hx1
    simp only [List.getElem?_map, hr, List.getElem?_range hlt, Option.map_some, Option.some.injEq, DataW.agg.injEq, List.cons.injEq, and_true] at hg
    rw [e2.1, e4.1] at hg
    simp only [DataW.lit.injEq, Lit.string.injEq, Lit.int.injEq, true_and] at hg
    refine ⟨?_, ?_⟩
    · rw [c0, e1, hg.1]
    · have h1 : off + (i * 2 + 1) = off + i * 2 + 1 := by omega
      rw [h1] at c1
      rw [c1, e3, hg.2]

theorem deedTab_of_laid {W : World} {l : List (String × DataW Unit)} (hl : (l.filter fun x => x.1 == "loop.example/g01155/impl.deedForms") = [("loop.example/g01155/impl.deedForms", Rows.laid_loop_example_g01155_impl_deedForms)]) (h : laidMetH Tryd.prog l W) : ∃ tb toff, DeedTab W tb toff := by
  have h := h.filter fun x => x.1 == "loop.example/g01155/impl.deedForms"
  rw [hl, MakeChecks.laidMetH_plain _ _ _ (by kernel_rfl)] at h
  obtain ⟨ps, ⟨g0, t0, cs0, f0, p0, q0, hg0, ht0, hv0, hd0, _, _⟩, _, _⟩ := h
  obtain rfl := Option.some.inj (gDeedForms.symm.trans hg0)
  obtain rfl := Option.some.inj (tDeedForms.symm.trans ht0)
  exact deedTab_of_trod hv0 hd0

end Go.Proofs.YtnbaapofjmjgiaaDoor
