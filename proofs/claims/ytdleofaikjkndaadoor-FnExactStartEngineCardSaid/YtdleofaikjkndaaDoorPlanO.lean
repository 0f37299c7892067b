/- What comes in, opened: plans as rows that are read; the table of the steps' forms. -/
import Derived.Test.YtdleofaikjkndaaDoorPlanVP
import Derived.Test.YtdleofaikjkndaaDoorRows
import Derived.ProofKit
import Derived.LaidMore
import Derived.LaidSub
import Derived.OpenShut
import Derived.Deep.Slices
import Derived.Deep.Fields
import Derived.ChangeSame
import Derived.Stop.Joined
namespace Go.Proofs.YtdleofaikjkndaaDoor
open Go.RowKit Go.WideShapes Go.ChangeShapes Go.Deep Go.Proofs.YtdleofaikjkndaaDoorW.PrintWords Go.Proofs.YtdleofaikjkndaaDoor.PFnExactJoinPlans

section
variable {H : Type} {enc : TypeId × Value → H} {P : Program} {w : World} {base : Nat} {spare : Nat → Bool} {held : Bool}
theorem trod_four {t : TypeId} {f0 f1 f2 f3 : Field} {fuel : Nat} {cs : List Value} {x : DataW H × List MemPlace} (hs : P.underlying t = some (.struct #[f0, f1, f2, f3])) (hone : oneCellFields P #[f0, f1, f2, f3] = true) (hC : P.cellsOf t = 4) (h : DataW.trod enc P w base spare held fuel t cs = some x) :
    ∃ (v0 v1 v2 v3 : Value) (y0 y1 y2 y3 : DataW H × List MemPlace) (n : Nat), cs = [v0, v1, v2, v3] ∧ x.1 = .agg [y0.1, y1.1, y2.1, y3.1] ∧
      DataW.trod enc P w base spare held n f0.type [v0] = some y0 ∧ DataW.trod enc P w base spare held n f1.type [v1] = some y1 ∧ DataW.trod enc P w base spare held n f2.type [v2] = some y2 ∧ DataW.trod enc P w base spare held n f3.type [v3] = some y3 := by
  obtain ⟨xs, n, _, hx, hl, hlen, hg⟩ := DataW.trod_struct hs h
  obtain ⟨o0, k0⟩ := hone_of hone 0 f0 rfl
  obtain ⟨o1, k1⟩ := hone_of hone 1 f1 rfl
  obtain ⟨o2, k2⟩ := hone_of hone 2 f2 rfl
  obtain ⟨o3, k3⟩ := hone_of hone 3 f3 rfl
  match xs, hlen, cs, hl.trans hC with
  | [y0, y1, y2, y3], _, [c0, c1, c2, c3], _ =>
    exact ⟨c0, c1, c2, c3, y0, y1, y2, y3, n, rfl, by rw [hx]; rfl, by simpa [o0, k0] using hg 0 f0 rfl, by simpa [o1, k1] using hg 1 f1 rfl, by simpa [o2, k2] using hg 2 f2 rfl, by simpa [o3, k3] using hg 3 f3 rfl⟩
theorem trod_one {t : TypeId} {f0 : Field} {fuel : Nat} {cs : List Value} {x : DataW H × List MemPlace} (hs : P.underlying t = some (.struct #[f0])) (hone : oneCellFields P #[f0] = true) (hC : P.cellsOf t = 1) (h : DataW.trod enc P w base spare held fuel t cs = some x) :
    ∃ (v0 : Value) (y0 : DataW H × List MemPlace) (n : Nat), cs = [v0] ∧ DataW.trod enc P w base spare held n f0.type [v0] = some y0 := by
  obtain ⟨xs, n, _, hx, hl, hlen, hg⟩ := DataW.trod_struct hs h
  obtain ⟨o0, k0⟩ := hone_of hone 0 f0 rfl
  match xs, hlen, cs, hl.trans hC with
  | [y0], _, [c0], _ => exact ⟨c0, y0, n, rfl, by simpa [o0, k0] using hg 0 f0 rfl⟩
end

theorem list_of {α : Type} {G : Nat → α → Prop} : ∀ {n : Nat}, (∀ i, i < n → ∃ s, G i s) → ∃ L : List α, L.length = n ∧ ∀ (i : Nat) s, L[i]? = some s → G i s
  | 0, _ => ⟨[], rfl, fun i s h => by simp at h⟩
  | n + 1, h => by
    obtain ⟨L, hl, hL⟩ := list_of (n := n) (fun i hi => h i (by omega))
    obtain ⟨s, hs⟩ := h n (by omega)
    refine ⟨L ++ [s], by simp [hl], fun i x hx => ?_⟩
    rcases Nat.lt_or_ge i n with hlt | hge
    · rw [List.getElem?_append_left (by omega)] at hx
      exact hL i x hx
    · rw [List.getElem?_append_right (by omega)] at hx
      have hi : i - L.length = 0 := by
        rcases Nat.eq_zero_or_pos (i - L.length) with h0 | h0
        · exact h0
        · rw [List.getElem?_eq_none (by simp; omega)] at hx
          cases hx
      rw [hi] at hx
      simp only [List.getElem?_cons_zero, Option.some.injEq] at hx
      subst hx
      have : i = n := by omega
      rw [this]
      exact hs

theorem cellsInt64 : Tryd.prog.cellsOf 2 = 1 := by kernel_rfl
theorem cellsLawStep : Tryd.prog.cellsOf 63 = 4 := by kernel_rfl
theorem cellsLawPlan : Tryd.prog.cellsOf 24 = 1 := by kernel_rfl
theorem cellsForm : Tryd.prog.cellsOf 93 = 4 := by kernel_rfl

section
variable {H : Type} {enc : TypeId × Value → H} {w : World} {base : Nat} {spare : Nat → Bool} {held : Bool}
theorem open_ints_C {fuel : Nat} {cs : List Value} {x : DataW H × List MemPlace} (h : DataW.trod enc Tryd.prog w base spare held fuel 51 cs = some x) :
    ∃ A c l, cs = [.slice A l.length c] ∧ l.length ≤ c ∧ Kd.C (Kd.int .i64) w A l.length l := by
  rcases open_slice Tryd.underlying51 h with ⟨rfl, _⟩ | ⟨a, len, cap, m, n, D, Pl, rfl, _, hl, hm, hmm, _, hi⟩
  · exact ⟨none, 0, [], rfl, by simp, Kd.C_nil _ _⟩
  · have hle : len ≤ m := by rw [hmm]; split <;> omega
    obtain ⟨l, hll, hL⟩ := list_of (n := len) (G := fun i z => w.cell? (a.add i) = some (.int .i64 z)) (fun i hlt => by
      obtain ⟨cs', hc, ht⟩ := hi i (by omega)
      rw [cellsInt64] at hc
      obtain ⟨k, e1, _⟩ := DataW.trod_int Tryd.underlying2 ht
      obtain ⟨_, _, hat⟩ := World.cells?_some hc
      have h0 := hat 0 (by omega)
      rw [e1] at h0
      refine ⟨k, ?_⟩
      rw [Go.Deep.add_add] at h0
      simpa using h0)
    refine ⟨some a, cap, l, by rw [hll], by omega, Kd.C_of_reads (d := (0 : Int)) ⟨rfl, by unfold maxLen at hm; omega, fun _ => ⟨a, rfl, fun j hj => ?_⟩⟩⟩
    have hj' : l[j]? = some l[j] := List.getElem?_eq_getElem hj
    rw [hL j _ hj']
    simp [List.getD_eq_getElem?_getD, hj']
theorem open_steps_C {fuel : Nat} {cs : List Value} {x : DataW H × List MemPlace} (h : DataW.trod enc Tryd.prog w base spare held fuel 22 cs = some x) :
    ∃ A c l, cs = [.slice A l.length c] ∧ l.length ≤ c ∧ Kd.C k63 w A l.length l := by
  rcases open_slice Tryd.underlying22 h with ⟨rfl, _⟩ | ⟨a, len, cap, m, n, D, Pl, rfl, _, hl, hm, hmm, _, hi⟩
  · exact ⟨none, 0, [], rfl, by simp, Kd.C_nil _ _⟩
  · have hle : len ≤ m := by rw [hmm]; split <;> omega
    obtain ⟨l, hll, hL⟩ := list_of (n := len) (G := fun i (s : S63) => ∃ c, c.length = 4 ∧ k63.K w s c ∧ ∀ j u, c[j]? = some u → w.cell? (a.add (i * 4 + j)) = some u) (fun i hlt => by
      obtain ⟨cs', hc, ht⟩ := hi i (by omega)
      rw [cellsLawStep] at hc
      obtain ⟨v0, v1, v2, v3, y0, y1, y2, y3, n', rfl, _, h0, h1, h2, h3⟩ := trod_four Tryd.underlying63 (by kernel_rfl) cellsLawStep ht
      obtain ⟨k0, e0, _⟩ := DataW.trod_int Tryd.underlying2 h0
      obtain ⟨k1, e1, _⟩ := DataW.trod_int Tryd.underlying2 h1
      obtain ⟨k2, e2, _⟩ := DataW.trod_int Tryd.underlying2 h2
      obtain ⟨A3, c3, l3, e3, hl3, hC3⟩ := open_ints_C h3
      simp only [List.cons.injEq, and_true] at e0 e1 e2 e3
      subst e0 e1 e2 e3
      obtain ⟨_, _, hat⟩ := World.cells?_some hc
      refine ⟨⟨k0, k1, k2, l3⟩, [.int .i64 k0, .int .i64 k1, .int .i64 k2, .slice A3 l3.length c3], rfl, k63_mk w ⟨k0, k1, k2, l3⟩ hl3 hC3, fun j u hu => ?_⟩
      have hj : j < 4 := (List.getElem?_eq_some_iff.1 hu).1
      rw [← Go.Deep.add_add, hat j hj, hu])
    refine ⟨some a, cap, l, by rw [hll], by omega, rfl, by unfold maxLen at hm; omega, fun _ => ⟨a, rfl, fun j p hj => ?_⟩⟩
    obtain ⟨c, h1, h2, h3⟩ := hL j p hj
    exact ⟨c, h1, h2, h3⟩
set_option maxRecDepth 100000 in
theorem open_plan_C {r : Reach} {b0 : Nat} {v : Value} {d : DataW H} {p : List MemPlace} (hv : Value.okWide Tryd.prog w r b0 24 v) (h : DataW.Trod enc Tryd.prog w base spare held 24 v d p) :
    ∃ A c l, v = .agg #[.slice A l.length c] ∧ l.length ≤ c ∧ Kd.C k63 w A l.length l := by
  obtain ⟨cs, rfl, hsz⟩ := okWide_struct Tryd.underlying24 hv
  obtain ⟨fuel, hf⟩ := h
  obtain ⟨v0, y0, n, he, h0⟩ := trod_one Tryd.underlying24 (by kernel_rfl) cellsLawPlan hf
  obtain ⟨A, c, l, e1, h1, h2⟩ := open_steps_C h0
  simp only [List.cons.injEq, and_true] at e1
  subst e1
  have hcs : cs.toList = [.slice A l.length c] := by simpa [Value.cells] using he
  exact ⟨A, c, l, by rw [Array.eq_one_of_toList hcs], h1, h2⟩
end

/-! The table of forms. -/
def formRows : List (List UInt8 × Bool × Bool × Bool) := [([], false, false, false), ([103, 97, 105, 110], true, true, false), ([100, 101, 108, 97, 121], true, false, false), ([102, 105, 108, 116, 101, 114], false, false, true), ([116, 117, 114, 110], true, true, false), ([107, 101, 101, 112], true, false, false), ([115, 116, 117, 102, 102], true, false, false), ([98, 108, 111, 99, 107], true, false, false), ([98, 97, 99, 107], true, false, false), ([102, 108, 105, 112], true, false, false), ([115, 117, 109], true, false, false), ([110, 97, 114, 114, 111, 119], false, false, false), ([109, 105, 114, 114, 111, 114], false, false, false), ([115, 113, 117, 97, 114, 101], false, false, false)]
set_option maxRecDepth 100000 in
theorem stepForms_data {H : Type} : (Rows.laid_loop_example_g01155_impl_stepForms : DataW H) = .slice (formRows.map fun r => .agg [.lit (.string r.1), .lit (.bool r.2.1), .lit (.bool r.2.2.1), .lit (.bool r.2.2.2)]) [] := rfl
theorem gStepForms : Tryd.prog.globalNamed "loop.example/g01155/impl.stepForms" = some 0 := by kernel_rfl
theorem tStepForms : (Tryd.prog.globals[0]?).map (·.type) = some 94 := by kernel_rfl

set_option maxRecDepth 100000 in
theorem formTab_of_trod {W : World} {cs0 : Array Value} {f0 : Nat} {p0 : List MemPlace} (hv0 : W.var? Tryd.prog "loop.example/g01155/impl.stepForms" = some cs0)
    (hd0 : DataW.trod (H := Unit) (fun _ => ()) Tryd.prog W 0 (fun _ => true) false f0 94 cs0.toList = some (Rows.laid_loop_example_g01155_impl_stepForms, p0)) : ∃ tb toff, FormTab W tb toff := by
  rcases open_slice Tryd.underlying94 hd0 with ⟨_, hx⟩ | ⟨a, len, cap, m, n, D, Pl, hcs, _, hl, _, hm, hx, hi⟩
  · rw [stepForms_data] at hx
    simp at hx
  · rw [stepForms_data] at hx
    simp only [Prod.mk.injEq, DataW.slice.injEq] at hx
    obtain ⟨⟨hx1, hx2⟩, _⟩ := hx
    have hlen : len = 14 := by
      have := congrArg List.length hx1
      simpa [formRows] using this.symm
    have hcap : cap = 14 := by
      have := congrArg List.length hx2
      simp [hm] at this
      omega
    subst hlen hcap
    simp only [if_true] at hm
    subst hm
    have row : ∀ i, i < 14 → ∃ r, formRows[i]? = some r ∧ W.cell? (a.add (i * 4)) = some (.string ⟨r.1.toArray⟩) ∧ W.cell? (a.add (i * 4 + 1)) = some (.bool r.2.1) ∧ W.cell? (a.add (i * 4 + 2)) = some (.bool r.2.2.1) ∧ W.cell? (a.add (i * 4 + 3)) = some (.bool r.2.2.2) := by
      intro i hlt
      obtain ⟨cs', hc, ht⟩ := hi i hlt
      rw [cellsForm] at hc
      obtain ⟨v0, v1, v2, v3, y0, y1, y2, y3, n', rfl, hd, h0, h1, h2, h3⟩ := trod_four Tryd.underlying93 (by kernel_rfl) cellsForm ht
      obtain ⟨s, e0, e0', _⟩ := DataW.trod_string Tryd.underlying9 h0
      obtain ⟨b1, e1, e1'⟩ := DataW.trod_bool Tryd.underlying4 h1
      obtain ⟨b2, e2, e2'⟩ := DataW.trod_bool Tryd.underlying4 h2
      obtain ⟨b3, e3, e3'⟩ := DataW.trod_bool Tryd.underlying4 h3
      simp only [List.cons.injEq, and_true] at e0 e1 e2 e3
      subst e0 e1 e2 e3 e0' e1' e2' e3'
      obtain ⟨r, hr⟩ : ∃ r, formRows[i]? = some r := ⟨_, List.getElem?_eq_getElem (by simpa [formRows] using hlt)⟩
      have hg := congrArg (fun l => l[i]?) hx1
      simp only [List.getElem?_map, hr, List.getElem?_range hlt, Option.map_some, Option.some.injEq] at hg
      rw [show D i = _ from hd] at hg
      simp only [DataW.agg.injEq, List.cons.injEq, DataW.lit.injEq, Lit.string.injEq, Lit.bool.injEq, and_true] at hg
      obtain ⟨_, _, hat⟩ := World.cells?_some hc
      have a0 := hat 0 (by omega)
      have a1 := hat 1 (by omega)
      have a2 := hat 2 (by omega)
      have a3 := hat 3 (by omega)
      rw [Go.Deep.add_add] at a0 a1 a2 a3
      refine ⟨r, hr, ?_, ?_, ?_, ?_⟩
      · simpa [hg.1] using a0
      · simpa [hg.2.1] using a1
      · simpa [hg.2.2.1] using a2
      · simpa [hg.2.2.2] using a3
    obtain ⟨r0, _, c0, _⟩ := row 0 (by omega)
    obtain ⟨b, off, spot⟩ := a
    have hspot : spot = none := by simpa [Addr.add] using World.cell?_spot c0
    subst hspot
    have hcell : W.cell? ⟨0, 0, none⟩ = some (.slice (some ⟨b, off, none⟩) 14 14) := by
      have := World.var?_cell gStepForms hv0 0
      rw [Array.eq_one_of_toList hcs] at this
      simpa using this
    refine ⟨b, off, hcell, fun k hk => ?_⟩
    obtain ⟨r, hr, k0, k1, k2, k3⟩ := row k (by omega)
    have ea : ∀ j, (⟨b, off, none⟩ : Addr).add j = ⟨b, off + j, none⟩ := fun j => by simp [Addr.add]
    rw [ea] at k0 k1 k2 k3
    have hform : formN k = r.2.1 ∧ formK k = r.2.2.1 ∧ formT k = r.2.2.2 := by
      have : k = 0 ∨ k = 1 ∨ k = 2 ∨ k = 3 ∨ k = 4 ∨ k = 5 ∨ k = 6 ∨ k = 7 ∨ k = 8 ∨ k = 9 ∨ k = 10 ∨ k = 11 ∨ k = 12 ∨ k = 13 := by omega
      rcases this with rfl | rfl | rfl | rfl | rfl | rfl | rfl | rfl | rfl | rfl | rfl | rfl | rfl | rfl <;> cases hr <;> exact ⟨rfl, rfl, rfl⟩
    rw [hform.1, hform.2.1, hform.2.2]
    exact ⟨_, k0, k1, k2, k3⟩

set_option maxRecDepth 100000 in
theorem formTab_of_laid {W : World} {l : List (String × DataW Unit)} (hl : (l.filter fun x => x.1 == "loop.example/g01155/impl.stepForms") = [("loop.example/g01155/impl.stepForms", Rows.laid_loop_example_g01155_impl_stepForms)]) (h : laidMetH Tryd.prog l W) : ∃ tb toff, FormTab W tb toff := by
  have h := h.filter fun x => x.1 == "loop.example/g01155/impl.stepForms"
  rw [hl, MakeChecks.laidMetH_plain _ _ _ (by kernel_rfl)] at h
  obtain ⟨ps, ⟨g0, t0, cs0, f0, p0, q0, hg0, ht0, hv0, hd0, _, _⟩, _, _⟩ := h
  obtain rfl := Option.some.inj (gStepForms.symm.trans hg0)
  obtain rfl := Option.some.inj (tStepForms.symm.trans ht0)
  exact formTab_of_trod hv0 hd0
end Go.Proofs.YtdleofaikjkndaaDoor
