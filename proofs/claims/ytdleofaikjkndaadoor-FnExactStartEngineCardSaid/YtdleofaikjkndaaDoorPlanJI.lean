/- The program's JoinPlans. -/
import Derived.Test.YtdleofaikjkndaaDoorPlanCc
namespace Go.Proofs.YtdleofaikjkndaaDoor
open Go.RowKit Go.Proofs.YtdleofaikjkndaaDoorW.PrintWords Go.Proofs.YtdleofaikjkndaaDoor.PFnExactJoinPlans

def joinSteps (P Q : List S53) : List S53 := if vPlan P && vPlan Q && decide (P.length + Q.length ≤ 8) then P ++ Q else []
def joinCode (P Q : List S53) : Int := if vPlan P && vPlan Q then (if P.length + Q.length ≤ 8 then 0 else 3) else 1
def JoinPost (P Q : List S53) (w : World) (e : Ending) (w' : World) : Prop :=
  ∃ v : Value, e = .returned (.tuple #[.agg #[v], .int .i64 (joinCode P Q)]) ∧ Kd.S k53 53 w' w.heap.size (fun _ => True) v (joinSteps P Q) ∧ Below w.heap.size w w'
theorem JoinPost.bad {P Q : List S53} {w w' : World} {e : Ending} (h : vPlan P = false ∨ vPlan Q = false) (he : e = .returned (.tuple #[.agg #[.slice none 0 0], .int .i64 1])) (hb : Below w.heap.size w w') : JoinPost P Q w e w' := by
  have h1 : (vPlan P && vPlan Q) = false := by rcases h with h | h <;> simp [h]
  refine ⟨.slice none 0 0, ?_, ?_, hb⟩
  · rw [he]; simp [joinCode, h1]
  · unfold joinSteps; rw [h1]; exact Kd.S_nil _ _ _ _ _
theorem JoinPost.long {P Q : List S53} {w w' : World} {e : Ending} (hp : vPlan P = true) (hq : vPlan Q = true) (h : ¬ (P.length + Q.length ≤ 8)) (he : e = .returned (.tuple #[.agg #[.slice none 0 0], .int .i64 3])) (hb : Below w.heap.size w w') : JoinPost P Q w e w' := by
  refine ⟨.slice none 0 0, ?_, ?_, hb⟩
  · rw [he]; simp [joinCode, hp, hq, h]
  · unfold joinSteps; rw [hp, hq]; simp [h]; exact Kd.S_nil _ _ _ _ _
theorem JoinPost.good {P Q : List S53} {w w' : World} {e : Ending} {v : Value} (hp : vPlan P = true) (hq : vPlan Q = true) (h : P.length + Q.length ≤ 8) (he : e = .returned (.tuple #[.agg #[v], .int .i64 0])) (ho : Kd.S k53 53 w' w.heap.size (fun _ => True) v (P ++ Q)) (hb : Below w.heap.size w w') : JoinPost P Q w e w' := by
  refine ⟨v, ?_, ?_, hb⟩
  · rw [he]; simp [joinCode, hp, hq, h]
  · unfold joinSteps; rw [hp, hq]; simp [h]; exact ho

theorem valid_taps {P : List S53} (h : vPlan P = true) : ∀ s ∈ P, s.f3.length ≤ 1048576 := by
  intro s hs
  simp only [vPlan, Bool.and_eq_true, decide_eq_true_eq, List.all_eq_true] at h
  have h2 := h.2 s hs
  by_cases hk : s.f0 = 3
  · simp only [vStep, vStep4, vNums, Bool.and_eq_true] at h2
    have h3 := h2.2
    rw [hk] at h3
    simp [inB] at h3
    omega
  · simp only [vStep, vStep4, Bool.and_eq_true, formT, Bool.or_eq_true, decide_eq_true_eq] at h2
    have := h2.1.2
    omega

/-- Two rows made one behind the other, then a block that holds both. -/
theorem rows_two {W w1 w2 : World} {base : Nat} {v1 v2 : Value} {P Q : List S53} (hbase : base ≤ W.heap.size) (h1 : Kd.S k53 53 w1 W.heap.size (fun _ => True) v1 P) (hb1 : Below W.heap.size W w1) (h2 : Kd.S k53 53 w2 w1.heap.size (fun _ => True) v2 Q) (hb2 : Below w1.heap.size w1 w2) (t : TypeId) :
    ∃ A1 c1 A2 c2 ok1 ok2, v1 = .slice A1 P.length c1 ∧ v2 = .slice A2 Q.length c2 ∧
      RowsAt (w2.alloc (.cells #[v1, v2] t)) w2.heap.size base [⟨A1, c1, P, ok1⟩, ⟨A2, c2, Q, ok2⟩] ∧ RowsAt (w2.alloc (.cells #[v2, v1] t)) w2.heap.size base [⟨A2, c2, Q, ok2⟩, ⟨A1, c1, P, ok1⟩] := by
  obtain ⟨A1, c1, rfl, _, s1⟩ := SR_of_S h1
  obtain ⟨A2, c2, rfl, _, s2⟩ := SR_of_S h2
  have k1 : ∀ o : Obj, SR k53 (w2.alloc o) base (fun q => q < w1.heap.size) A1 P.length P := fun o => SR_below (SR_below (SR_lower (SR_mono (SR_bound s1) (fun q hq => hq.2.2.1)) hbase) hb2) (below_alloc (Below.refl _ _) o)
  have k2 : ∀ o : Obj, SR k53 (w2.alloc o) base (fun q => w1.heap.size ≤ q) A2 Q.length Q := fun o => SR_below (SR_lower (SR_mono (SR_bound s2) (fun q hq => hq.2.1)) (Nat.le_trans hbase hb1.size)) (below_alloc (Below.refl _ _) o)
  refine ⟨A1, c1, A2, c2, fun q => q < w1.heap.size, fun q => w1.heap.size ≤ q, rfl, rfl, ⟨fun j r hr => ?_, fun j r hr => ?_, fun i j r q k hi hj h3 h4 => ?_⟩, ⟨fun j r hr => ?_, fun j r hr => ?_, fun i j r q k hi hj h3 h4 => ?_⟩⟩
  · match j, hr with
    | 0, hr => cases hr; simp
    | 1, hr => cases hr; simp
  · match j, hr with
    | 0, hr => cases hr; exact k1 _
    | 1, hr => cases hr; exact k2 _
  · match i, j, hi, hj with
    | 0, 0, _, _ => rfl
    | 1, 1, _, _ => rfl
    | 0, 1, hi, hj => cases hi; cases hj; simp only at h3 h4; omega
    | 1, 0, hi, hj => cases hi; cases hj; simp only at h3 h4; omega
  · match j, hr with
    | 0, hr => cases hr; simp
    | 1, hr => cases hr; simp
  · match j, hr with
    | 0, hr => cases hr; exact k2 _
    | 1, hr => cases hr; exact k1 _
  · match i, j, hi, hj with
    | 0, 0, _, _ => rfl
    | 1, 1, _, _ => rfl
    | 0, 1, hi, hj => cases hi; cases hj; simp only at h3 h4; omega
    | 1, 0, hi, hj => cases hi; cases hj; simp only at h3 h4; omega
end Go.Proofs.YtdleofaikjkndaaDoor
