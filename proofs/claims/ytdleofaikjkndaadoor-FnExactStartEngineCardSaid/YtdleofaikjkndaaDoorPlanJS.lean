/- The walk of the reference's JoinPlans. -/
import Derived.Test.YtdleofaikjkndaaDoorPlanJJ
import Derived.Test.YtdleofaikjkndaaDoorPlanSP
namespace Go.Proofs.YtdleofaikjkndaaDoor
open Go.RowKit Go.Proofs.YtdleofaikjkndaaDoorW.PrintWords Go.Proofs.YtdleofaikjkndaaDoor.PFnExactJoinPlans

theorem own_pure (l : List Int) (h : l.length ≤ 1048576) : spec_l00Own.f l = some l := by
  unfold spec_l00Own.f
  simp
  omega
theorem ownSteps_pure (S : List S53) (hS : S.length ≤ 1048576) (hT : ∀ s ∈ S, s.f3.length ≤ 1048576) (d : Nat) : ∀ (k i : Nat) (X : List S53), i ≤ S.length → S.length - i = d → d < k → X = S.take i → spec_l07Own.l0 k S X (i : Int) = some S := by
  induction d with
  | zero =>
    intro k i X hi hd hk hX
    obtain ⟨k, rfl⟩ : ∃ m, k = m + 1 := ⟨k - 1, by omega⟩
    obtain rfl : i = S.length := by omega
    simp only [spec_l07Own.l0]
    rw [if_neg (by omega), hX, List.take_length]
  | succ d ih =>
    intro k i X hi hd hk hX
    obtain ⟨k, rfl⟩ : ∃ m, k = m + 1 := ⟨k - 1, by omega⟩
    have hlt : i < S.length := by omega
    have e2 : rd_T53 S (i : Int) = S[i] := by
      unfold rd_T53
      simp [List.getD_eq_getElem?_getD, List.getElem?_eq_getElem hlt]
    simp only [spec_l07Own.l0]
    rw [if_pos (by omega), if_pos (by omega), e2, own_pure _ (hT _ (List.getElem_mem hlt)), Option.bind_some, if_pos (by rw [hX, List.length_take]; omega)]
    have hw : wrap64 ((i : Int) + 1) = ((i + 1 : Nat) : Int) := by unfold wrap64; omega
    rw [hw]
    exact ih k (i + 1) _ (by omega) (by omega) (by omega) (by rw [hX]; exact take_snoc_step S i hlt)

def OwnPost (S : List S53) (w : World) (e : Ending) (w' : World) : Prop := ∃ v : Value, e = .returned v ∧ Kd.S k53 53 w' w.heap.size (fun _ => True) v S ∧ Below w.heap.size w w'
theorem l07Own_any (A : Option Addr) (c : Nat) (S : List S53) (w : World) (hS : S.length ≤ 1048576) (HT : Hid (∀ s ∈ S, s.f3.length ≤ 1048576)) (hc : S.length ≤ c) (HR : Kd.C k53 w A S.length S) :
    Calls Tryd.prog 22 #[.slice A S.length c] w (OwnPost S w) := by
  refine (spec_l07Own.calls (S.length + 1) A c S S w HR hc ?_).mono ?_
  · exact ownSteps_pure S hS HT.out S.length _ 0 _ (by omega) (by omega) (by omega) (by simp)
  · rintro e w' ⟨v, rfl, ho, hb⟩
    exact ⟨v, rfl, ho, hb⟩

section
variable {α : Type} {d : Kd α} {W : World}
/-- The append as a step of a region. -/
theorem step_append_SR {P : Program} {ops : Array Oper} {o : Oper} {a : Act} {K : Act → World → Prop} {Q : Exit → Act → World → Prop} {E : Prop} (d : Kd α) (base : Nat) (hgd : o.guard = none) (s x : Operand) (t e : TypeId) (z : Value) (bytes : Nat)
    (ho : o.op = .call { callee := .builtin .append, args := #[s, x], argTypes := #[t, t] })
    (ht : P.underlying t = some (.slice e)) (hinfo : (P.info? e).map (fun i => (i.zero, i.size, i.bytes)) = some (some z, d.sz, bytes)) (hz : z.cells.size = d.sz) (hs0 : 0 < d.sz) (hb0 : 0 < bytes)
    (v : Value) (xs ys : List α) (A : Option Addr) (m c : Nat) (ok okp : Nat → Prop) (hs : a.eval s = v) (hx : a.eval x = .slice A m c)
    (HO : Kd.S d e W base (fun k => ok k ∧ ¬ okp k) v xs) (HR : SR d W base okp A m ys) (hokp : ∀ k, okp k → ok k ∧ some k ≠ v.ownBlock) (hfresh : ∀ k, W.heap.size ≤ k → ok k)
    (hbase : base ≤ W.heap.size) (hl : (xs.length + m) * bytes ≤ 140737488355328)
    (h : ∀ v1 w1, Kd.S d e w1 base ok v1 (xs ++ ys) → W.grownBy w1 v.ownBlock → (v1.ownBlock = v.ownBlock ∨ ∃ b, v1.ownBlock = some b ∧ W.heap.size ≤ b) → K (a.put o.dst v1) w1) :
    if Region.wanted o (yielded ops a.tmps) = true then Oper.wp P o a W K Q else E := by
  classical
  have hw : Region.wanted o (yielded ops a.tmps) = true := by simp [Region.wanted, hgd]
  rw [if_pos hw]
  obtain ⟨f0, hS⟩ := HO
  obtain ⟨f1, hR1, hR2, hR3⟩ := HR
  rw [List.length_zipIdx] at hR1
  have hstep := Kd.R_append_rows_step (P := P) (Q := Q) (Kc := K) (Kd.tag (fun k => if okp k then xs.length + f1 k else f0 k) d) (Rr := (Kd.tag (fun k => if okp k then xs.length + f1 k else f0 k) d).M W base okp) (w0 := W) base hw s x t e z bytes ho ht hinfo hz hs0 hb0 v xs.zipIdx (ys.zipIdx xs.length) A m c ok okp hs hx
    (Kd.R_mono (Kd.R_tag hS (fun k hk _ => if_neg hk.2)) (fun _ hk => hk.1)) ?_ (fun _ _ hh => hh) hokp hfresh (Below.refl _ _) hbase (by rw [List.length_zipIdx]; exact hl) ?_
  · rwa [if_pos hw] at hstep
  · refine ⟨by rw [List.length_zipIdx]; exact hR1, hR2, fun hn => ?_⟩
    obtain ⟨ad, e1, hc⟩ := hR3 hn
    refine ⟨ad, e1, fun j p hj => ?_⟩
    rw [List.getElem?_zipIdx] at hj
    obtain ⟨q, hq, rfl⟩ := Option.map_eq_some_iff.1 hj
    obtain ⟨cs, k1, k2, k3⟩ := hc j (q, j) (Kd.zip_at hq)
    refine ⟨cs, k1, d.M_mono (fun k hk => ⟨hk.1, ?_⟩) k2, k3⟩
    have : f1 k = j := hk.2
    show (if okp k then xs.length + f1 k else f0 k) = xs.length + j
    rw [if_pos hk.1, this]
  · intro v1 w1 hr _ hg hat
    refine h v1 w1 ⟨(fun k => if okp k then xs.length + f1 k else f0 k), ?_⟩ hg hat
    rw [List.zipIdx_append, Nat.zero_add]
    exact hr
end

/-- Two rows of one's own, made one behind the other: what an append of one to the other asks. -/
def TwoApart (W : World) (base : Nat) (v1 : Value) (P Q : List S53) (A2 : Option Addr) (okp : Nat → Prop) : Prop :=
  Kd.S k53 53 W base (fun q => True ∧ ¬ okp q) v1 P ∧ SR k53 W base okp A2 Q.length Q ∧ (∀ q, okp q → True ∧ some q ≠ v1.ownBlock)
theorem apart_pq {W w1 w2 : World} {base : Nat} {A1 A2 : Option Addr} {n1 c1 c2 : Nat} {P Q : List S53} (hbase : base ≤ W.heap.size) (h1 : Kd.S k53 53 w1 W.heap.size (fun _ => True) (.slice A1 n1 c1) P) (hb1 : Below W.heap.size W w1) (h2 : Kd.S k53 53 w2 w1.heap.size (fun _ => True) (.slice A2 Q.length c2) Q) (hb2 : Below w1.heap.size w1 w2) :
    TwoApart w2 base (.slice A1 n1 c1) P Q A2 (fun q => w1.heap.size ≤ q) := by
  obtain ⟨B2, d2, e2, _, s2⟩ := SR_of_S h2
  injection e2 with e3 e4 e5
  subst e3
  refine ⟨Kd.S_mono (Kd.S_below (Kd.S_lower (Kd.S_bound h1) hbase) hb2) (fun q hq => ⟨trivial, by have := hq.2.2.1; omega⟩), SR_lower (SR_mono (SR_bound s2) (fun q hq => hq.2.1)) (Nat.le_trans hbase hb1.size), fun q hq => ⟨trivial, fun e => ?_⟩⟩
  have := Kd.S_lt h1 q e.symm
  omega
theorem apart_qp {W w1 w2 : World} {base : Nat} {A1 A2 : Option Addr} {n1 c1 c2 : Nat} {P Q : List S53} (hbase : base ≤ W.heap.size) (h2 : Kd.S k53 53 w1 W.heap.size (fun _ => True) (.slice A2 Q.length c2) Q) (hb1 : Below W.heap.size W w1) (h1 : Kd.S k53 53 w2 w1.heap.size (fun _ => True) (.slice A1 n1 c1) P) (hb2 : Below w1.heap.size w1 w2) :
    TwoApart w2 base (.slice A1 n1 c1) P Q A2 (fun q => q < w1.heap.size) := by
  obtain ⟨B2, d2, e2, _, s2⟩ := SR_of_S h2
  injection e2 with e3 e4 e5
  subst e3
  refine ⟨Kd.S_mono (Kd.S_lower (Kd.S_bound h1) (Nat.le_trans hbase hb1.size)) (fun q hq => ⟨trivial, by have := hq.2.1; omega⟩), SR_below (SR_lower (SR_mono (SR_bound s2) (fun q hq => hq.2.2.1)) hbase) hb2, fun q hq => ⟨trivial, fun e => ?_⟩⟩
  have := Kd.S_base h1 q e.symm
  omega
end Go.Proofs.YtdleofaikjkndaaDoor
