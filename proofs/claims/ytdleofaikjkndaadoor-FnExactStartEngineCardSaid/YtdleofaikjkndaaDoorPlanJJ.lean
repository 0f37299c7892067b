/- The walk of the program's JoinPlans. -/
import Derived.Test.YtdleofaikjkndaaDoorPlanJI
namespace Go.Proofs.YtdleofaikjkndaaDoor
open Go.RowKit Go.Proofs.YtdleofaikjkndaaDoorW.PrintWords Go.Proofs.YtdleofaikjkndaaDoor.PFnExactJoinPlans

theorem three_first (w : World) (x : Value) (t : TypeId) (u v : Value) (t2 : TypeId) : (((w.alloc (.cells #[x] t)).alloc (.cells #[u] t)).alloc (.cells #[v] t2)).cell? ⟨w.heap.size, 0, none⟩ = some x :=
  cell_below (w := w.alloc (.cells #[x] t)) (by simp) (below_alloc (below_alloc (Below.refl _ _) _) _)
theorem three_second (w : World) (x u v : Value) (t : TypeId) : (((w.alloc (.cells #[x] t)).alloc (.cells #[u] t)).alloc (.cells #[v] t)).cell? ⟨w.heap.size + 1, 0, none⟩ = some u := by
  have e : w.heap.size + 1 = (w.alloc (.cells #[x] t)).heap.size := by simp
  rw [e]
  exact cell_below (w := (w.alloc (.cells #[x] t)).alloc (.cells #[u] t)) (by simp) (below_alloc (Below.refl _ _) _)
theorem three_third (w : World) (x u v : Value) (t : TypeId) : (((w.alloc (.cells #[x] t)).alloc (.cells #[u] t)).alloc (.cells #[v] t)).heap[w.heap.size + 2]? = some (.cells #[v] t (0, 0)) := by
  have e : w.heap.size + 2 = ((w.alloc (.cells #[x] t)).alloc (.cells #[u] t)).heap.size := by simp
  rw [e]
  exact blk_new _ _

theorem field_steps (A : Option Addr) (n c : Nat) (W : World) : (Instr.field 28 (.agg #[.slice A n c]) 0).run Tryd.prog W = .ok (.slice A n c) W := by
  kernel_rfl

theorem keep4 {w w1 : World} {a b c : Nat} {x y z : Value} (h1 : w.cell? ⟨a, 0, none⟩ = some x) (h2 : w.cell? ⟨b, 0, none⟩ = some y) (h3 : w.cell? ⟨c, 0, none⟩ = some z) (h4 : w.frozen? ⟨c, 0, none⟩ = false) (hb : Below w.heap.size w w1) :
    w1.cell? ⟨a, 0, none⟩ = some x ∧ w1.cell? ⟨b, 0, none⟩ = some y ∧ (w1.cell? ⟨c, 0, none⟩ = some z ∧ w1.frozen? ⟨c, 0, none⟩ = false) :=
  ⟨cell_below h1 hb, cell_below h2 hb, cell_below h3 hb, (hb.frozen (p := ⟨c, 0, none⟩) (lt_of_cell h3)).trans h4⟩
theorem frozen_alloc {w : World} {c : Nat} {z : Value} {o : Obj} (h3 : w.cell? ⟨c, 0, none⟩ = some z) (h4 : w.frozen? ⟨c, 0, none⟩ = false) : (w.alloc o).frozen? ⟨c, 0, none⟩ = false :=
  ((below_alloc (Below.refl w.heap.size w) o).frozen (p := ⟨c, 0, none⟩) (lt_of_cell h3)).trans h4
/-- What two rows, one behind the other, are put together to. -/
def TwoPost (base : Nat) (S : List S53) (w : World) (e : Ending) (w' : World) : Prop := ∃ v : Value, e = .returned v ∧ Kd.S k53 53 w' base (fun _ => True) v S ∧ Below w.heap.size w w'
theorem concat_pq {W w1 w2 : World} {base : Nat} {A1 A2 : Option Addr} {n1 n2 c1 c2 : Nat} {P Q : List S53} (hl : P.length + Q.length ≤ 1048576) (hbase : base ≤ W.heap.size) (h1 : Kd.S k53 53 w1 W.heap.size (fun _ => True) (.slice A1 n1 c1) P) (hb1 : Below W.heap.size W w1) (h2 : Kd.S k53 53 w2 w1.heap.size (fun _ => True) (.slice A2 n2 c2) Q) (hb2 : Below w1.heap.size w1 w2) :
    Calls Tryd.prog 25 #[.slice (some ⟨w2.heap.size, 0, none⟩) 2 2] (w2.alloc (.cells #[.slice A1 n1 c1, .slice A2 n2 c2] 26)) (TwoPost base (P ++ Q) (w2.alloc (.cells #[.slice A1 n1 c1, .slice A2 n2 c2] 26))) := by
  obtain ⟨B1, d1, B2, d2, o1, o2, e1, e2, hR, _⟩ := rows_two hbase h1 hb1 h2 hb2 26
  have hsz : base ≤ (w2.alloc (.cells #[.slice A1 n1 c1, .slice A2 n2 c2] 26)).heap.size := by have := hb1.size; have := hb2.size; simp; omega
  refine (concat_any w2.heap.size 2 base [⟨B1, d1, P, o1⟩, ⟨B2, d2, Q, o2⟩] _ (by simp) hsz (by simp [lens]; omega) hR).mono ?_
  rintro e w' ⟨v, rfl, ho, hb⟩
  exact ⟨v, rfl, by simpa [cat] using Kd.S_mono ho (fun _ _ => trivial), hb⟩
theorem concat_qp {W w1 w2 : World} {base : Nat} {A1 A2 : Option Addr} {n1 n2 c1 c2 : Nat} {P Q : List S53} (hl : P.length + Q.length ≤ 1048576) (hbase : base ≤ W.heap.size) (h1 : Kd.S k53 53 w1 W.heap.size (fun _ => True) (.slice A1 n1 c1) Q) (hb1 : Below W.heap.size W w1) (h2 : Kd.S k53 53 w2 w1.heap.size (fun _ => True) (.slice A2 n2 c2) P) (hb2 : Below w1.heap.size w1 w2) :
    Calls Tryd.prog 25 #[.slice (some ⟨w2.heap.size, 0, none⟩) 2 2] (w2.alloc (.cells #[.slice A2 n2 c2, .slice A1 n1 c1] 26)) (TwoPost base (P ++ Q) (w2.alloc (.cells #[.slice A2 n2 c2, .slice A1 n1 c1] 26))) := by
  obtain ⟨B1, d1, B2, d2, o1, o2, e1, e2, _, hR⟩ := rows_two hbase h1 hb1 h2 hb2 26
  have hsz : base ≤ (w2.alloc (.cells #[.slice A2 n2 c2, .slice A1 n1 c1] 26)).heap.size := by have := hb1.size; have := hb2.size; simp; omega
  refine (concat_any w2.heap.size 2 base [⟨B2, d2, P, o2⟩, ⟨B1, d1, Q, o1⟩] _ (by simp) hsz (by simp [lens]; omega) hR).mono ?_
  rintro e w' ⟨v, rfl, ho, hb⟩
  exact ⟨v, rfl, by simpa [cat] using Kd.S_mono ho (fun _ _ => trivial), hb⟩

set_option maxRecDepth 100000 in
set_option maxHeartbeats 8000000 in
theorem implJoin_any (tb toff : Nat) (A1 A2 : Option Addr) (c1 c2 : Nat) (P Q : List S53) (w : World) (HT : Hid (FormTab w tb toff)) (hPl : P.length ≤ 1048576) (hQl : Q.length ≤ 1048576) (HP : Hid (Kd.C k53 w A1 P.length P)) (HQ : Hid (Kd.C k53 w A2 Q.length Q)) :
    Calls Tryd.prog 9 #[.agg #[.slice A1 P.length c1], .agg #[.slice A2 Q.length c2]] w (JoinPost P Q w) := by
  have hfield := field_steps
  go_enter Tryd.func9, Tryd.ntmps9
  go_wp2_with fail
  generalize hW : ((w.alloc (.cells #[.slice A1 P.length c1] 28)).alloc (.cells #[.slice A2 Q.length c2] 28)).alloc (.cells #[.slice none 0 0] 28) = W
  have hB0 : Below w.heap.size w W := by rw [← hW]; exact below_alloc (below_alloc (below_alloc (Below.refl _ _) _) _) _
  have b2 : W.cell? ⟨w.heap.size, 0, none⟩ = some (.slice A1 P.length c1) := by rw [← hW]; exact three_first _ _ _ _ _ _
  have b3 : W.cell? ⟨w.heap.size + 1, 0, none⟩ = some (.slice A2 Q.length c2) := by rw [← hW]; exact three_second _ _ _ _ _
  have b4 : W.heap[w.heap.size + 2]? = some (.cells #[.slice none 0 0] 28 (0, 0)) := by rw [← hW]; exact three_third _ _ _ _ _
  have hs : W.heap.size = w.heap.size + 3 := by rw [← hW]; simp
  have HB0 := Lib.hid hB0
  have B2 := Lib.hid b2
  have B3 := Lib.hid b3
  have B4 := Lib.hid b4
  have HS := Lib.hid hs
  clear hW hB0 b3 b4 hs
  cases hvp : vPlan P with
  | false =>
    have HV := Lib.hid hvp
    clear hvp
    refine (validPlan_any tb toff _ _ _ _ (Lib.hid (HT.out.below HB0.out)) (Lib.hid (Kd.C_below HP.out HB0.out))).mono ?_
    rintro e w1 ⟨he, hb⟩
    rw [HV.out] at he
    subst he
    have k4 := blk_below B4.out hb
    have HB := Lib.hid (below_step HB0.out hb)
    clear hb
    have q4 : w1.cell? ⟨w.heap.size + 2, 0, none⟩ = some (.slice none 0 0) := (blk_cell k4 0).trans rfl
    have f4 := blk_frozen k4 0
    go_wp2_with fail
    refine bodyPost_ret (v := .tuple #[.agg #[.slice none 0 0], .int .i64 1]) (by simp [results, Tryd.results9, go_sem, q4]) rfl (JoinPost.bad (.inl HV.out) rfl (below_set HB.out (by omega)))
  | true =>
    have HVP := Lib.hid hvp
    have HTP := Lib.hid (valid_taps hvp)
    clear hvp
    refine (validPlan_any tb toff _ _ _ _ (Lib.hid (HT.out.below HB0.out)) (Lib.hid (Kd.C_below HP.out HB0.out))).mono ?_
    rintro e w1 ⟨he, hb⟩
    rw [HVP.out] at he
    subst he
    have m2 := Lib.hid (cell_below B2.out hb)
    have b3 := cell_below B3.out hb
    have m4 := Lib.hid (blk_below B4.out hb)
    have HB1 := Lib.hid (below_step HB0.out hb)
    clear hb B2 B4 HB0 b2
    have B3' := Lib.hid b3
    cases hvq : vPlan Q with
    | false =>
      have HVQ := Lib.hid hvq
      clear hvq
      go_wp2_with fail
      refine (validPlan_any tb toff _ _ _ _ (Lib.hid (HT.out.below HB1.out)) (Lib.hid (Kd.C_below HQ.out HB1.out))).mono ?_
      rintro e w2 ⟨he, hb⟩
      rw [HVQ.out] at he
      subst he
      have k4 := blk_below m4.out hb
      have HB := Lib.hid (below_step HB1.out hb)
      clear hb b3
      have q4 : w2.cell? ⟨w.heap.size + 2, 0, none⟩ = some (.slice none 0 0) := (blk_cell k4 0).trans rfl
      have f4 := blk_frozen k4 0
      go_wp2_with fail
      refine bodyPost_ret (v := .tuple #[.agg #[.slice none 0 0], .int .i64 1]) (by simp [results, Tryd.results9, go_sem, q4]) rfl (JoinPost.bad (.inr HVQ.out) rfl (below_set HB.out (by omega)))
    | true =>
      have HVQ := Lib.hid hvq
      have HTQ := Lib.hid (valid_taps hvq)
      clear hvq
      go_wp2_with fail
      refine (validPlan_any tb toff _ _ _ _ (Lib.hid (HT.out.below HB1.out)) (Lib.hid (Kd.C_below HQ.out HB1.out))).mono ?_
      rintro e w2 ⟨he, hb⟩
      rw [HVQ.out] at he
      subst he
      have k2 := cell_below m2.out hb
      have k3 := cell_below b3 hb
      have k4 := blk_below m4.out hb
      have hlt4 := blk_lt k4
      have M4 := Lib.hid k4
      have HB := Lib.hid (below_step HB1.out hb)
      clear hb b3 B3 B3' m2 m4 HB1
      by_cases h8 : P.length + Q.length ≤ 8
      · have h8I : ((P.length : Int) + Q.length ≤ 8) := by omega
        have HL8 : Hid (P.length + Q.length ≤ 1048576) := by unfold Hid; omega
        have q4 : w2.cell? ⟨w.heap.size + 1 + 1, 0, none⟩ = some (.slice none 0 0) := (blk_cell k4 0).trans rfl
        have f4 : w2.frozen? ⟨w.heap.size + 1 + 1, 0, none⟩ = false := blk_frozen k4 0
        go_wp2_with fail
        obtain ⟨K2, K3, Q4, F4⟩ : Hid (w2.drew.cell? ⟨w.heap.size, 0, none⟩ = some (.slice A1 P.length c1)) ∧ Hid (w2.drew.cell? ⟨w.heap.size + 1, 0, none⟩ = some (.slice A2 Q.length c2)) ∧ Hid (w2.drew.cell? ⟨w.heap.size + 1 + 1, 0, none⟩ = some (.slice none 0 0)) ∧ Hid (w2.drew.frozen? ⟨w.heap.size + 1 + 1, 0, none⟩ = false) := ⟨k2, k3, q4, f4⟩
        go_region_with (first
          | (go_at_call 26; (with_reducible refine (clone_any A1 c1 P _ hPl HTP ?_).mono ?_); (first | exact Kd.C_below HP.out (below_drew HB.out) | exact Kd.C_below HP.out (below_step (below_drew HB.out) hbq) | fail); rintro e wp ⟨vp, rfl, hop, hbp⟩; obtain ⟨Ap, cp, ep⟩ := Kd.S_slice hop; subst ep; obtain ⟨a2, a3, a4, af⟩ := keep4 (by first | exact K2.out | exact b2) (by first | exact K3.out | exact b3) (by first | exact Q4.out | exact b4) (by first | exact F4.out | exact bf) hbp)
          | (go_at_call 26; (with_reducible refine (clone_any A2 c2 Q _ hQl HTQ ?_).mono ?_); (first | exact Kd.C_below HQ.out (below_drew HB.out) | exact Kd.C_below HQ.out (below_step (below_drew HB.out) hbp) | fail); rintro e wq ⟨vq, rfl, hoq, hbq⟩; obtain ⟨Aq, cq, eq⟩ := Kd.S_slice hoq; subst eq; obtain ⟨b2, b3, b4, bf⟩ := keep4 (by first | exact K2.out | exact a2) (by first | exact K3.out | exact a3) (by first | exact Q4.out | exact a4) (by first | exact F4.out | exact af) hbq)
          | (go_at_call 25; (first | (with_reducible refine (concat_pq (base := w.heap.size) HL8.out (below_drew HB.out).size hop hbp hoq hbq).mono ?_) | (with_reducible refine (concat_qp (base := w.heap.size) HL8.out (below_drew HB.out).size hoq hbq hop hbp).mono ?_) | fail); rintro e wc ⟨vc, rfl, hoc, hbc⟩; obtain ⟨Ac, cc, ec⟩ := Kd.S_slice hoc; subst ec; obtain ⟨d2, d3, d4, df⟩ := keep4 (by first | exact cell_below a2 (below_alloc (Below.refl _ _) _) | exact cell_below b2 (below_alloc (Below.refl _ _) _)) (by first | exact cell_below a3 (below_alloc (Below.refl _ _) _) | exact cell_below b3 (below_alloc (Below.refl _ _) _)) (by first | exact cell_below a4 (below_alloc (Below.refl _ _) _) | exact cell_below b4 (below_alloc (Below.refl _ _) _)) (by first | exact frozen_alloc a4 af | exact frozen_alloc b4 bf) hbc; have HBc := Lib.hid (show Below w.heap.size w wc from (by first | exact below_step (below_alloc (below_step (below_step (below_drew HB.out) hbp) hbq) _) hbc | exact below_step (below_alloc (below_step (below_step (below_drew HB.out) hbq) hbp) _) hbc)); have HK4 := Lib.hid (show wc.heap[w.heap.size + 2]? = some (.cells #[.slice none 0 0] 28 (0, 0)) from (by first | exact blk_below (blk_below (blk_below (blk_below (blk_drew M4.out) hbp) hbq) (below_alloc (Below.refl _ _) _)) hbc | exact blk_below (blk_below (blk_below (blk_below (blk_drew M4.out) hbq) hbp) (below_alloc (Below.refl _ _) _)) hbc)))
          | fail)
        all_goals
          go_wp2_with fail
          refine bodyPost_ret (v := .tuple #[.agg #[.slice Ac (P.length + Q.length) cc], .int .i64 0]) (by simp [results, Tryd.results9, go_sem, d4]) rfl (JoinPost.good HVP.out HVQ.out h8 rfl ?_ (below_set HBc.out (by omega)))
          have h9 := Kd.S_set hoc HK4.out (by decide) 0 (.slice Ac (P.length + Q.length) cc)
          rw [List.length_append] at h9
          exact h9
      · have h8I : ¬ ((P.length : Int) + Q.length ≤ 8) := by omega
        have q4 : w2.cell? ⟨w.heap.size + 2, 0, none⟩ = some (.slice none 0 0) := (blk_cell k4 0).trans rfl
        have f4 := blk_frozen k4 0
        go_wp2_with fail
        refine bodyPost_ret (v := .tuple #[.agg #[.slice none 0 0], .int .i64 3]) (by simp [results, Tryd.results9, go_sem, q4]) rfl (JoinPost.long HVP.out HVQ.out h8 rfl (below_set HB.out (by omega)))
end Go.Proofs.YtdleofaikjkndaaDoor
