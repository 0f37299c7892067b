/- The walk of the reference's JoinPlans: the plan made of both. -/
import Derived.Test.YtdleofaikjkndaaDoorPlanJS
import Derived.Deep.RegionLaw
import Derived.Test.YtdleofaikjkndaaDoorWLast
namespace Go.Proofs.YtdleofaikjkndaaDoor
open Go.RowKit Go.Proofs.YtdleofaikjkndaaDoorW.PrintWords Go.Proofs.YtdleofaikjkndaaDoorW.PrintLast Go.Proofs.YtdleofaikjkndaaDoor.PFnExactJoinPlans

set_option maxRecDepth 100000 in
set_option maxHeartbeats 8000000 in
theorem specJoin_any (A1 A2 : Option Addr) (c1 c2 : Nat) (P Q : List S53) (w : World) (hP1 : P.length ≤ c1) (hQ1 : Q.length ≤ c2) (hPl : P.length ≤ 1048576) (hQl : Q.length ≤ 1048576) (HP : Hid (Kd.C k53 w A1 P.length P)) (HQ : Hid (Kd.C k53 w A2 Q.length Q)) :
    Calls Tryd.prog 7 #[.agg #[.slice A1 P.length c1], .agg #[.slice A2 Q.length c2]] w (JoinPost P Q w) := by
  go_enter Tryd.func7, Tryd.ntmps7
  go_wp2_with fail
  generalize hW : ((w.alloc (.cells #[.slice A1 P.length c1] 28)).alloc (.cells #[.slice A2 Q.length c2] 28)).alloc (.cells #[.slice none 0 0] 28) = W
  have hB0 : Below w.heap.size w W := by rw [← hW]; exact below_alloc (below_alloc (below_alloc (Below.refl _ _) _) _) _
  have b2 : W.cell? ⟨w.heap.size, 0, none⟩ = some (.slice A1 P.length c1) := by rw [← hW]; exact three_first _ _ _ _ _ _
  have b3 : W.cell? ⟨w.heap.size + 1, 0, none⟩ = some (.slice A2 Q.length c2) := by rw [← hW]; exact three_second _ _ _ _ _
  have b4 : W.heap[w.heap.size + 2]? = some (.cells #[.slice none 0 0] 28 (0, 0)) := by rw [← hW]; exact three_third _ _ _ _ _
  have hs : W.heap.size = w.heap.size + 3 := by rw [← hW]; simp
  have HB0 := Lib.hid hB0
  have B2 := Lib.hid b2
  have B3 := Lib.hid b3
  have B4 := Lib.hid b4
  have HS := Lib.hid hs
  clear hW hB0 b3 b4 hs
  cases hvp : vPlan P with
  | false =>
    have HV := Lib.hid hvp
    clear hvp
    refine (l07Ok_any _ A1 c1 P _ B2.out (Lib.hid (Kd.C_below HP.out HB0.out))).mono ?_
    rintro e w1 ⟨he, hb⟩
    rw [HV.out] at he
    subst he
    have k4 := blk_below B4.out hb
    have HB := Lib.hid (below_step HB0.out hb)
    clear hb
    have q4 : w1.cell? ⟨w.heap.size + 2, 0, none⟩ = some (.slice none 0 0) := (blk_cell k4 0).trans rfl
    have f4 := blk_frozen k4 0
    go_wp2_with fail
    refine bodyPost_ret (v := .tuple #[.agg #[.slice none 0 0], .int .i64 1]) (by simp [results, Tryd.results7, go_sem, q4]) rfl (JoinPost.bad (.inl HV.out) rfl (below_set HB.out (by omega)))
  | true =>
    have HVP := Lib.hid hvp
    have HTP := Lib.hid (valid_taps hvp)
    clear hvp
    refine (l07Ok_any _ A1 c1 P _ B2.out (Lib.hid (Kd.C_below HP.out HB0.out))).mono ?_
    rintro e w1 ⟨he, hb⟩
    rw [HVP.out] at he
    subst he
    have m2 := Lib.hid (cell_below B2.out hb)
    have b3 := cell_below B3.out hb
    have m4 := Lib.hid (blk_below B4.out hb)
    have HB1 := Lib.hid (below_step HB0.out hb)
    clear hb B2 B4 HB0 b2
    have B3' := Lib.hid b3
    cases hvq : vPlan Q with
    | false =>
      have HVQ := Lib.hid hvq
      clear hvq
      go_wp2_with fail
      refine (l07Ok_any _ A2 c2 Q _ B3'.out (Lib.hid (Kd.C_below HQ.out HB1.out))).mono ?_
      rintro e w2 ⟨he, hb⟩
      rw [HVQ.out] at he
      subst he
      have k4 := blk_below m4.out hb
      have HB := Lib.hid (below_step HB1.out hb)
      clear hb b3
      have q4 : w2.cell? ⟨w.heap.size + 2, 0, none⟩ = some (.slice none 0 0) := (blk_cell k4 0).trans rfl
      have f4 := blk_frozen k4 0
      go_wp2_with fail
      refine bodyPost_ret (v := .tuple #[.agg #[.slice none 0 0], .int .i64 1]) (by simp [results, Tryd.results7, go_sem, q4]) rfl (JoinPost.bad (.inr HVQ.out) rfl (below_set HB.out (by omega)))
    | true =>
      have HVQ := Lib.hid hvq
      have HTQ := Lib.hid (valid_taps hvq)
      clear hvq
      go_wp2_with fail
      refine (l07Ok_any _ A2 c2 Q _ B3'.out (Lib.hid (Kd.C_below HQ.out HB1.out))).mono ?_
      rintro e w2 ⟨he, hb⟩
      rw [HVQ.out] at he
      subst he
      have k2 := cell_below m2.out hb
      have k3 := cell_below b3 hb
      have k4 := blk_below m4.out hb
      have hlt4 := blk_lt k4
      have M4 := Lib.hid k4
      have HB := Lib.hid (below_step HB1.out hb)
      clear hb b3 B3 B3' m2 m4 HB1
      by_cases h8 : P.length + Q.length ≤ 8
      · have h8I : ((P.length : Int) + Q.length ≤ 8) := by omega
        have HL8 : Hid (P.length + Q.length ≤ 1048576) := by unfold Hid; omega
        have q4 : w2.cell? ⟨w.heap.size + 1 + 1, 0, none⟩ = some (.slice none 0 0) := (blk_cell k4 0).trans rfl
        have f4 : w2.frozen? ⟨w.heap.size + 1 + 1, 0, none⟩ = false := blk_frozen k4 0
        go_wp2_with fail
        obtain ⟨K2, K3, Q4, F4⟩ : Hid (w2.drew.cell? ⟨w.heap.size, 0, none⟩ = some (.slice A1 P.length c1)) ∧ Hid (w2.drew.cell? ⟨w.heap.size + 1, 0, none⟩ = some (.slice A2 Q.length c2)) ∧ Hid (w2.drew.cell? ⟨w.heap.size + 1 + 1, 0, none⟩ = some (.slice none 0 0)) ∧ Hid (w2.drew.frozen? ⟨w.heap.size + 1 + 1, 0, none⟩ = false) := ⟨k2, k3, q4, f4⟩
        go_region_law (first
          | (refine goes_ (N := some 24) Tryd.func22 (by kernel_rfl) rfl #[.slice A1 P.length c1] (by simp [Region.wanted]) rfl rfl (by (try simp only [List.map_toArray, List.map_cons, List.map_nil]); rfl) ?_; (with_reducible refine (l07Own_any A1 c1 P _ hPl HTP hP1 ?_).mono ?_); (first | exact Kd.C_below HP.out (below_drew HB.out) | exact Kd.C_below HP.out (below_step (below_drew HB.out) hbq) | fail); rintro e wp ⟨vp, rfl, hop, hbp⟩; refine ⟨_, rfl, ?_⟩; obtain ⟨Ap, cp, ep⟩ := Kd.S_slice hop; subst ep; obtain ⟨a2, a3, a4, af⟩ := keep4 (by first | exact K2.out | exact b2) (by first | exact K3.out | exact b3) (by first | exact Q4.out | exact b4) (by first | exact F4.out | exact bf) hbp)
          | (refine goes_ (N := some 27) Tryd.func22 (by kernel_rfl) rfl #[.slice A2 Q.length c2] (by simp [Region.wanted]) rfl rfl (by (try simp only [List.map_toArray, List.map_cons, List.map_nil]); rfl) ?_; (with_reducible refine (l07Own_any A2 c2 Q _ hQl HTQ hQ1 ?_).mono ?_); (first | exact Kd.C_below HQ.out (below_drew HB.out) | exact Kd.C_below HQ.out (below_step (below_drew HB.out) hbp) | fail); rintro e wq ⟨vq, rfl, hoq, hbq⟩; refine ⟨_, rfl, ?_⟩; obtain ⟨Aq, cq, eq⟩ := Kd.S_slice hoq; subst eq; obtain ⟨b2, b3, b4, bf⟩ := keep4 (by first | exact K2.out | exact a2) (by first | exact K3.out | exact a3) (by first | exact Q4.out | exact a4) (by first | exact F4.out | exact af) hbq)
          | (obtain ⟨okp, t1, t2, t3⟩ : ∃ okp, TwoApart wq w.heap.size (.slice Ap P.length cp) P Q Aq okp := ⟨_, apart_pq (below_drew HB.out).size hop hbp hoq hbq⟩; have HK4 : wq.heap[w.heap.size + 2]? = some (.cells #[.slice none 0 0] 28 (0, 0)) := blk_below (blk_below (blk_drew M4.out) hbp) hbq; have hbw : Below w.heap.size w wq := below_step (below_step (below_drew HB.out) hbp) hbq; refine step_append_SR k53 w.heap.size (by rfl) (.tmp 24) (.tmp 27) 26 53 (.agg #[(.int .i64 0), (.int .i64 0), (.int .i64 0), (.slice none 0 0)]) 48 (by rfl) Tryd.underlying26 info53 rfl (by decide) (by omega) (.slice Ap P.length cp) P Q Aq Q.length cq (fun _ => True) okp (by rfl) (by rfl) t1 t2 t3 (fun _ _ => trivial) hbw.size (by omega) ?_; intro vc wc hoc hgc hat; have HC4 := Lib.hid (blk_grown HK4 hgc (Kd.S_ne t1 HK4 (by decide))); have HBc := Lib.hid (hbw.grown hgc hbw.size (Kd.S_base t1)); have HOC := Lib.hid hoc; clear t1 t2 t3 HK4 hbw hgc hat; obtain ⟨Ac, cc, ec⟩ := Kd.S_slice hoc; subst ec; clear hoc; have d4 : wc.cell? ⟨w.heap.size + 1 + 1, 0, none⟩ = some (.slice none 0 0) := (blk_cell HC4.out 0).trans rfl; have df : wc.frozen? ⟨w.heap.size + 1 + 1, 0, none⟩ = false := blk_frozen HC4.out 0)
          | (obtain ⟨okp, t1, t2, t3⟩ : ∃ okp, TwoApart wp w.heap.size (.slice Ap P.length cp) P Q Aq okp := ⟨_, apart_qp (below_drew HB.out).size hoq hbq hop hbp⟩; have HK4 : wp.heap[w.heap.size + 2]? = some (.cells #[.slice none 0 0] 28 (0, 0)) := blk_below (blk_below (blk_drew M4.out) hbq) hbp; have hbw : Below w.heap.size w wp := below_step (below_step (below_drew HB.out) hbq) hbp; refine step_append_SR k53 w.heap.size (by rfl) (.tmp 24) (.tmp 27) 26 53 (.agg #[(.int .i64 0), (.int .i64 0), (.int .i64 0), (.slice none 0 0)]) 48 (by rfl) Tryd.underlying26 info53 rfl (by decide) (by omega) (.slice Ap P.length cp) P Q Aq Q.length cq (fun _ => True) okp (by rfl) (by rfl) t1 t2 t3 (fun _ _ => trivial) hbw.size (by omega) ?_; intro vc wc hoc hgc hat; have HC4 := Lib.hid (blk_grown HK4 hgc (Kd.S_ne t1 HK4 (by decide))); have HBc := Lib.hid (hbw.grown hgc hbw.size (Kd.S_base t1)); have HOC := Lib.hid hoc; clear t1 t2 t3 HK4 hbw hgc hat; obtain ⟨Ac, cc, ec⟩ := Kd.S_slice hoc; subst ec; clear hoc; have d4 : wc.cell? ⟨w.heap.size + 1 + 1, 0, none⟩ = some (.slice none 0 0) := (blk_cell HC4.out 0).trans rfl; have df : wc.frozen? ⟨w.heap.size + 1 + 1, 0, none⟩ = false := blk_frozen HC4.out 0)
          | fail)
        all_goals
          go_wp2_with fail
          refine bodyPost_ret (v := .tuple #[.agg #[.slice Ac (P.length + Q.length) cc], .int .i64 0]) (by simp [results, Tryd.results7, go_sem, d4]) rfl (JoinPost.good HVP.out HVQ.out h8 rfl ?_ (below_set HBc.out (by omega)))
          have h9 := Kd.S_set HOC.out HC4.out (by decide) 0 (.slice Ac (P.length + Q.length) cc)
          rw [List.length_append] at h9
          exact h9
      · have h8I : ¬ ((P.length : Int) + Q.length ≤ 8) := by omega
        have q4 : w2.cell? ⟨w.heap.size + 2, 0, none⟩ = some (.slice none 0 0) := (blk_cell k4 0).trans rfl
        have f4 := blk_frozen k4 0
        go_wp2_with fail
        refine bodyPost_ret (v := .tuple #[.agg #[.slice none 0 0], .int .i64 3]) (by simp [results, Tryd.results7, go_sem, q4]) rfl (JoinPost.long HVP.out HVQ.out h8 rfl (below_set HB.out (by omega)))
end Go.Proofs.YtdleofaikjkndaaDoor
