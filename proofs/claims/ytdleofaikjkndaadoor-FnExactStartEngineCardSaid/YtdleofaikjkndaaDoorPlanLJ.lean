/- The walk of the law FnExactJoinPlans: it returns true. -/
import Derived.Test.YtdleofaikjkndaaDoorPlanT
namespace Go.Proofs.YtdleofaikjkndaaDoor
open Go.RowKit Go.Proofs.YtdleofaikjkndaaDoorW.PrintWords Go.Proofs.YtdleofaikjkndaaDoor.PFnExactJoinPlans

/-- What the law needs to know of a plan of its own. -/
structure Small (S : List S53) : Prop where
  len : S.length ≤ 1048576
  taps : ∀ s ∈ S, s.f3.length ≤ 1048576
  tot : tot S ≤ 10000000

theorem toPlan_as (A : Option Addr) (c : Nat) (P0 : List S63) (P : List S53) (w : World) (HP : Hid (P0.map conv = P)) (hP : P0.length ≤ 1048576) (HT : Hid (∀ s ∈ P0, s.f3.length ≤ 1048576)) (hc : P0.length ≤ c) (HR : Kd.C k63 w A P0.length P0) :
    Calls Tryd.prog 8 #[.agg #[.slice A P0.length c]] w (StepsPost P w) := by
  have h := toPlan_any A c P0 w hP HT hc HR
  rw [HP.out] at h
  exact h

theorem keep2 {w w1 : World} {a b : Nat} {x y : Value} (h1 : w.cell? ⟨a, 0, none⟩ = some x) (h2 : w.cell? ⟨b, 0, none⟩ = some y) (hb : Below w.heap.size w w1) : w1.cell? ⟨a, 0, none⟩ = some x ∧ w1.cell? ⟨b, 0, none⟩ = some y := ⟨cell_below h1 hb, cell_below h2 hb⟩
theorem new_blk {X w' : World} {o : Obj} (hb : Below (X.alloc o).heap.size (X.alloc o) w') : w'.heap[X.heap.size]? = some o := blk_below (blk_new X o) hb
def JP (R : List S53) (K : Int) (w : World) (e : Ending) (w' : World) : Prop :=
  ∃ v : Value, e = .returned (.tuple #[.agg #[v], .int .i64 K]) ∧ Kd.S k53 53 w' w.heap.size (fun _ => True) v R ∧ Below w.heap.size w w'
theorem JP.of {P Q R : List S53} {K : Int} {w w' : World} {e : Ending} (hR : joinSteps P Q = R) (hK : joinCode P Q = K) (h : JoinPost P Q w e w') : JP R K w e w' := by
  subst hR hK
  exact h
theorem small_conv {P0 : List S63} (h : P0.length + tapSum P0 ≤ 1048576) : Small (P0.map conv) := by
  refine ⟨by rw [List.length_map]; omega, fun s hs => ?_, by rw [tot_conv]; omega⟩
  obtain ⟨s0, h0, rfl⟩ := List.mem_map.1 hs
  have := tapSum_mem h0
  show s0.f3.length ≤ _
  omega
theorem small_join {P Q : List S53} (hP : Small P) (hQ : Small Q) : (joinSteps P Q).length ≤ 1048576 ∧ (∀ s ∈ joinSteps P Q, s.f3.length ≤ 1048576) ∧ tot (joinSteps P Q) ≤ 20000000 := by
  unfold joinSteps
  split
  · rename_i h
    simp only [Bool.and_eq_true, decide_eq_true_eq] at h
    refine ⟨by rw [List.length_append]; omega, fun s hs => ?_, by rw [tot_append]; have := hP.tot; have := hQ.tot; omega⟩
    rcases List.mem_append.1 hs with hs | hs
    · exact hP.taps s hs
    · exact hQ.taps s hs
  · exact ⟨by simp, fun s hs => absurd hs (by simp), by simp [tot]⟩

set_option maxRecDepth 100000 in
set_option maxHeartbeats 40000000 in
theorem lawJoin_any (tb toff : Nat) (A1 A2 : Option Addr) (c1 c2 : Nat) (P0 Q0 : List S63) (w : World) (HT : Hid (FormTab w tb toff)) (hc1 : P0.length ≤ c1) (hc2 : Q0.length ≤ c2) (HP : Hid (Kd.C k63 w A1 P0.length P0)) (HQ : Hid (Kd.C k63 w A2 Q0.length Q0)) :
    Calls Tryd.prog 3 #[.agg #[.slice A1 P0.length c1], .agg #[.slice A2 Q0.length c2]] w fun e w' => e = .returned (.bool true) ∧ Below w.heap.size w w' := by
  have HC1 := Lib.hid hc1
  have HC2 := Lib.hid hc2
  clear hc1 hc2
  go_enter Tryd.func3, Tryd.ntmps3
  go_wp2_with fail
  generalize hW : (w.alloc (.cells #[.slice A1 P0.length c1] 24)).alloc (.cells #[.slice A2 Q0.length c2] 24) = W
  have hB0 : Below w.heap.size w W := by rw [← hW]; exact below_alloc (below_alloc (Below.refl _ _) _) _
  have b2 : W.cell? ⟨w.heap.size, 0, none⟩ = some (.slice A1 P0.length c1) := by rw [← hW]; exact cell_below (w := w.alloc (.cells #[.slice A1 P0.length c1] 24)) (by simp) (below_alloc (Below.refl _ _) _)
  have b3 : W.cell? ⟨w.heap.size + 1, 0, none⟩ = some (.slice A2 Q0.length c2) := by
    rw [← hW]
    have e : w.heap.size + 1 = (w.alloc (.cells #[.slice A1 P0.length c1] 24)).heap.size := by simp
    rw [e]
    simp
  have hs : W.heap.size = w.heap.size + 2 := by rw [← hW]; simp
  have HB0 := Lib.hid hB0
  have B2 := Lib.hid b2
  have B3 := Lib.hid b3
  have HS := Lib.hid hs
  clear hW hB0 b3 hs
  refine (szPlan_any A1 c1 P0 1048576 _ (by omega) (by omega) HC1.out (Kd.C_below HP.out HB0.out)).mono ?_
  rintro e w1 ⟨r1, rfl, hr1, hb1⟩
  have k2 := cell_below B2.out hb1
  have k3 := cell_below B3.out hb1
  have HB1 := Lib.hid (below_step HB0.out hb1)
  clear hb1 b2
  rcases hr1 with ⟨hneg, rfl⟩ | ⟨h0, hsum1⟩
  · go_wp2_with fail
    go_ret
    exact ⟨rfl, HB1.out⟩
  have hr1I : ¬ (r1 < 0) := by omega
  have HSum1 := Lib.hid hsum1
  have hr1m : r1 ≤ 1048576 := by omega
  clear hsum1
  have K2 := Lib.hid k2
  have K3 := Lib.hid k3
  go_wp2_with fail
  refine (szPlan_any A2 c2 Q0 r1 _ h0 hr1m HC2.out (Kd.C_below HQ.out HB1.out)).mono ?_
  rintro e w2 ⟨r2, rfl, hr2, hb2⟩
  have m2 := cell_below K2.out hb2
  have m3 := cell_below K3.out hb2
  have HB2 := Lib.hid (below_step HB1.out hb2)
  clear hb2 k2 k3 K2 K3 B2 B3 HB0 HB1
  rcases hr2 with ⟨hneg, rfl⟩ | ⟨h2, hsum2⟩
  · go_wp2_with fail
    go_ret
    exact ⟨rfl, HB2.out⟩
  have hr2I : ¬ (r2 < 0) := by omega
  have hPl : P0.length ≤ 1048576 := by have := HSum1.out; omega
  have hQl : Q0.length ≤ 1048576 := by omega
  have hbd : P0.length + tapSum P0 + Q0.length + tapSum Q0 ≤ 1048576 := by have := HSum1.out; omega
  have HTP : Hid (∀ s ∈ P0, s.f3.length ≤ 1048576) := fun s hs => by have := tapSum_mem hs; omega
  have HTQ : Hid (∀ s ∈ Q0, s.f3.length ≤ 1048576) := fun s hs => by have := tapSum_mem hs; omega
  have sP := small_conv (P0 := P0) (by omega)
  have sQ := small_conv (P0 := Q0) (by omega)
  obtain ⟨P, hPe⟩ : ∃ P, P0.map conv = P := ⟨_, rfl⟩
  obtain ⟨Q, hQe⟩ : ∃ Q, Q0.map conv = Q := ⟨_, rfl⟩
  rw [hPe] at sP
  rw [hQe] at sQ
  obtain ⟨R, hRe⟩ : ∃ R, joinSteps P Q = R := ⟨_, rfl⟩
  obtain ⟨K0, hKe⟩ : ∃ K, joinCode P Q = K := ⟨_, rfl⟩
  have sR := small_join sP sQ
  rw [hRe] at sR
  have SP := Lib.hid sP
  have SQ := Lib.hid sQ
  have SR' := Lib.hid sR
  have HPe := Lib.hid hPe
  have HQe := Lib.hid hQe
  have HRe := Lib.hid hRe
  have HKe := Lib.hid hKe
  have HTp : Hid (∀ s ∈ P, s.f3.length ≤ 1048576) := sP.taps
  have HTq : Hid (∀ s ∈ Q, s.f3.length ≤ 1048576) := sQ.taps
  have HTr : Hid (∀ s ∈ R, s.f3.length ≤ 1048576) := sR.2.1
  have l2 : w.heap.size < w2.heap.size := lt_of_cell m2
  have l3 : w.heap.size + 1 < w2.heap.size := lt_of_cell m3
  have M2 := Lib.hid m2
  have M3 := Lib.hid m3
  have HPl := Lib.hid hPl
  have HQl := Lib.hid hQl
  clear sP sQ sR hPe hQe hRe hKe hsum2 hbd hPl hQl HSum1 hr1I hr1m h0 h2
  go_wp2_with fail
  go_cut [6, 7] (fun s6 s7 wx => ∃ (g6 : Nat) (v6 : Value), s6 = .pointer (some ⟨g6, 0, none⟩) ∧ s7 = .int .i64 K0 ∧ Hid (wx.heap[g6]? = some (.cells #[v6] 28 (0, 0))) ∧ Hid (Kd.S k53 53 wx w2.heap.size (fun _ => True) v6 R) ∧ Hid (Below w2.heap.size w2 wx))
  case first =>
    go_region_with (first
      | (go_at_call 8; (with_reducible refine (toPlan_as A1 c1 P0 P _ HPe HPl.out HTP HC1.out ?_).mono ?_); (first | exact Kd.C_below HP.out (below_drew HB2.out) | exact Kd.C_below HP.out (below_alloc (below_drew HB2.out) _) | fail); rintro e wp ⟨vp, rfl, hop, hbp⟩; obtain ⟨Ap, cp, ep⟩ := Kd.S_slice hop; subst ep; have HBp : Hid (Below w2.heap.size w2 wp) := (by first | exact below_step (below_drew (Below.refl _ _)) hbp | exact below_step (below_alloc (below_drew (Below.refl _ _)) _) hbp); have a3 : wp.cell? ⟨w.heap.size + 1, 0, none⟩ = some (.slice A2 Q0.length c2) := cell_below M3.out HBp.out; have l3p : w.heap.size + 1 < wp.heap.size := lt_of_cell a3; (first | (have hg6 : wp.heap[w2.heap.size]? = some (.cells #[.slice none 0 0] 28 (0, 0)) := new_blk (X := w2.drew) hbp; have hc6 : wp.cell? ⟨w2.heap.size, 0, none⟩ = some (.slice none 0 0) := (blk_cell hg6 0).trans rfl; have hf6 : wp.frozen? ⟨w2.heap.size, 0, none⟩ = false := blk_frozen hg6 0; have HG6 : Hid (w2.heap.size ≤ w2.heap.size) := Nat.le_refl _) | skip))
      | (go_at_call 8; (with_reducible refine (toPlan_as A2 c2 Q0 Q _ HQe HQl.out HTQ HC2.out ?_).mono ?_); (first | exact Kd.C_below HQ.out (below_step HB2.out HBp.out) | exact Kd.C_below HQ.out (below_alloc (below_step HB2.out HBp.out) _) | fail); rintro e wq ⟨vq, rfl, hoq, hbq⟩; obtain ⟨Aq, cq, eq⟩ := Kd.S_slice hoq; subst eq; have HBpq : Hid (Below wp.heap.size wp wq) := (by first | exact hbq | exact below_step (below_alloc (Below.refl _ _) _) hbq); have HBq : Hid (Below w2.heap.size w2 wq) := below_step HBp.out HBpq.out; (first | (have hg6 : wq.heap[wp.heap.size]? = some (.cells #[.slice none 0 0] 28 (0, 0)) := new_blk hbq; have hc6 : wq.cell? ⟨wp.heap.size, 0, none⟩ = some (.slice none 0 0) := (blk_cell hg6 0).trans rfl; have hf6 : wq.frozen? ⟨wp.heap.size, 0, none⟩ = false := blk_frozen hg6 0; have HG6 : Hid (w2.heap.size ≤ wp.heap.size) := HBp.out.size) | (have hg6 : wq.heap[w2.heap.size]? = some (.cells #[.slice none 0 0] 28 (0, 0)) := blk_below hg6 hbq; have hc6 : wq.cell? ⟨w2.heap.size, 0, none⟩ = some (.slice none 0 0) := (blk_cell hg6 0).trans rfl; have hf6 : wq.frozen? ⟨w2.heap.size, 0, none⟩ = false := blk_frozen hg6 0; have HG6 : Hid (w2.heap.size ≤ w2.heap.size) := Nat.le_refl _) | skip))
      | (go_at_call 7; (with_reducible refine (specJoin_any _ _ cp cq P Q _ (Kd.S_reads' hop).2.1 (Kd.S_reads' hoq).2.1 (by have := SP.out.len; omega) (by have := SQ.out.len; omega) ?_ ?_).mono ?_); (first | exact Kd.C_below (Kd.S_reads' hop).2.2 HBpq.out | exact Kd.C_alloc (Kd.C_below (Kd.S_reads' hop).2.2 HBpq.out) _ | fail); (first | exact (Kd.S_reads' hoq).2.2 | exact Kd.C_alloc (Kd.S_reads' hoq).2.2 _ | fail); rintro e wj hj; obtain ⟨vj, rfl, hoj, hbj⟩ := JP.of HRe.out HKe.out hj; obtain ⟨Aj, cj, ej⟩ := Kd.S_slice hoj; subst ej; clear hj; have HBj : Hid (Below w2.heap.size w2 wj) := (by first | exact below_step HBq.out hbj | exact below_step (below_alloc HBq.out _) hbj); (first | (have hg6 : wj.heap[wq.heap.size]? = some (.cells #[.slice none 0 0] 28 (0, 0)) := new_blk hbj; have hc6 : wj.cell? ⟨wq.heap.size, 0, none⟩ = some (.slice none 0 0) := (blk_cell hg6 0).trans rfl; have hf6 : wj.frozen? ⟨wq.heap.size, 0, none⟩ = false := blk_frozen hg6 0; have HG6 : Hid (w2.heap.size ≤ wq.heap.size) := HBq.out.size) | (have hg6 : wj.heap[wp.heap.size]? = some (.cells #[.slice none 0 0] 28 (0, 0)) := blk_below hg6 hbj; have hc6 : wj.cell? ⟨wp.heap.size, 0, none⟩ = some (.slice none 0 0) := (blk_cell hg6 0).trans rfl; have hf6 : wj.frozen? ⟨wp.heap.size, 0, none⟩ = false := blk_frozen hg6 0; have HG6 : Hid (w2.heap.size ≤ wp.heap.size) := HBp.out.size) | (have hg6 : wj.heap[w2.heap.size]? = some (.cells #[.slice none 0 0] 28 (0, 0)) := blk_below hg6 hbj; have hc6 : wj.cell? ⟨w2.heap.size, 0, none⟩ = some (.slice none 0 0) := (blk_cell hg6 0).trans rfl; have hf6 : wj.frozen? ⟨w2.heap.size, 0, none⟩ = false := blk_frozen hg6 0; have HG6 : Hid (w2.heap.size ≤ w2.heap.size) := Nat.le_refl _) | skip))
      | fail)
    all_goals
      go_wp2_with fail
      go_meet
      have HO : Hid (Kd.S k53 53 wj w2.heap.size (fun _ => True) (.slice Aj R.length cj) R) := Kd.S_lower hoj (by first | exact HBq.out.size | exact (below_alloc HBq.out _).size | fail)
      first
        | exact ⟨_, _, rfl, rfl, blk_put hg6 0 _ rfl, Kd.S_set HO.out hg6 (by decide) 0 _, below_set HBj.out HG6.out⟩
        | exact ⟨_, _, rfl, rfl, blk_new _ _, Kd.S_alloc HO.out _, below_alloc HBj.out _⟩
  case rest =>
    obtain ⟨wA, rfl⟩ : ∃ X, X = wc := ⟨_, rfl⟩
    obtain ⟨g6, v6, rfl, rfl, BK6, O6', HBc⟩ := hcut
    obtain ⟨k1, HK1⟩ : ∃ k, Hid (1 + tot P = k) := ⟨_, rfl⟩
    obtain ⟨k2, HK2⟩ : ∃ k, Hid (k1 + tot Q = k) := ⟨_, rfl⟩
    obtain ⟨k3, HK3⟩ : ∃ k, Hid (1 + tot R = k) := ⟨_, rfl⟩
    obtain ⟨A6, c6, e6⟩ := Kd.S_slice O6'.out
    subst e6
    have O6 : Hid (Kd.S k53 53 wA w2.heap.size (fun q => q < wA.heap.size) (.slice A6 R.length c6) R) := Kd.S_mono (Kd.S_bound O6'.out) (fun q hq => hq.2.2.1)
    have hg6 : g6 < wA.heap.size := blk_lt BK6.out
    have HB := Lib.hid (below_step HB2.out HBc.out)
    replace M2 := Lib.hid (cell_below M2.out HBc.out)
    replace M3 := Lib.hid (cell_below M3.out HBc.out)
    have hw2c : w2.heap.size ≤ wA.heap.size := HBc.out.size
    have m2 := M2.out
    clear O6'
    go_wp2_with fail
    refine (toPlan_as A1 c1 P0 P _ HPe HPl.out HTP HC1.out (Kd.C_below HP.out HB.out)).mono ?_
    rintro e w3 ⟨v8, rfl, ho, hb⟩
    obtain ⟨A8, c8, e8⟩ := Kd.S_slice ho
    subst e8
    have HO := Lib.hid ho
    have HBn := Lib.hid hb
    have hz8 : wA.heap.size ≤ w3.heap.size := hb.size
    clear ho
    replace M2 := Lib.hid (cell_below M2.out HBn.out)
    replace M3 := Lib.hid (cell_below M3.out HBn.out)
    replace BK6 := Lib.hid (blk_below BK6.out HBn.out)
    replace O6 := Lib.hid (Kd.S_below O6.out HBn.out)
    replace HB := Lib.hid (below_step HB.out HBn.out)
    have m3 := M3.out
    have lm3 : w.heap.size + 1 < w3.heap.size := lt_of_cell m3
    clear hb m2
    go_wp2_with fail
    generalize hW : w3.alloc (.cells #[.slice A8 P.length c8] 28) = W9
    have hal : Below w3.heap.size w3 W9 := by rw [← hW]; exact below_alloc (Below.refl _ _) _
    have hsz8 : W9.heap.size = w3.heap.size + 1 := by rw [← hW]; simp
    have BK8 : Hid (W9.heap[w3.heap.size]? = some (.cells #[.slice A8 P.length c8] 28 (0, 0))) := by unfold Hid; rw [← hW]; exact blk_new _ _
    have HA := Lib.hid hal
    clear hW hal
    replace M2 := Lib.hid (cell_below M2.out HA.out)
    replace M3 := Lib.hid (cell_below M3.out HA.out)
    replace BK6 := Lib.hid (blk_below BK6.out HA.out)
    replace O6 := Lib.hid (Kd.S_below O6.out HA.out)
    replace HB := Lib.hid (below_step HB.out HA.out)
    have O8 : Hid (Kd.S k53 53 W9 wA.heap.size (fun q => wA.heap.size ≤ q ∧ q < w3.heap.size) (.slice A8 P.length c8) P) := Kd.S_mono (Kd.S_below (Kd.S_bound HO.out) HA.out) (fun q hq => ⟨hq.2.1, hq.2.2.1⟩)
    clear HO HBn HA
    clear m3 lm3
    refine (toPlan_as A2 c2 Q0 Q _ HQe HQl.out HTQ HC2.out (Kd.C_below HQ.out HB.out)).mono ?_
    rintro e w4 ⟨v9, rfl, ho, hb⟩
    obtain ⟨A9, c9, e9⟩ := Kd.S_slice ho
    subst e9
    have HO := Lib.hid ho
    have HBn := Lib.hid hb
    have hz9 : W9.heap.size ≤ w4.heap.size := hb.size
    clear ho
    replace M2 := Lib.hid (cell_below M2.out HBn.out)
    replace M3 := Lib.hid (cell_below M3.out HBn.out)
    replace BK6 := Lib.hid (blk_below BK6.out HBn.out)
    replace O6 := Lib.hid (Kd.S_below O6.out HBn.out)
    replace BK8 := Lib.hid (blk_below BK8.out HBn.out)
    replace O8 := Lib.hid (Kd.S_below O8.out HBn.out)
    replace HB := Lib.hid (below_step HB.out HBn.out)
    have x8 : w4.cell? ⟨w3.heap.size, 0, none⟩ = some (.slice A8 P.length c8) := (blk_cell BK8.out 0).trans rfl
    have lx8 : w3.heap.size < w4.heap.size := lt_of_cell x8
    clear hb
    go_wp2_with fail
    generalize hW : w4.alloc (.cells #[.slice A9 Q.length c9] 28) = W10
    have hal : Below w4.heap.size w4 W10 := by rw [← hW]; exact below_alloc (Below.refl _ _) _
    have hsz9 : W10.heap.size = w4.heap.size + 1 := by rw [← hW]; simp
    have BK9 : Hid (W10.heap[w4.heap.size]? = some (.cells #[.slice A9 Q.length c9] 28 (0, 0))) := by unfold Hid; rw [← hW]; exact blk_new _ _
    have HA := Lib.hid hal
    clear hW hal
    replace M2 := Lib.hid (cell_below M2.out HA.out)
    replace M3 := Lib.hid (cell_below M3.out HA.out)
    replace BK6 := Lib.hid (blk_below BK6.out HA.out)
    replace O6 := Lib.hid (Kd.S_below O6.out HA.out)
    replace BK8 := Lib.hid (blk_below BK8.out HA.out)
    replace O8 := Lib.hid (Kd.S_below O8.out HA.out)
    replace HB := Lib.hid (below_step HB.out HA.out)
    have O9 : Hid (Kd.S k53 53 W10 W9.heap.size (fun q => W9.heap.size ≤ q ∧ q < w4.heap.size) (.slice A9 Q.length c9) Q) := Kd.S_mono (Kd.S_below (Kd.S_bound HO.out) HA.out) (fun q hq => ⟨hq.2.1, hq.2.2.1⟩)
    clear HO HBn HA
    clear x8 lx8
    refine (implJoin_any tb toff A8 A9 c8 c9 P Q _ (Lib.hid (HT.out.below HB.out)) (by have := SP.out.len; omega) (by have := SQ.out.len; omega) (Lib.hid (Kd.S_reads' O8.out).2.2) (Lib.hid (Kd.S_reads' O9.out).2.2)).mono ?_
    rintro e w5 hj
    obtain ⟨v10, rfl, ho, hb⟩ := JP.of HRe.out HKe.out hj
    obtain ⟨A10, c10, e10⟩ := Kd.S_slice ho
    subst e10
    have HO := Lib.hid ho
    have HBn := Lib.hid hb
    have hz10 : W10.heap.size ≤ w5.heap.size := hb.size
    clear ho hj
    replace M2 := Lib.hid (cell_below M2.out HBn.out)
    replace M3 := Lib.hid (cell_below M3.out HBn.out)
    replace BK6 := Lib.hid (blk_below BK6.out HBn.out)
    replace O6 := Lib.hid (Kd.S_below O6.out HBn.out)
    replace BK8 := Lib.hid (blk_below BK8.out HBn.out)
    replace O8 := Lib.hid (Kd.S_below O8.out HBn.out)
    replace BK9 := Lib.hid (blk_below BK9.out HBn.out)
    replace O9 := Lib.hid (Kd.S_below O9.out HBn.out)
    replace HB := Lib.hid (below_step HB.out HBn.out)
    have x6 : w5.cell? ⟨g6, 0, none⟩ = some (.slice A6 R.length c6) := (blk_cell BK6.out 0).trans rfl
    have lx6 : g6 < w5.heap.size := lt_of_cell x6
    clear hb
    go_wp2_with fail
    generalize hW : w5.alloc (.cells #[.slice A10 R.length c10] 28) = W11
    have hal : Below w5.heap.size w5 W11 := by rw [← hW]; exact below_alloc (Below.refl _ _) _
    have hsz10 : W11.heap.size = w5.heap.size + 1 := by rw [← hW]; simp
    have BK10 : Hid (W11.heap[w5.heap.size]? = some (.cells #[.slice A10 R.length c10] 28 (0, 0))) := by unfold Hid; rw [← hW]; exact blk_new _ _
    have HA := Lib.hid hal
    clear hW hal
    replace M2 := Lib.hid (cell_below M2.out HA.out)
    replace M3 := Lib.hid (cell_below M3.out HA.out)
    replace BK6 := Lib.hid (blk_below BK6.out HA.out)
    replace O6 := Lib.hid (Kd.S_below O6.out HA.out)
    replace BK8 := Lib.hid (blk_below BK8.out HA.out)
    replace O8 := Lib.hid (Kd.S_below O8.out HA.out)
    replace BK9 := Lib.hid (blk_below BK9.out HA.out)
    replace O9 := Lib.hid (Kd.S_below O9.out HA.out)
    replace HB := Lib.hid (below_step HB.out HA.out)
    have O10 : Hid (Kd.S k53 53 W11 W10.heap.size (fun q => W10.heap.size ≤ q ∧ q < w5.heap.size) (.slice A10 R.length c10) R) := Kd.S_mono (Kd.S_below (Kd.S_bound HO.out) HA.out) (fun q hq => ⟨hq.2.1, hq.2.2.1⟩)
    clear HO HBn HA
    clear x6 lx6
    refine (eqPlan_same A10 A6 c10 c6 R _ SR'.out.1 HTr (Kd.S_reads' O10.out).2.1 (Kd.S_reads' O6.out).2.1 (Kd.S_reads' O10.out).2.2 (Kd.S_reads' O6.out).2.2).mono ?_
    rintro e w6 ⟨rfl, hb⟩
    have HBn := Lib.hid hb
    clear hb
    replace M2 := Lib.hid (cell_below M2.out HBn.out)
    replace M3 := Lib.hid (cell_below M3.out HBn.out)
    replace BK6 := Lib.hid (blk_below BK6.out HBn.out)
    replace O6 := Lib.hid (Kd.S_below O6.out HBn.out)
    replace BK8 := Lib.hid (blk_below BK8.out HBn.out)
    replace O8 := Lib.hid (Kd.S_below O8.out HBn.out)
    replace BK9 := Lib.hid (blk_below BK9.out HBn.out)
    replace O9 := Lib.hid (Kd.S_below O9.out HBn.out)
    replace BK10 := Lib.hid (blk_below BK10.out HBn.out)
    replace O10 := Lib.hid (Kd.S_below O10.out HBn.out)
    replace HB := Lib.hid (below_step HB.out HBn.out)
    have x8 : w6.cell? ⟨w3.heap.size, 0, none⟩ = some (.slice A8 P.length c8) := (blk_cell BK8.out 0).trans rfl
    have m2 := M2.out
    have lx8 : w3.heap.size < w6.heap.size := lt_of_cell x8
    clear HBn
    go_wp2_with fail
    go_cut [58] (fun s wx => s = .bool false ∧ Hid (Below w6.heap.size w6 wx))
    case first =>
      go_region_with (first
        | (go_at_call 8; (with_reducible refine (toPlan_as A1 c1 P0 P _ HPe HPl.out HTP HC1.out ?_).mono ?_); exact Kd.C_below HP.out (below_drew HB.out); rintro e wp ⟨vp, rfl, hop, hbp⟩; obtain ⟨Ap, cp, ep⟩ := Kd.S_slice hop; subst ep; have y8 : wp.cell? ⟨w3.heap.size, 0, none⟩ = some (.slice A8 P.length c8) := cell_below (w := w6.drew) (x8) hbp)
        | (go_at_call 10; (with_reducible refine (eqPlan_same A8 Ap c8 cp P _ SP.out.len HTp (Kd.S_reads' O8.out).2.1 (Kd.S_reads' hop).2.1 ?_ (Kd.S_reads' hop).2.2).mono ?_); exact (Kd.S_reads' (Kd.S_below O8.out (below_step (below_drew (Below.refl _ _)) hbp))).2.2; rintro e wq ⟨rfl, hbq⟩)
        | fail)
      all_goals
        go_wp2_with fail
        go_meet
        exact ⟨rfl, below_step (below_step (below_drew (Below.refl _ _)) hbp) hbq⟩
    case rest =>
      obtain ⟨wB, rfl⟩ : ∃ X, X = wc := ⟨_, rfl⟩
      obtain ⟨rfl, HBn⟩ := hcut
      clear m2 x8 lx8
      replace M2 := Lib.hid (cell_below M2.out HBn.out)
      replace M3 := Lib.hid (cell_below M3.out HBn.out)
      replace BK6 := Lib.hid (blk_below BK6.out HBn.out)
      replace O6 := Lib.hid (Kd.S_below O6.out HBn.out)
      replace BK8 := Lib.hid (blk_below BK8.out HBn.out)
      replace O8 := Lib.hid (Kd.S_below O8.out HBn.out)
      replace BK9 := Lib.hid (blk_below BK9.out HBn.out)
      replace O9 := Lib.hid (Kd.S_below O9.out HBn.out)
      replace BK10 := Lib.hid (blk_below BK10.out HBn.out)
      replace O10 := Lib.hid (Kd.S_below O10.out HBn.out)
      replace HB := Lib.hid (below_step HB.out HBn.out)
      have x9 : wB.cell? ⟨w4.heap.size, 0, none⟩ = some (.slice A9 Q.length c9) := (blk_cell BK9.out 0).trans rfl
      have m3 := M3.out
      have lx9 : w4.heap.size < wB.heap.size := lt_of_cell x9
      clear HBn
      go_wp2_with fail
      go_cut [63] (fun s wx => s = .bool false ∧ Hid (Below wB.heap.size wB wx))
      case first =>
        go_region_with (first
          | (go_at_call 8; (with_reducible refine (toPlan_as A2 c2 Q0 Q _ HQe HQl.out HTQ HC2.out ?_).mono ?_); exact Kd.C_below HQ.out (below_drew HB.out); rintro e wp ⟨vp, rfl, hop, hbp⟩; obtain ⟨Ap, cp, ep⟩ := Kd.S_slice hop; subst ep; have y8 : wp.cell? ⟨w4.heap.size, 0, none⟩ = some (.slice A9 Q.length c9) := cell_below (w := wB.drew) (x9) hbp)
          | (go_at_call 10; (with_reducible refine (eqPlan_same A9 Ap c9 cp Q _ SQ.out.len HTq (Kd.S_reads' O9.out).2.1 (Kd.S_reads' hop).2.1 ?_ (Kd.S_reads' hop).2.2).mono ?_); exact (Kd.S_reads' (Kd.S_below O9.out (below_step (below_drew (Below.refl _ _)) hbp))).2.2; rintro e wq ⟨rfl, hbq⟩)
          | fail)
        all_goals
          go_wp2_with fail
          go_meet
          exact ⟨rfl, below_step (below_step (below_drew (Below.refl _ _)) hbp) hbq⟩
      case rest =>
        obtain ⟨wC, rfl⟩ : ∃ X, X = wc := ⟨_, rfl⟩
        obtain ⟨rfl, HBn⟩ := hcut
        clear m3 x9 lx9
        replace M2 := Lib.hid (cell_below M2.out HBn.out)
        replace M3 := Lib.hid (cell_below M3.out HBn.out)
        replace BK6 := Lib.hid (blk_below BK6.out HBn.out)
        replace O6 := Lib.hid (Kd.S_below O6.out HBn.out)
        replace BK8 := Lib.hid (blk_below BK8.out HBn.out)
        replace O8 := Lib.hid (Kd.S_below O8.out HBn.out)
        replace BK9 := Lib.hid (blk_below BK9.out HBn.out)
        replace O9 := Lib.hid (Kd.S_below O9.out HBn.out)
        replace BK10 := Lib.hid (blk_below BK10.out HBn.out)
        replace O10 := Lib.hid (Kd.S_below O10.out HBn.out)
        replace HB := Lib.hid (below_step HB.out HBn.out)
        have x8 : wC.cell? ⟨w3.heap.size, 0, none⟩ = some (.slice A8 P.length c8) := (blk_cell BK8.out 0).trans rfl
        clear HBn
        go_wp2_with fail
        have hle : wA.heap.size ≤ wC.heap.size := by have := (blk_lt BK8.out); omega
        have hwle : w.heap.size ≤ wA.heap.size := by omega
        refine (markPlan_base P 1 _ _ wA.heap.size _ (by have := SP.out.tot; have := SQ.out.tot; have := SR'.out.2.2; have := HK1.out; omega) (by have := SP.out.len; have := SQ.out.len; have := SR'.out.1; omega) hle O8.out).mono ?_
        rintro e wD ⟨he, ho, hb0, hk⟩
        rw [HK1.out] at he
        subst he
        have HOn := Lib.hid ho
        have HB0n := Lib.hid hb0
        have HK := Lib.hid hk
        clear ho hb0 hk hle
        replace M2 := Lib.hid (cell_kept M2.out HK.out (by intro h; have h1 := h.1; (try simp only at h1); omega))
        replace M3 := Lib.hid (cell_kept M3.out HK.out (by intro h; have h1 := h.1; (try simp only at h1); omega))
        replace BK6 := Lib.hid (blk_kept BK6.out HK.out (by intro h; have h1 := h.1; have h2 := h.2; omega))
        replace O6 := Lib.hid (Kd.S_kept O6.out HK.out (by intro q hq h; have h1 := h.1; have h2 := h.2; have h3 : q < wA.heap.size := hq; omega))
        replace BK8 := Lib.hid (blk_kept BK8.out HK.out (by intro h; have h1 := h.1; have h2 := h.2; omega))
        replace BK9 := Lib.hid (blk_kept BK9.out HK.out (by intro h; have h1 := h.1; have h2 := h.2; omega))
        replace O9 := Lib.hid (Kd.S_kept O9.out HK.out (by intro q hq h; have h1 := h.1; have h2 := h.2; have h3 := hq.1; have h4 := hq.2; omega))
        replace BK10 := Lib.hid (blk_kept BK10.out HK.out (by intro h; have h1 := h.1; have h2 := h.2; omega))
        replace O10 := Lib.hid (Kd.S_kept O10.out HK.out (by intro q hq h; have h1 := h.1; have h2 := h.2; have h3 := hq.1; have h4 := hq.2; omega))
        replace O8 := HOn
        clear HOn
        replace HB := Lib.hid (HB.out.trans (HB0n.out.mono hwle))
        clear HB0n HK hwle
        have x9 : wD.cell? ⟨w4.heap.size, 0, none⟩ = some (.slice A9 Q.length c9) := (blk_cell BK9.out 0).trans rfl
        clear x8
        go_wp2_with fail
        have hle : W9.heap.size ≤ wD.heap.size := by have := (blk_lt BK9.out); omega
        have hwle : w.heap.size ≤ W9.heap.size := by omega
        refine (markPlan_base Q k1 _ _ W9.heap.size _ (by have := SP.out.tot; have := SQ.out.tot; have := SR'.out.2.2; have := HK1.out; omega) (by have := SP.out.len; have := SQ.out.len; have := SR'.out.1; omega) hle O9.out).mono ?_
        rintro e wE ⟨he, ho, hb0, hk⟩
        rw [HK2.out] at he
        subst he
        have HOn := Lib.hid ho
        have HB0n := Lib.hid hb0
        have HK := Lib.hid hk
        clear ho hb0 hk hle
        replace M2 := Lib.hid (cell_kept M2.out HK.out (by intro h; have h1 := h.1; (try simp only at h1); omega))
        replace M3 := Lib.hid (cell_kept M3.out HK.out (by intro h; have h1 := h.1; (try simp only at h1); omega))
        replace BK6 := Lib.hid (blk_kept BK6.out HK.out (by intro h; have h1 := h.1; have h2 := h.2; omega))
        replace O6 := Lib.hid (Kd.S_kept O6.out HK.out (by intro q hq h; have h1 := h.1; have h2 := h.2; have h3 : q < wA.heap.size := hq; omega))
        replace BK8 := Lib.hid (blk_kept BK8.out HK.out (by intro h; have h1 := h.1; have h2 := h.2; omega))
        replace O8 := Lib.hid (Kd.S_kept O8.out HK.out (by intro q hq h; have h1 := h.1; have h2 := h.2; have h3 := hq.1; have h4 := hq.2; omega))
        replace BK9 := Lib.hid (blk_kept BK9.out HK.out (by intro h; have h1 := h.1; have h2 := h.2; omega))
        replace BK10 := Lib.hid (blk_kept BK10.out HK.out (by intro h; have h1 := h.1; have h2 := h.2; omega))
        replace O10 := Lib.hid (Kd.S_kept O10.out HK.out (by intro q hq h; have h1 := h.1; have h2 := h.2; have h3 := hq.1; have h4 := hq.2; omega))
        replace O9 := HOn
        clear HOn
        replace HB := Lib.hid (HB.out.trans (HB0n.out.mono hwle))
        clear HB0n HK hwle
        have x10 : wE.cell? ⟨w5.heap.size, 0, none⟩ = some (.slice A10 R.length c10) := (blk_cell BK10.out 0).trans rfl
        have x6 : wE.cell? ⟨g6, 0, none⟩ = some (.slice A6 R.length c6) := (blk_cell BK6.out 0).trans rfl
        have hk2 : ¬ ((k2 : Int) < 0) := by omega
        clear x9
        go_wp2_with fail
        refine (eqPlan_same A10 A6 c10 c6 R _ SR'.out.1 HTr (Kd.S_reads' O10.out).2.1 (Kd.S_reads' O6.out).2.1 (Kd.S_reads' O10.out).2.2 (Kd.S_reads' O6.out).2.2).mono ?_
        rintro e wF ⟨rfl, hb⟩
        have HBn := Lib.hid hb
        clear hb
        replace M2 := Lib.hid (cell_below M2.out HBn.out)
        replace M3 := Lib.hid (cell_below M3.out HBn.out)
        replace BK6 := Lib.hid (blk_below BK6.out HBn.out)
        replace O6 := Lib.hid (Kd.S_below O6.out HBn.out)
        replace BK8 := Lib.hid (blk_below BK8.out HBn.out)
        replace O8 := Lib.hid (Kd.S_below O8.out HBn.out)
        replace BK9 := Lib.hid (blk_below BK9.out HBn.out)
        replace O9 := Lib.hid (Kd.S_below O9.out HBn.out)
        replace BK10 := Lib.hid (blk_below BK10.out HBn.out)
        replace O10 := Lib.hid (Kd.S_below O10.out HBn.out)
        replace HB := Lib.hid (below_step HB.out HBn.out)
        have x10 : wF.cell? ⟨w5.heap.size, 0, none⟩ = some (.slice A10 R.length c10) := (blk_cell BK10.out 0).trans rfl
        clear HBn hk2 x6
        go_wp2_with fail
        have hle : W10.heap.size ≤ wF.heap.size := by have := (blk_lt BK10.out); omega
        have hwle : w.heap.size ≤ W10.heap.size := by omega
        refine (markPlan_base R 1 _ _ W10.heap.size _ (by have := SP.out.tot; have := SQ.out.tot; have := SR'.out.2.2; have := HK1.out; omega) (by have := SP.out.len; have := SQ.out.len; have := SR'.out.1; omega) hle O10.out).mono ?_
        rintro e wG ⟨he, ho, hb0, hk⟩
        rw [HK3.out] at he
        subst he
        have HOn := Lib.hid ho
        have HB0n := Lib.hid hb0
        have HK := Lib.hid hk
        clear ho hb0 hk hle
        replace M2 := Lib.hid (cell_kept M2.out HK.out (by intro h; have h1 := h.1; (try simp only at h1); omega))
        replace M3 := Lib.hid (cell_kept M3.out HK.out (by intro h; have h1 := h.1; (try simp only at h1); omega))
        replace BK6 := Lib.hid (blk_kept BK6.out HK.out (by intro h; have h1 := h.1; have h2 := h.2; omega))
        replace O6 := Lib.hid (Kd.S_kept O6.out HK.out (by intro q hq h; have h1 := h.1; have h2 := h.2; have h3 : q < wA.heap.size := hq; omega))
        replace BK8 := Lib.hid (blk_kept BK8.out HK.out (by intro h; have h1 := h.1; have h2 := h.2; omega))
        replace O8 := Lib.hid (Kd.S_kept O8.out HK.out (by intro q hq h; have h1 := h.1; have h2 := h.2; have h3 := hq.1; have h4 := hq.2; omega))
        replace BK9 := Lib.hid (blk_kept BK9.out HK.out (by intro h; have h1 := h.1; have h2 := h.2; omega))
        replace O9 := Lib.hid (Kd.S_kept O9.out HK.out (by intro q hq h; have h1 := h.1; have h2 := h.2; have h3 := hq.1; have h4 := hq.2; omega))
        replace BK10 := Lib.hid (blk_kept BK10.out HK.out (by intro h; have h1 := h.1; have h2 := h.2; omega))
        replace O10 := HOn
        clear HOn
        replace HB := Lib.hid (HB.out.trans (HB0n.out.mono hwle))
        clear HB0n HK hwle
        have x10 : wG.cell? ⟨w5.heap.size, 0, none⟩ = some (.slice A10 R.length c10) := (blk_cell BK10.out 0).trans rfl
        go_wp2_with fail
        refine (heldPlan_any A10 c10 R _ (by have := SR'.out.2.2; omega) (by have := SR'.out.1; omega) (Kd.S_reads' O10.out).2.1 (by have h9 := (Kd.S_reads' O10.out).2.2; rwa [mkS_length] at h9)).mono ?_
        rintro e wH ⟨he, hb⟩
        rw [HK3.out] at he
        subst he
        have HBn := Lib.hid hb
        clear hb
        replace M2 := Lib.hid (cell_below M2.out HBn.out)
        replace M3 := Lib.hid (cell_below M3.out HBn.out)
        replace BK6 := Lib.hid (blk_below BK6.out HBn.out)
        replace O6 := Lib.hid (Kd.S_below O6.out HBn.out)
        replace BK8 := Lib.hid (blk_below BK8.out HBn.out)
        replace O8 := Lib.hid (Kd.S_below O8.out HBn.out)
        replace BK9 := Lib.hid (blk_below BK9.out HBn.out)
        replace O9 := Lib.hid (Kd.S_below O9.out HBn.out)
        replace BK10 := Lib.hid (blk_below BK10.out HBn.out)
        replace O10 := Lib.hid (Kd.S_below O10.out HBn.out)
        replace HB := Lib.hid (below_step HB.out HBn.out)
        have hk3 : ¬ ((k3 : Int) < 0) := by omega
        have m2 := M2.out
        have m3 := M3.out
        have l2 : w.heap.size < wH.heap.size := lt_of_cell m2
        have l3 : w.heap.size + 1 < wH.heap.size := lt_of_cell m3
        clear HBn x10
        go_wp2_with fail
        go_cut [15, 16] (fun s6 s7 wx => ∃ (gx : Nat) (vx : Value), s6 = .pointer (some ⟨gx, 0, none⟩) ∧ s7 = .int .i64 K0 ∧ Hid (wx.heap[gx]? = some (.cells #[vx] 28 (0, 0))) ∧ Hid (Kd.S k53 53 wx wH.heap.size (fun _ => True) vx R) ∧ Hid (Below wH.heap.size wH wx))
        case first =>
          go_region_with (first
            | (go_at_call 8; (with_reducible refine (toPlan_as A1 c1 P0 P _ HPe HPl.out HTP HC1.out ?_).mono ?_); (first | exact Kd.C_below HP.out (below_drew HB.out) | exact Kd.C_below HP.out (below_alloc (below_drew HB.out) _) | fail); rintro e wp ⟨vp, rfl, hop, hbp⟩; obtain ⟨Ap, cp, ep⟩ := Kd.S_slice hop; subst ep; have HBp : Hid (Below wH.heap.size wH wp) := (by first | exact below_step (below_drew (Below.refl _ _)) hbp | exact below_step (below_alloc (below_drew (Below.refl _ _)) _) hbp); have a3 : wp.cell? ⟨w.heap.size + 1, 0, none⟩ = some (.slice A2 Q0.length c2) := cell_below M3.out HBp.out; have l3p : w.heap.size + 1 < wp.heap.size := lt_of_cell a3; (first | (have hg6 : wp.heap[wH.heap.size]? = some (.cells #[.slice none 0 0] 28 (0, 0)) := new_blk (X := wH.drew) hbp; have hc6 : wp.cell? ⟨wH.heap.size, 0, none⟩ = some (.slice none 0 0) := (blk_cell hg6 0).trans rfl; have hf6 : wp.frozen? ⟨wH.heap.size, 0, none⟩ = false := blk_frozen hg6 0; have HG6 : Hid (wH.heap.size ≤ wH.heap.size) := Nat.le_refl _) | skip))
            | (go_at_call 8; (with_reducible refine (toPlan_as A2 c2 Q0 Q _ HQe HQl.out HTQ HC2.out ?_).mono ?_); (first | exact Kd.C_below HQ.out (below_step HB.out HBp.out) | exact Kd.C_below HQ.out (below_alloc (below_step HB.out HBp.out) _) | fail); rintro e wq ⟨vq, rfl, hoq, hbq⟩; obtain ⟨Aq, cq, eq⟩ := Kd.S_slice hoq; subst eq; have HBpq : Hid (Below wp.heap.size wp wq) := (by first | exact hbq | exact below_step (below_alloc (Below.refl _ _) _) hbq); have HBq : Hid (Below wH.heap.size wH wq) := below_step HBp.out HBpq.out; (first | (have hg6 : wq.heap[wp.heap.size]? = some (.cells #[.slice none 0 0] 28 (0, 0)) := new_blk hbq; have hc6 : wq.cell? ⟨wp.heap.size, 0, none⟩ = some (.slice none 0 0) := (blk_cell hg6 0).trans rfl; have hf6 : wq.frozen? ⟨wp.heap.size, 0, none⟩ = false := blk_frozen hg6 0; have HG6 : Hid (wH.heap.size ≤ wp.heap.size) := HBp.out.size) | (have hg6 : wq.heap[wH.heap.size]? = some (.cells #[.slice none 0 0] 28 (0, 0)) := blk_below hg6 hbq; have hc6 : wq.cell? ⟨wH.heap.size, 0, none⟩ = some (.slice none 0 0) := (blk_cell hg6 0).trans rfl; have hf6 : wq.frozen? ⟨wH.heap.size, 0, none⟩ = false := blk_frozen hg6 0; have HG6 : Hid (wH.heap.size ≤ wH.heap.size) := Nat.le_refl _) | skip))
            | (go_at_call 9; (with_reducible refine (implJoin_any tb toff _ _ cp cq P Q _ ?_ (by have := SP.out.len; omega) (by have := SQ.out.len; omega) ?_ ?_).mono ?_); (first | exact HT.out.below (below_step HB.out HBq.out) | exact HT.out.below (below_alloc (below_step HB.out HBq.out) _) | fail); (first | exact Kd.C_below (Kd.S_reads' hop).2.2 HBpq.out | exact Kd.C_alloc (Kd.C_below (Kd.S_reads' hop).2.2 HBpq.out) _ | fail); (first | exact (Kd.S_reads' hoq).2.2 | exact Kd.C_alloc (Kd.S_reads' hoq).2.2 _ | fail); rintro e wj hj; obtain ⟨vj, rfl, hoj, hbj⟩ := JP.of HRe.out HKe.out hj; obtain ⟨Aj, cj, ej⟩ := Kd.S_slice hoj; subst ej; clear hj; have HBj : Hid (Below wH.heap.size wH wj) := (by first | exact below_step HBq.out hbj | exact below_step (below_alloc HBq.out _) hbj); (first | (have hg6 : wj.heap[wq.heap.size]? = some (.cells #[.slice none 0 0] 28 (0, 0)) := new_blk hbj; have hc6 : wj.cell? ⟨wq.heap.size, 0, none⟩ = some (.slice none 0 0) := (blk_cell hg6 0).trans rfl; have hf6 : wj.frozen? ⟨wq.heap.size, 0, none⟩ = false := blk_frozen hg6 0; have HG6 : Hid (wH.heap.size ≤ wq.heap.size) := HBq.out.size) | (have hg6 : wj.heap[wp.heap.size]? = some (.cells #[.slice none 0 0] 28 (0, 0)) := blk_below hg6 hbj; have hc6 : wj.cell? ⟨wp.heap.size, 0, none⟩ = some (.slice none 0 0) := (blk_cell hg6 0).trans rfl; have hf6 : wj.frozen? ⟨wp.heap.size, 0, none⟩ = false := blk_frozen hg6 0; have HG6 : Hid (wH.heap.size ≤ wp.heap.size) := HBp.out.size) | (have hg6 : wj.heap[wH.heap.size]? = some (.cells #[.slice none 0 0] 28 (0, 0)) := blk_below hg6 hbj; have hc6 : wj.cell? ⟨wH.heap.size, 0, none⟩ = some (.slice none 0 0) := (blk_cell hg6 0).trans rfl; have hf6 : wj.frozen? ⟨wH.heap.size, 0, none⟩ = false := blk_frozen hg6 0; have HG6 : Hid (wH.heap.size ≤ wH.heap.size) := Nat.le_refl _) | skip))
            | fail)
          all_goals
            go_wp2_with fail
            go_meet
            have HO : Hid (Kd.S k53 53 wj wH.heap.size (fun _ => True) (.slice Aj R.length cj) R) := Kd.S_lower hoj (by first | exact HBq.out.size | exact (below_alloc HBq.out _).size | fail)
            first
              | exact ⟨_, _, rfl, rfl, blk_put hg6 0 _ rfl, Kd.S_set HO.out hg6 (by decide) 0 _, below_set HBj.out HG6.out⟩
              | exact ⟨_, _, rfl, rfl, blk_new _ _, Kd.S_alloc HO.out _, below_alloc HBj.out _⟩
        case rest =>
          obtain ⟨wI, rfl⟩ : ∃ X, X = wc := ⟨_, rfl⟩
          obtain ⟨g15, v15, rfl, rfl, BK15, O15, HBn⟩ := hcut
          obtain ⟨A15, c15, e15⟩ := Kd.S_slice O15.out
          subst e15
          clear m2 m3 l2 l3
          replace M2 := Lib.hid (cell_below M2.out HBn.out)
          replace M3 := Lib.hid (cell_below M3.out HBn.out)
          replace BK6 := Lib.hid (blk_below BK6.out HBn.out)
          replace O6 := Lib.hid (Kd.S_below O6.out HBn.out)
          replace BK8 := Lib.hid (blk_below BK8.out HBn.out)
          replace O8 := Lib.hid (Kd.S_below O8.out HBn.out)
          replace BK9 := Lib.hid (blk_below BK9.out HBn.out)
          replace O9 := Lib.hid (Kd.S_below O9.out HBn.out)
          replace BK10 := Lib.hid (blk_below BK10.out HBn.out)
          replace O10 := Lib.hid (Kd.S_below O10.out HBn.out)
          replace HB := Lib.hid (below_step HB.out HBn.out)
          have x15 : wI.cell? ⟨g15, 0, none⟩ = some (.slice A15 R.length c15) := (blk_cell BK15.out 0).trans rfl
          have x6 : wI.cell? ⟨g6, 0, none⟩ = some (.slice A6 R.length c6) := (blk_cell BK6.out 0).trans rfl
          clear HBn
          go_wp2_with fail
          refine (eqPlan_same A15 A6 c15 c6 R _ SR'.out.1 HTr (Kd.S_reads' O15.out).2.1 (Kd.S_reads' O6.out).2.1 (Kd.S_reads' O15.out).2.2 (Kd.S_reads' O6.out).2.2).mono ?_
          rintro e wJ ⟨rfl, hb⟩
          have HBn := Lib.hid hb
          clear hb
          replace M2 := Lib.hid (cell_below M2.out HBn.out)
          replace M3 := Lib.hid (cell_below M3.out HBn.out)
          replace BK6 := Lib.hid (blk_below BK6.out HBn.out)
          replace O6 := Lib.hid (Kd.S_below O6.out HBn.out)
          replace BK8 := Lib.hid (blk_below BK8.out HBn.out)
          replace O8 := Lib.hid (Kd.S_below O8.out HBn.out)
          replace BK9 := Lib.hid (blk_below BK9.out HBn.out)
          replace O9 := Lib.hid (Kd.S_below O9.out HBn.out)
          replace BK10 := Lib.hid (blk_below BK10.out HBn.out)
          replace O10 := Lib.hid (Kd.S_below O10.out HBn.out)
          replace BK15 := Lib.hid (blk_below BK15.out HBn.out)
          replace O15 := Lib.hid (Kd.S_below O15.out HBn.out)
          replace HB := Lib.hid (below_step HB.out HBn.out)
          have x10 : wJ.cell? ⟨w5.heap.size, 0, none⟩ = some (.slice A10 R.length c10) := (blk_cell BK10.out 0).trans rfl
          clear x15 x6 HBn
          go_wp2_with fail
          refine (heldPlan_any A10 c10 R _ (by have := SR'.out.2.2; omega) (by have := SR'.out.1; omega) (Kd.S_reads' O10.out).2.1 (by have h9 := (Kd.S_reads' O10.out).2.2; rwa [mkS_length] at h9)).mono ?_
          rintro e wK ⟨he, hb⟩
          rw [HK3.out] at he
          subst he
          have HBn := Lib.hid hb
          clear hb
          replace M2 := Lib.hid (cell_below M2.out HBn.out)
          replace M3 := Lib.hid (cell_below M3.out HBn.out)
          replace BK6 := Lib.hid (blk_below BK6.out HBn.out)
          replace O6 := Lib.hid (Kd.S_below O6.out HBn.out)
          replace BK8 := Lib.hid (blk_below BK8.out HBn.out)
          replace O8 := Lib.hid (Kd.S_below O8.out HBn.out)
          replace BK9 := Lib.hid (blk_below BK9.out HBn.out)
          replace O9 := Lib.hid (Kd.S_below O9.out HBn.out)
          replace BK10 := Lib.hid (blk_below BK10.out HBn.out)
          replace O10 := Lib.hid (Kd.S_below O10.out HBn.out)
          replace BK15 := Lib.hid (blk_below BK15.out HBn.out)
          replace O15 := Lib.hid (Kd.S_below O15.out HBn.out)
          replace HB := Lib.hid (below_step HB.out HBn.out)
          clear x10
          go_wp2_with fail
          go_ret
          exact ⟨rfl, HB.out⟩
end Go.Proofs.YtdleofaikjkndaaDoor
