/- The walk of the law FnExactStartEngine: it returns true. -/
import Derived.Test.YtdleofaikjkndaaDoorPlanHS
import Derived.Test.YtdleofaikjkndaaDoorPlanLJ
namespace Go.Proofs.YtdleofaikjkndaaDoor
open Go.RowKit Go.Proofs.YtdleofaikjkndaaDoorW.PrintWords Go.Proofs.YtdleofaikjkndaaDoor.PFnExactJoinPlans

theorem EngPost.as {P R : List S53} {n : Nat} {K : Int} {w w' : World} {e : Ending} (hR : startSteps P = R) (hN : startN P = n) (hK : startCode P = K) (h : EngPost (startSteps P) (startN P) (startCode P) w e w') : EngPost R n K w e w' := by
  subst hR hN hK
  exact h
theorem EngAt.bound {w : World} {base n : Nat} {v u : Value} {R : List S53} (h : EngAt w base v u R n) :
    Kd.S k53 53 w base (fun q => base ≤ q ∧ q < w.heap.size ∧ some q ≠ u.ownBlock) v R ∧ Kd.S kH 77 w base (fun q => base ≤ q ∧ q < w.heap.size ∧ some q = u.ownBlock) u (List.replicate n 0) :=
  ⟨Kd.S_mono (Kd.S_bound h.1) (fun _ hq => ⟨hq.2.1, hq.2.2.1, hq.1⟩), Kd.S_mono (Kd.S_bound h.2) (fun _ hq => ⟨hq.2.1, hq.2.2.1, hq.1⟩)⟩
theorem kept_range {w w' : World} {lo hi : Nat} {u : Value} (h : Kept w w' (fun q => (lo ≤ q ∧ q < hi ∧ some q ≠ u.ownBlock) ∨ (lo ≤ q ∧ q < hi ∧ some q = u.ownBlock))) : Kept w w' (fun q => lo ≤ q ∧ q < hi) :=
  ⟨h.1, fun k hk hn => h.2 k hk (fun e => hn (by rcases e with e | e <;> exact ⟨e.1, e.2.1⟩))⟩
theorem eqEngine_as {base1 base2 : Nat} {k1 k2 g1 g2 : Nat → Prop} (A1 A2 B1 B2 : Option Addr) (c1 c2 d1 d2 : Nat) (R : List S53) (n : Nat) (w : World) (hS : R.length ≤ 1048576) (HT : Hid (∀ s ∈ R, s.f3.length ≤ 1048576)) (hn : n ≤ 1048576)
    (O1 : Kd.S k53 53 w base1 k1 (.slice A1 R.length c1) R) (O2 : Kd.S k53 53 w base2 k2 (.slice A2 R.length c2) R) (G1 : Kd.S kH 77 w base1 g1 (.slice B1 n d1) (List.replicate n 0)) (G2 : Kd.S kH 77 w base2 g2 (.slice B2 n d2) (List.replicate n 0)) :
    Calls Tryd.prog 15 #[.agg #[.slice A1 R.length c1, .slice B1 n d1], .agg #[.slice A2 R.length c2, .slice B2 n d2]] w fun e w' => e = .returned (.bool true) ∧ Below w.heap.size w w' := by
  have h := eqEngine_same A1 A2 B1 B2 c1 c2 d1 d2 R (List.replicate n 0) w hS HT (by rw [List.length_replicate]; omega) (Kd.S_reads' O1).2.1 (Kd.S_reads' O2).2.1 (Kd.S_reads' O1).2.2 (Kd.S_reads' O2).2.2 (Kd.S_reads' G1).2.2 (Kd.S_reads' G2).2.2
  rwa [List.length_replicate] at h
theorem markEngine_as (R : List S53) (n k : Nat) (ok1 ok2 : Nat → Prop) (v u : Value) (base : Nat) (w : World) (hk : k + tot R + n ≤ 1000000000) (hl : R.length ≤ 2000000) (hb : base ≤ w.heap.size) (hd : ∀ q, ok1 q → ok2 q → False) (hl1 : ∀ q, ok1 q → q < w.heap.size) (hl2 : ∀ q, ok2 q → q < w.heap.size)
    (ho : Kd.S k53 53 w base ok1 v R) (hh : Kd.S kH 77 w base ok2 u (List.replicate n 0)) :
    Calls Tryd.prog 16 #[.agg #[v, u], .int .i64 k] w (MarkedE R n k ok1 ok2 v u base w) := by
  have h := markEngine_base R (List.replicate n 0) k ok1 ok2 v u base w (by rw [List.length_replicate]; exact hk) hl hb hd hl1 hl2 ho hh
  rwa [List.length_replicate] at h
theorem heldEngine_as {base : Nat} {k1 g1 : Nat → Prop} (A B : Option Addr) (c d : Nat) (R : List S53) (n : Nat) (w : World) (hk : 1 + tot R + n ≤ 1000000000) (hl : R.length ≤ 2000000)
    (O : Kd.S k53 53 w base k1 (.slice A R.length c) (mkS 1 R)) (G : Kd.S kH 77 w base g1 (.slice B n d) (ints (1 + tot R) n)) :
    Calls Tryd.prog 17 #[.agg #[.slice A R.length c, .slice B n d], .int .i64 1] w fun e w' => e = .returned (.int .i64 ((1 + tot R + n : Nat) : Int)) ∧ Below w.heap.size w w' := by
  have h1 := Kd.S_reads' O
  have h2 := Kd.S_reads' G
  have hC := h1.2.2
  have hG := h2.2.2
  rw [mkS_length] at hC
  rw [ints_length] at hG
  exact heldEngine_any A B c d R n w hk hl h1.2.1 h2.2.1 hC hG
theorem start_small {P : List S53} (hP : Small P) : ((startSteps P).length ≤ 1048576 ∧ (∀ s ∈ startSteps P, s.f3.length ≤ 1048576) ∧ tot (startSteps P) ≤ 20000000) ∧ startN P ≤ 1048576 := by
  unfold startSteps startN
  split
  · exact ⟨⟨hP.len, hP.taps, by have := hP.tot; omega⟩, hP.len⟩
  · exact ⟨⟨by simp, fun s hs => absurd hs (by simp), by simp [tot]⟩, by omega⟩

set_option maxRecDepth 100000 in
set_option maxHeartbeats 40000000 in
theorem lawStart_any (tb toff : Nat) (A1 : Option Addr) (c1 : Nat) (P0 : List S63) (w : World) (HT : Hid (FormTab w tb toff)) (hc1 : P0.length ≤ c1) (HP : Hid (Kd.C k63 w A1 P0.length P0)) :
    Calls Tryd.prog 4 #[.agg #[.slice A1 P0.length c1]] w fun e w' => e = .returned (.bool true) ∧ Below w.heap.size w w' := by
  have HC1 := Lib.hid hc1
  clear hc1
  go_enter Tryd.func4, Tryd.ntmps4
  go_wp2_with fail
  generalize hW : w.alloc (.cells #[.slice A1 P0.length c1] 24) = W
  have hB0 : Below w.heap.size w W := by rw [← hW]; exact below_alloc (Below.refl _ _) _
  have b2 : W.cell? ⟨w.heap.size, 0, none⟩ = some (.slice A1 P0.length c1) := by rw [← hW]; simp
  have HB0 := Lib.hid hB0
  have B2 := Lib.hid b2
  clear hW hB0 b2
  refine (szPlan_any A1 c1 P0 1048576 _ (by omega) (by omega) HC1.out (Kd.C_below HP.out HB0.out)).mono ?_
  rintro e w1 ⟨r1, rfl, hr1, hb1⟩
  have M2 := Lib.hid (cell_below B2.out hb1)
  have HB := Lib.hid (below_step HB0.out hb1)
  clear hb1 B2 HB0
  rcases hr1 with ⟨hneg, rfl⟩ | ⟨h0, hsum1⟩
  · go_wp2_with fail
    go_ret
    exact ⟨rfl, HB.out⟩
  have hr1I : ¬ (r1 < 0) := by omega
  have hPl : P0.length ≤ 1048576 := by omega
  have hbd : P0.length + tapSum P0 ≤ 1048576 := by omega
  have HTP : Hid (∀ s ∈ P0, s.f3.length ≤ 1048576) := fun s hs => by have := tapSum_mem hs; omega
  have sP := small_conv (P0 := P0) (by omega)
  obtain ⟨P, hPe⟩ : ∃ P, P0.map conv = P := ⟨_, rfl⟩
  rw [hPe] at sP
  obtain ⟨R, hRe⟩ : ∃ R, startSteps P = R := ⟨_, rfl⟩
  obtain ⟨n, hNe⟩ : ∃ n, startN P = n := ⟨_, rfl⟩
  obtain ⟨K0, hKe⟩ : ∃ K, startCode P = K := ⟨_, rfl⟩
  have sR := start_small sP
  rw [hRe, hNe] at sR
  obtain ⟨sR1, sR2⟩ := sR
  have SP := Lib.hid sP
  have SR' := Lib.hid sR1
  have HNl := Lib.hid sR2
  have HPe := Lib.hid hPe
  have HRe := Lib.hid hRe
  have HNe := Lib.hid hNe
  have HKe := Lib.hid hKe
  have HTp : Hid (∀ s ∈ P, s.f3.length ≤ 1048576) := sP.taps
  have HTr : Hid (∀ s ∈ R, s.f3.length ≤ 1048576) := sR1.2.1
  obtain ⟨k1, HK1⟩ : ∃ k, Hid (1 + tot P = k) := ⟨_, rfl⟩
  obtain ⟨k3, HK3⟩ : ∃ k, Hid (1 + tot R + n = k) := ⟨_, rfl⟩
  have HPl := Lib.hid hPl
  have WLE : Hid (w.heap.size < w1.heap.size) := lt_of_cell M2.out
  clear sP sR1 sR2 hPe hRe hNe hKe hsum1 hbd hPl h0
  have m2 := M2.out
  go_wp2_with fail
  refine (toPlan_as A1 c1 P0 P _ HPe HPl.out HTP HC1.out (Kd.C_below HP.out HB.out)).mono ?_
  rintro e w2 ⟨v3, rfl, ho, hb⟩
  obtain ⟨A3, c3, e3⟩ := Kd.S_slice ho
  subst e3
  have HO3 := Lib.hid ho
  have hz3 : w1.heap.size ≤ w2.heap.size := hb.size
  have HBn := Lib.hid hb
  clear ho hb
  replace M2 := Lib.hid (cell_below M2.out HBn.out)
  replace HB := Lib.hid (below_step HB.out HBn.out)
  clear m2
  go_wp2_with fail
  refine (specStart_any A3 c3 P _ (Kd.S_reads' HO3.out).2.1 (by have := SP.out.len; omega) (Lib.hid (Kd.S_reads' HO3.out).2.2)).mono ?_
  rintro e w3 hj
  obtain ⟨v4, u4, rfl, hE, hb⟩ := EngPost.as HRe.out HNe.out HKe.out hj
  obtain ⟨ho, hg⟩ := hE.bound
  obtain ⟨A4, c4, e1⟩ := Kd.S_slice ho
  obtain ⟨B4, d4, e2⟩ := Kd.S_slice hg
  rw [List.length_replicate] at e2
  subst e1 e2
  have HO4 := Lib.hid ho
  have HG4 := Lib.hid hg
  have hz4 : w2.heap.size ≤ w3.heap.size := hb.size
  have HBn := Lib.hid hb
  clear ho hg hb hj hE
  replace M2 := Lib.hid (cell_below M2.out HBn.out)
  replace HB := Lib.hid (below_step HB.out HBn.out)
  have m2 := M2.out
  have l2 : w.heap.size < w3.heap.size := lt_of_cell m2
  clear HO3
  go_wp2_with fail
  generalize hW : w3.alloc (.cells #[.slice A4 R.length c4, .slice B4 n d4] 37) = W4
  have hal : Below w3.heap.size w3 W4 := by rw [← hW]; exact below_alloc (Below.refl _ _) _
  have hsz4 : W4.heap.size = w3.heap.size + 1 := by rw [← hW]; simp
  have BK4 : Hid (W4.heap[w3.heap.size]? = some (.cells #[.slice A4 R.length c4, .slice B4 n d4] 37 (0, 0))) := by unfold Hid; rw [← hW]; exact blk_new _ _
  have HA := Lib.hid hal
  clear hW hal
  replace M2 := Lib.hid (cell_below M2.out HA.out)
  replace HB := Lib.hid (below_step HB.out HA.out)
  have O4 := Lib.hid (Kd.S_below HO4.out HA.out)
  have G4 := Lib.hid (Kd.S_below HG4.out HA.out)
  clear HO4 HG4 HBn HA
  clear m2 l2
  refine (toPlan_as A1 c1 P0 P _ HPe HPl.out HTP HC1.out (Kd.C_below HP.out HB.out)).mono ?_
  rintro e w5 ⟨v6, rfl, ho, hb⟩
  obtain ⟨A6, c6, e6⟩ := Kd.S_slice ho
  subst e6
  have HO6 := Lib.hid ho
  have hz6 : W4.heap.size ≤ w5.heap.size := hb.size
  have HBn := Lib.hid hb
  clear ho hb
  replace M2 := Lib.hid (cell_below M2.out HBn.out)
  replace BK4 := Lib.hid (blk_below BK4.out HBn.out)
  replace O4 := Lib.hid (Kd.S_below O4.out HBn.out)
  replace G4 := Lib.hid (Kd.S_below G4.out HBn.out)
  replace HB := Lib.hid (below_step HB.out HBn.out)
  have x4 : w5.cell? ⟨w3.heap.size, 0, none⟩ = some (.slice A4 R.length c4) := (blk_cell BK4.out 0).trans rfl
  have y4 : w5.cell? ⟨w3.heap.size, 1, none⟩ = some (.slice B4 n d4) := (blk_cell BK4.out 1).trans rfl
  have lx4 : w3.heap.size < w5.heap.size := lt_of_cell x4
  clear x4 y4 lx4
  go_wp2_with fail
  generalize hW : w5.alloc (.cells #[.slice A6 P.length c6] 28) = W5
  have hal : Below w5.heap.size w5 W5 := by rw [← hW]; exact below_alloc (Below.refl _ _) _
  have hsz6 : W5.heap.size = w5.heap.size + 1 := by rw [← hW]; simp
  have BK6 : Hid (W5.heap[w5.heap.size]? = some (.cells #[.slice A6 P.length c6] 28 (0, 0))) := by unfold Hid; rw [← hW]; exact blk_new _ _
  have HA := Lib.hid hal
  clear hW hal
  replace M2 := Lib.hid (cell_below M2.out HA.out)
  replace BK4 := Lib.hid (blk_below BK4.out HA.out)
  replace O4 := Lib.hid (Kd.S_below O4.out HA.out)
  replace G4 := Lib.hid (Kd.S_below G4.out HA.out)
  replace HB := Lib.hid (below_step HB.out HA.out)
  have O6 : Hid (Kd.S k53 53 W5 W4.heap.size (fun q => W4.heap.size ≤ q ∧ q < w5.heap.size) (.slice A6 P.length c6) P) := Kd.S_mono (Kd.S_below (Kd.S_bound HO6.out) HA.out) (fun q hq => ⟨hq.2.1, hq.2.2.1⟩)
  clear HO6 HBn HA
  refine (implStart_any tb toff A6 c6 P _ (Lib.hid (HT.out.below HB.out)) (by have := SP.out.len; omega) (Lib.hid (Kd.S_reads' O6.out).2.2)).mono ?_
  rintro e w6 hj
  obtain ⟨v7, u7, rfl, hE, hb⟩ := EngPost.as HRe.out HNe.out HKe.out hj
  obtain ⟨ho, hg⟩ := hE.bound
  obtain ⟨A7, c7, e1⟩ := Kd.S_slice ho
  obtain ⟨B7, d7, e2⟩ := Kd.S_slice hg
  rw [List.length_replicate] at e2
  subst e1 e2
  have HO7 := Lib.hid ho
  have HG7 := Lib.hid hg
  have hz7 : W5.heap.size ≤ w6.heap.size := hb.size
  have HBn := Lib.hid hb
  clear ho hg hb hj hE
  replace M2 := Lib.hid (cell_below M2.out HBn.out)
  replace BK4 := Lib.hid (blk_below BK4.out HBn.out)
  replace O4 := Lib.hid (Kd.S_below O4.out HBn.out)
  replace G4 := Lib.hid (Kd.S_below G4.out HBn.out)
  replace BK6 := Lib.hid (blk_below BK6.out HBn.out)
  replace O6 := Lib.hid (Kd.S_below O6.out HBn.out)
  replace HB := Lib.hid (below_step HB.out HBn.out)
  have x4 : w6.cell? ⟨w3.heap.size, 0, none⟩ = some (.slice A4 R.length c4) := (blk_cell BK4.out 0).trans rfl
  have y4 : w6.cell? ⟨w3.heap.size, 1, none⟩ = some (.slice B4 n d4) := (blk_cell BK4.out 1).trans rfl
  have lx4 : w3.heap.size < w6.heap.size := lt_of_cell x4
  go_wp2_with fail
  generalize hW : w6.alloc (.cells #[.slice A7 R.length c7, .slice B7 n d7] 37) = W6
  have hal : Below w6.heap.size w6 W6 := by rw [← hW]; exact below_alloc (Below.refl _ _) _
  have hsz7 : W6.heap.size = w6.heap.size + 1 := by rw [← hW]; simp
  have BK7 : Hid (W6.heap[w6.heap.size]? = some (.cells #[.slice A7 R.length c7, .slice B7 n d7] 37 (0, 0))) := by unfold Hid; rw [← hW]; exact blk_new _ _
  have HA := Lib.hid hal
  clear hW hal
  replace M2 := Lib.hid (cell_below M2.out HA.out)
  replace BK4 := Lib.hid (blk_below BK4.out HA.out)
  replace O4 := Lib.hid (Kd.S_below O4.out HA.out)
  replace G4 := Lib.hid (Kd.S_below G4.out HA.out)
  replace BK6 := Lib.hid (blk_below BK6.out HA.out)
  replace O6 := Lib.hid (Kd.S_below O6.out HA.out)
  replace HB := Lib.hid (below_step HB.out HA.out)
  have O7 := Lib.hid (Kd.S_below HO7.out HA.out)
  have G7 := Lib.hid (Kd.S_below HG7.out HA.out)
  clear HO7 HG7 HBn HA
  clear x4 y4 lx4
  refine (eqEngine_as A7 A4 B7 B4 c7 c4 d7 d4 R n _ SR'.out.1 HTr HNl.out O7.out O4.out G7.out G4.out).mono ?_
  rintro e w7 ⟨rfl, hb⟩
  have HBn := Lib.hid hb
  clear hb
  replace M2 := Lib.hid (cell_below M2.out HBn.out)
  replace BK4 := Lib.hid (blk_below BK4.out HBn.out)
  replace O4 := Lib.hid (Kd.S_below O4.out HBn.out)
  replace G4 := Lib.hid (Kd.S_below G4.out HBn.out)
  replace BK6 := Lib.hid (blk_below BK6.out HBn.out)
  replace O6 := Lib.hid (Kd.S_below O6.out HBn.out)
  replace BK7 := Lib.hid (blk_below BK7.out HBn.out)
  replace O7 := Lib.hid (Kd.S_below O7.out HBn.out)
  replace G7 := Lib.hid (Kd.S_below G7.out HBn.out)
  replace HB := Lib.hid (below_step HB.out HBn.out)
  have x6 : w7.cell? ⟨w5.heap.size, 0, none⟩ = some (.slice A6 P.length c6) := (blk_cell BK6.out 0).trans rfl
  have m2 := M2.out
  have lx6 : w5.heap.size < w7.heap.size := lt_of_cell x6
  clear HBn
  go_wp2_with fail
  go_cut [45] (fun s wx => s = .bool false ∧ Hid (Below w7.heap.size w7 wx))
  case first =>
    go_region_with (first
      | (go_at_call 8; (with_reducible refine (toPlan_as A1 c1 P0 P _ HPe HPl.out HTP HC1.out ?_).mono ?_); exact Kd.C_below HP.out (below_drew HB.out); rintro e wp ⟨vp, rfl, hop, hbp⟩; obtain ⟨Ap, cp, ep⟩ := Kd.S_slice hop; subst ep; have z6 : wp.cell? ⟨w5.heap.size, 0, none⟩ = some (.slice A6 P.length c6) := cell_below (w := w7.drew) x6 hbp)
      | (go_at_call 10; (with_reducible refine (eqPlan_same A6 Ap c6 cp P _ SP.out.len HTp (Kd.S_reads' O6.out).2.1 (Kd.S_reads' hop).2.1 ?_ (Kd.S_reads' hop).2.2).mono ?_); exact (Kd.S_reads' (Kd.S_below O6.out (below_step (below_drew (Below.refl _ _)) hbp))).2.2; rintro e wq ⟨rfl, hbq⟩)
      | fail)
    all_goals
      go_wp2_with fail
      go_meet
      exact ⟨rfl, below_step (below_step (below_drew (Below.refl _ _)) hbp) hbq⟩
  case rest =>
    obtain ⟨wB, rfl⟩ : ∃ X, X = wc := ⟨_, rfl⟩
    obtain ⟨rfl, HBn⟩ := hcut
    clear m2 x6 lx6
    replace M2 := Lib.hid (cell_below M2.out HBn.out)
    replace BK4 := Lib.hid (blk_below BK4.out HBn.out)
    replace O4 := Lib.hid (Kd.S_below O4.out HBn.out)
    replace G4 := Lib.hid (Kd.S_below G4.out HBn.out)
    replace BK6 := Lib.hid (blk_below BK6.out HBn.out)
    replace O6 := Lib.hid (Kd.S_below O6.out HBn.out)
    replace BK7 := Lib.hid (blk_below BK7.out HBn.out)
    replace O7 := Lib.hid (Kd.S_below O7.out HBn.out)
    replace G7 := Lib.hid (Kd.S_below G7.out HBn.out)
    replace HB := Lib.hid (below_step HB.out HBn.out)
    have x6 : wB.cell? ⟨w5.heap.size, 0, none⟩ = some (.slice A6 P.length c6) := (blk_cell BK6.out 0).trans rfl
    clear HBn
    go_wp2_with fail
    have hle : W4.heap.size ≤ wB.heap.size := by have := (blk_lt BK6.out); omega
    have hwle : w.heap.size ≤ W4.heap.size := by have := WLE.out; omega
    refine (markPlan_base P 1 _ _ W4.heap.size _ (by have := SP.out.tot; omega) (by have := SP.out.len; omega) hle O6.out).mono ?_
    rintro e wC ⟨he, ho, hb0, hk⟩
    rw [HK1.out] at he
    subst he
    have HOn := Lib.hid ho
    have HB0n := Lib.hid hb0
    have HK := Lib.hid hk
    clear ho hb0 hk hle
    replace M2 := Lib.hid (cell_kept M2.out HK.out (by intro h; have h0 := WLE.out; have h1 := h.1; (try simp only at h1); omega))
    replace BK4 := Lib.hid (blk_kept BK4.out HK.out (by intro h; have h1 := h.1; have h2 := h.2; omega))
    replace O4 := Lib.hid (Kd.S_kept O4.out HK.out (by intro q hq h; have h4 := hq.1; have h1 := h.1; have h2 := h.2; have h5 := hq.2.1; omega))
    replace G4 := Lib.hid (Kd.S_kept G4.out HK.out (by intro q hq h; have h4 := hq.1; have h1 := h.1; have h2 := h.2; have h5 := hq.2.1; omega))
    replace BK6 := Lib.hid (blk_kept BK6.out HK.out (by intro h; have h1 := h.1; have h2 := h.2; omega))
    replace BK7 := Lib.hid (blk_kept BK7.out HK.out (by intro h; have h1 := h.1; have h2 := h.2; omega))
    replace O7 := Lib.hid (Kd.S_kept O7.out HK.out (by intro q hq h; have h4 := hq.1; have h1 := h.1; have h2 := h.2; have h5 := hq.2.1; omega))
    replace G7 := Lib.hid (Kd.S_kept G7.out HK.out (by intro q hq h; have h4 := hq.1; have h1 := h.1; have h2 := h.2; have h5 := hq.2.1; omega))
    replace O6 := HOn
    clear HOn
    replace HB := Lib.hid (HB.out.trans (HB0n.out.mono hwle))
    clear HB0n HK hwle x6
    have x7 : wC.cell? ⟨w6.heap.size, 0, none⟩ = some (.slice A7 R.length c7) := (blk_cell BK7.out 0).trans rfl
    have y7 : wC.cell? ⟨w6.heap.size, 1, none⟩ = some (.slice B7 n d7) := (blk_cell BK7.out 1).trans rfl
    have x4 : wC.cell? ⟨w3.heap.size, 0, none⟩ = some (.slice A4 R.length c4) := (blk_cell BK4.out 0).trans rfl
    have y4 : wC.cell? ⟨w3.heap.size, 1, none⟩ = some (.slice B4 n d4) := (blk_cell BK4.out 1).trans rfl
    have hk1 : ¬ ((k1 : Int) < 0) := by omega
    go_wp2_with fail
    refine (eqEngine_as A7 A4 B7 B4 c7 c4 d7 d4 R n _ SR'.out.1 HTr HNl.out O7.out O4.out G7.out G4.out).mono ?_
    rintro e wD ⟨rfl, hb⟩
    have HBn := Lib.hid hb
    clear hb
    replace M2 := Lib.hid (cell_below M2.out HBn.out)
    replace BK4 := Lib.hid (blk_below BK4.out HBn.out)
    replace O4 := Lib.hid (Kd.S_below O4.out HBn.out)
    replace G4 := Lib.hid (Kd.S_below G4.out HBn.out)
    replace BK6 := Lib.hid (blk_below BK6.out HBn.out)
    replace O6 := Lib.hid (Kd.S_below O6.out HBn.out)
    replace BK7 := Lib.hid (blk_below BK7.out HBn.out)
    replace O7 := Lib.hid (Kd.S_below O7.out HBn.out)
    replace G7 := Lib.hid (Kd.S_below G7.out HBn.out)
    replace HB := Lib.hid (below_step HB.out HBn.out)
    clear x7 y7 x4 y4 hk1 HBn
    have x7 : wD.cell? ⟨w6.heap.size, 0, none⟩ = some (.slice A7 R.length c7) := (blk_cell BK7.out 0).trans rfl
    have y7 : wD.cell? ⟨w6.heap.size, 1, none⟩ = some (.slice B7 n d7) := (blk_cell BK7.out 1).trans rfl
    go_wp2_with fail
    have hle : W5.heap.size ≤ wD.heap.size := by have := (blk_lt BK7.out); omega
    have hlt : w6.heap.size ≤ wD.heap.size := by have := (blk_lt BK7.out); omega
    have hwle : w.heap.size ≤ W5.heap.size := by have := WLE.out; omega
    refine (markEngine_as R n 1 _ _ _ _ W5.heap.size _ (by have := SR'.out.2.2; have := HNl.out; omega) (by have := SR'.out.1; omega) hle (fun q h1 h2 => h1.2.2 h2.2.2) (fun q hq => by have := hq.2.1; omega) (fun q hq => by have := hq.2.1; omega) O7.out G7.out).mono ?_
    rintro e wE ⟨he, ho, hg, hb0, hk⟩
    rw [HK3.out] at he
    subst he
    have HOn := Lib.hid ho
    have HGn := Lib.hid hg
    have HB0n := Lib.hid hb0
    have HK := Lib.hid (kept_range hk)
    clear ho hg hb0 hk hle hlt
    replace M2 := Lib.hid (cell_kept M2.out HK.out (by intro h; have h0 := WLE.out; have h1 := h.1; (try simp only at h1); omega))
    replace BK4 := Lib.hid (blk_kept BK4.out HK.out (by intro h; have h1 := h.1; have h2 := h.2; omega))
    replace O4 := Lib.hid (Kd.S_kept O4.out HK.out (by intro q hq h; have h4 := hq.1; have h1 := h.1; have h2 := h.2; have h5 := hq.2.1; omega))
    replace G4 := Lib.hid (Kd.S_kept G4.out HK.out (by intro q hq h; have h4 := hq.1; have h1 := h.1; have h2 := h.2; have h5 := hq.2.1; omega))
    replace BK6 := Lib.hid (blk_kept BK6.out HK.out (by intro h; have h1 := h.1; have h2 := h.2; omega))
    replace O6 := Lib.hid (Kd.S_kept O6.out HK.out (by intro q hq h; have h4 := hq.1; have h1 := h.1; have h2 := h.2; have h5 := hq.2; omega))
    replace BK7 := Lib.hid (blk_kept BK7.out HK.out (by intro h; have h1 := h.1; have h2 := h.2; omega))
    replace O7 := HOn
    replace G7 := HGn
    clear HOn HGn
    replace HB := Lib.hid (HB.out.trans (HB0n.out.mono hwle))
    clear HB0n HK hwle x7 y7
    have x7 : wE.cell? ⟨w6.heap.size, 0, none⟩ = some (.slice A7 R.length c7) := (blk_cell BK7.out 0).trans rfl
    have y7 : wE.cell? ⟨w6.heap.size, 1, none⟩ = some (.slice B7 n d7) := (blk_cell BK7.out 1).trans rfl
    go_wp2_with fail
    refine (heldEngine_as A7 B7 c7 d7 R n _ (by have := SR'.out.2.2; have := HNl.out; omega) (by have := SR'.out.1; omega) O7.out G7.out).mono ?_
    rintro e wF ⟨he, hb⟩
    rw [HK3.out] at he
    subst he
    have HBn := Lib.hid hb
    clear hb
    replace M2 := Lib.hid (cell_below M2.out HBn.out)
    replace BK4 := Lib.hid (blk_below BK4.out HBn.out)
    replace O4 := Lib.hid (Kd.S_below O4.out HBn.out)
    replace G4 := Lib.hid (Kd.S_below G4.out HBn.out)
    replace BK6 := Lib.hid (blk_below BK6.out HBn.out)
    replace O6 := Lib.hid (Kd.S_below O6.out HBn.out)
    replace BK7 := Lib.hid (blk_below BK7.out HBn.out)
    replace O7 := Lib.hid (Kd.S_below O7.out HBn.out)
    replace G7 := Lib.hid (Kd.S_below G7.out HBn.out)
    replace HB := Lib.hid (below_step HB.out HBn.out)
    clear x7 y7 HBn
    have hk3 : ¬ ((k3 : Int) < 0) := by omega
    have m2 := M2.out
    go_wp2_with fail
    refine (toPlan_as A1 c1 P0 P _ HPe HPl.out HTP HC1.out (Kd.C_below HP.out HB.out)).mono ?_
    rintro e wG ⟨v11, rfl, ho, hb⟩
    obtain ⟨A11, c11, e11⟩ := Kd.S_slice ho
    subst e11
    have HO11 := Lib.hid ho
    have hz11 : wF.heap.size ≤ wG.heap.size := hb.size
    have HBn := Lib.hid hb
    clear ho hb
    replace M2 := Lib.hid (cell_below M2.out HBn.out)
    replace BK4 := Lib.hid (blk_below BK4.out HBn.out)
    replace O4 := Lib.hid (Kd.S_below O4.out HBn.out)
    replace G4 := Lib.hid (Kd.S_below G4.out HBn.out)
    replace BK6 := Lib.hid (blk_below BK6.out HBn.out)
    replace O6 := Lib.hid (Kd.S_below O6.out HBn.out)
    replace BK7 := Lib.hid (blk_below BK7.out HBn.out)
    replace O7 := Lib.hid (Kd.S_below O7.out HBn.out)
    replace G7 := Lib.hid (Kd.S_below G7.out HBn.out)
    replace HB := Lib.hid (below_step HB.out HBn.out)
    clear m2
    go_wp2_with fail
    refine (implStart_any tb toff A11 c11 P _ (Lib.hid (HT.out.below HB.out)) (by have := SP.out.len; omega) (Lib.hid (Kd.S_reads' HO11.out).2.2)).mono ?_
    rintro e wH hj
    obtain ⟨v12, u12, rfl, hE, hb⟩ := EngPost.as HRe.out HNe.out HKe.out hj
    obtain ⟨ho, hg⟩ := hE.bound
    obtain ⟨A12, c12, e1⟩ := Kd.S_slice ho
    obtain ⟨B12, d12, e2⟩ := Kd.S_slice hg
    rw [List.length_replicate] at e2
    subst e1 e2
    have HO12 := Lib.hid ho
    have HG12 := Lib.hid hg
    have hz12 : wG.heap.size ≤ wH.heap.size := hb.size
    have HBn := Lib.hid hb
    clear ho hg hb hj hE
    replace M2 := Lib.hid (cell_below M2.out HBn.out)
    replace BK4 := Lib.hid (blk_below BK4.out HBn.out)
    replace O4 := Lib.hid (Kd.S_below O4.out HBn.out)
    replace G4 := Lib.hid (Kd.S_below G4.out HBn.out)
    replace BK6 := Lib.hid (blk_below BK6.out HBn.out)
    replace O6 := Lib.hid (Kd.S_below O6.out HBn.out)
    replace BK7 := Lib.hid (blk_below BK7.out HBn.out)
    replace O7 := Lib.hid (Kd.S_below O7.out HBn.out)
    replace G7 := Lib.hid (Kd.S_below G7.out HBn.out)
    replace HB := Lib.hid (below_step HB.out HBn.out)
    have x4 : wH.cell? ⟨w3.heap.size, 0, none⟩ = some (.slice A4 R.length c4) := (blk_cell BK4.out 0).trans rfl
    have y4 : wH.cell? ⟨w3.heap.size, 1, none⟩ = some (.slice B4 n d4) := (blk_cell BK4.out 1).trans rfl
    have lx4 : w3.heap.size < wH.heap.size := lt_of_cell x4
    clear HO11
    go_wp2_with fail
    generalize hW : wH.alloc (.cells #[.slice A12 R.length c12, .slice B12 n d12] 37) = W12
    have hal : Below wH.heap.size wH W12 := by rw [← hW]; exact below_alloc (Below.refl _ _) _
    have hsz12 : W12.heap.size = wH.heap.size + 1 := by rw [← hW]; simp
    have BK12 : Hid (W12.heap[wH.heap.size]? = some (.cells #[.slice A12 R.length c12, .slice B12 n d12] 37 (0, 0))) := by unfold Hid; rw [← hW]; exact blk_new _ _
    have HA := Lib.hid hal
    clear hW hal
    replace M2 := Lib.hid (cell_below M2.out HA.out)
    replace BK4 := Lib.hid (blk_below BK4.out HA.out)
    replace O4 := Lib.hid (Kd.S_below O4.out HA.out)
    replace G4 := Lib.hid (Kd.S_below G4.out HA.out)
    replace BK6 := Lib.hid (blk_below BK6.out HA.out)
    replace O6 := Lib.hid (Kd.S_below O6.out HA.out)
    replace BK7 := Lib.hid (blk_below BK7.out HA.out)
    replace O7 := Lib.hid (Kd.S_below O7.out HA.out)
    replace G7 := Lib.hid (Kd.S_below G7.out HA.out)
    replace HB := Lib.hid (below_step HB.out HA.out)
    have O12 := Lib.hid (Kd.S_below HO12.out HA.out)
    have G12 := Lib.hid (Kd.S_below HG12.out HA.out)
    clear HO12 HG12 HBn HA
    clear x4 y4 lx4
    refine (eqEngine_as A12 A4 B12 B4 c12 c4 d12 d4 R n _ SR'.out.1 HTr HNl.out O12.out O4.out G12.out G4.out).mono ?_
    rintro e wI ⟨rfl, hb⟩
    have HBn := Lib.hid hb
    clear hb
    replace M2 := Lib.hid (cell_below M2.out HBn.out)
    replace BK4 := Lib.hid (blk_below BK4.out HBn.out)
    replace O4 := Lib.hid (Kd.S_below O4.out HBn.out)
    replace G4 := Lib.hid (Kd.S_below G4.out HBn.out)
    replace BK6 := Lib.hid (blk_below BK6.out HBn.out)
    replace O6 := Lib.hid (Kd.S_below O6.out HBn.out)
    replace BK7 := Lib.hid (blk_below BK7.out HBn.out)
    replace O7 := Lib.hid (Kd.S_below O7.out HBn.out)
    replace G7 := Lib.hid (Kd.S_below G7.out HBn.out)
    replace BK12 := Lib.hid (blk_below BK12.out HBn.out)
    replace O12 := Lib.hid (Kd.S_below O12.out HBn.out)
    replace G12 := Lib.hid (Kd.S_below G12.out HBn.out)
    replace HB := Lib.hid (below_step HB.out HBn.out)
    clear HBn
    have x7 : wI.cell? ⟨w6.heap.size, 0, none⟩ = some (.slice A7 R.length c7) := (blk_cell BK7.out 0).trans rfl
    have y7 : wI.cell? ⟨w6.heap.size, 1, none⟩ = some (.slice B7 n d7) := (blk_cell BK7.out 1).trans rfl
    go_wp2_with fail
    refine (heldEngine_as A7 B7 c7 d7 R n _ (by have := SR'.out.2.2; have := HNl.out; omega) (by have := SR'.out.1; omega) O7.out G7.out).mono ?_
    rintro e wJ ⟨he, hb⟩
    rw [HK3.out] at he
    subst he
    have HBn := Lib.hid hb
    clear hb
    replace M2 := Lib.hid (cell_below M2.out HBn.out)
    replace BK4 := Lib.hid (blk_below BK4.out HBn.out)
    replace O4 := Lib.hid (Kd.S_below O4.out HBn.out)
    replace G4 := Lib.hid (Kd.S_below G4.out HBn.out)
    replace BK6 := Lib.hid (blk_below BK6.out HBn.out)
    replace O6 := Lib.hid (Kd.S_below O6.out HBn.out)
    replace BK7 := Lib.hid (blk_below BK7.out HBn.out)
    replace O7 := Lib.hid (Kd.S_below O7.out HBn.out)
    replace G7 := Lib.hid (Kd.S_below G7.out HBn.out)
    replace BK12 := Lib.hid (blk_below BK12.out HBn.out)
    replace O12 := Lib.hid (Kd.S_below O12.out HBn.out)
    replace G12 := Lib.hid (Kd.S_below G12.out HBn.out)
    replace HB := Lib.hid (below_step HB.out HBn.out)
    clear x7 y7
    go_wp2_with fail
    go_ret
    exact ⟨rfl, HB.out⟩
end Go.Proofs.YtdleofaikjkndaaDoor
