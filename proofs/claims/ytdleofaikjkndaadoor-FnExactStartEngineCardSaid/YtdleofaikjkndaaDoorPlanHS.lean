/- The walks of both StartEngines: an engine of the plan's own copy, with a hold for each step. -/
import Derived.Test.YtdleofaikjkndaaDoorPlanHE
import Derived.Deep.RegionLaw
import Derived.Test.YtdleofaikjkndaaDoorWLast
namespace Go.Proofs.YtdleofaikjkndaaDoor
open Go.RowKit Go.Proofs.YtdleofaikjkndaaDoorW.PrintWords Go.Proofs.YtdleofaikjkndaaDoorW.PrintLast Go.Proofs.YtdleofaikjkndaaDoor.PFnExactJoinPlans

/-- The cells of a row of holds as it is made. -/
def holdCells (n : Nat) : Array Value := madeCells #[.int .i64 0, .slice none 0 0] (n * 2)
theorem run_holds (n : Nat) (hn : n ≤ 1048576) (W : World) : (Instr.makeSlice 35 (.int .i64 (n : Int)) (.int .i64 (n : Int))).run Tryd.prog W = .ok (.slice (some ⟨W.heap.size, 0, none⟩) n n) (W.alloc (.cells (holdCells n) 77)) := by
  obtain ⟨i0, hi, hzz⟩ := Option.map_eq_some_iff.1 info_hold
  simp only [Prod.mk.injEq] at hzz
  obtain ⟨hz0, hz1, hz2⟩ := hzz
  have hr := run_make (P := Tryd.prog) W 35 77 i0 _ Tryd.underlying35 hi hz0 .i64 .i64 (n : Int) (n : Int) (by omega) (by omega) (by rw [hz2]; omega) (by omega)
  simp only [Int.toNat_natCast] at hr
  rw [hz1] at hr
  exact hr
theorem hold_new (n : Nat) (hn : n ≤ 1048576) (W : World) : Kd.S kH 77 (W.alloc (.cells (holdCells n) 77)) W.heap.size (fun q => some q = (Value.slice (some ⟨W.heap.size, 0, none⟩) n n).ownBlock) (.slice (some ⟨W.heap.size, 0, none⟩) n n) (List.replicate n 0) := by
  refine Kd.S_bare ⟨fun k hk => hk.symm, (holdCells n).toList, ?_, ?_⟩
  · have h2 := World.ownsRow_lit (base := W.heap.size) (e := 77) (size := 2) W (holdCells n) n (Nat.le_refl _) (by unfold maxLen; omega) (by simp [holdCells, size_madeCells])
    rw [List.length_replicate]
    exact h2
  · exact Kd.reps_made (z := .agg #[.int .i64 0, .slice none 0 0]) (z0 := (0 : Int)) rfl (by decide) rfl n

/-- An engine of one's own: its steps and its holds lie apart. -/
def EngAt (w : World) (base : Nat) (v u : Value) (R : List S53) (n : Nat) : Prop :=
  Kd.S k53 53 w base (fun q => some q ≠ u.ownBlock) v R ∧ Kd.S kH 77 w base (fun q => some q = u.ownBlock) u (List.replicate n 0)
theorem eng_pm {W wp wm : World} {base n : Nat} {v u : Value} {P : List S53} (hbase : base ≤ W.heap.size) (hop : Kd.S k53 53 wp W.heap.size (fun _ => True) v P) (hbp : W.heap.size ≤ wp.heap.size) (hom : Kd.S kH 77 wm wp.heap.size (fun q => some q = u.ownBlock) u (List.replicate n 0)) (hbm : Below wp.heap.size wp wm) : EngAt wm base v u P n :=
  ⟨Kd.S_mono (Kd.S_below (Kd.S_lower (Kd.S_bound hop) hbase) hbm) (fun q hq e => by have h1 := hq.2.2.1; have h2 := Kd.S_base hom q e.symm; omega), Kd.S_lower hom (Nat.le_trans hbase hbp)⟩
theorem eng_mp {W wp wm : World} {base n : Nat} {v u : Value} {P : List S53} (hbase : base ≤ W.heap.size) (hom : Kd.S kH 77 wm W.heap.size (fun q => some q = u.ownBlock) u (List.replicate n 0)) (hbm : Below W.heap.size W wm) (hop : Kd.S k53 53 wp wm.heap.size (fun _ => True) v P) (hbp : Below wm.heap.size wm wp) : EngAt wp base v u P n :=
  ⟨Kd.S_mono (Kd.S_lower (Kd.S_bound hop) (Nat.le_trans hbase hbm.size)) (fun q hq e => by have h1 := hq.2.1; have h2 := Kd.S_lt hom q e.symm; omega), Kd.S_below (Kd.S_lower hom hbase) hbp⟩
theorem EngAt.below {w w1 : World} {base n : Nat} {v u : Value} {R : List S53} (h : EngAt w base v u R n) (hb : Below w.heap.size w w1) : EngAt w1 base v u R n := ⟨Kd.S_below h.1 hb, Kd.S_below h.2 hb⟩
theorem EngAt.lower {w : World} {base base' n : Nat} {v u : Value} {R : List S53} (h : EngAt w base v u R n) (hb : base' ≤ base) : EngAt w base' v u R n := ⟨Kd.S_lower h.1 hb, Kd.S_lower h.2 hb⟩
/-- Two cells of an engine's block stored. -/
def put2 (w : World) (g : Nat) (a b : Value) : World := (w.setCell ⟨g, 0, none⟩ a).setCell ⟨g, 1, none⟩ b
theorem put2_put {w : World} {g : Nat} {t : TypeId} {x0 x1 : Value} (h : w.heap[g]? = some (.cells #[x0, x1] t (0, 0))) (a b : Value) : (put2 w g a b).heap[g]? = some (.cells #[a, b] t (0, 0)) :=
  blk_put (cs := #[a, x1]) (blk_put (cs := #[x0, x1]) h 0 a rfl) 1 b rfl
theorem put2_below {w W : World} {g : Nat} (h : Below w.heap.size w W) (hg : w.heap.size ≤ g) (a b : Value) : Below w.heap.size w (put2 W g a b) := below_set (below_set h hg) hg
theorem EngAt.put2 {w : World} {base n g : Nat} {v u x0 x1 : Value} {R : List S53} (h : EngAt w base v u R n) (hg : w.heap[g]? = some (.cells #[x0, x1] 37 (0, 0))) (a b : Value) : EngAt (put2 w g a b) base v u R n := by
  have h1 : (w.setCell ⟨g, 0, none⟩ a).heap[g]? = some (.cells #[a, x1] 37 (0, 0)) := blk_put (cs := #[x0, x1]) hg 0 a rfl
  exact ⟨Kd.S_set (Kd.S_set h.1 hg (by decide) 0 a) h1 (by decide) 1 b, Kd.S_set (Kd.S_set h.2 hg (by decide) 0 a) h1 (by decide) 1 b⟩

theorem put2_size (w : World) (g : Nat) (a b : Value) : (put2 w g a b).heap.size = w.heap.size := by simp [put2, World.setCell]
/-- Steps made, the engine's cells stored, the holds made behind. -/
theorem eng_last {W wp : World} {base g n : Nat} {v x0 x1 : Value} {P : List S53} (hbase : base ≤ W.heap.size) (hop : Kd.S k53 53 wp W.heap.size (fun _ => True) v P) (hsz : W.heap.size ≤ wp.heap.size) (hg : wp.heap[g]? = some (.cells #[x0, x1] 37 (0, 0))) (hn : n ≤ 1048576) :
    EngAt ((put2 wp g v (.slice (some ⟨wp.heap.size, 0, none⟩) n n)).alloc (.cells (holdCells n) 77)) base v (.slice (some ⟨wp.heap.size, 0, none⟩) n n) P n ∧ ((put2 wp g v (.slice (some ⟨wp.heap.size, 0, none⟩) n n)).alloc (.cells (holdCells n) 77)).heap[g]? = some (.cells #[v, .slice (some ⟨wp.heap.size, 0, none⟩) n n] 37 (0, 0)) := by
  have h1 : (wp.setCell ⟨g, 0, none⟩ v).heap[g]? = some (.cells #[v, x1] 37 (0, 0)) := blk_put (cs := #[x0, x1]) hg 0 v rfl
  have hop2 : Kd.S k53 53 (put2 wp g v (.slice (some ⟨wp.heap.size, 0, none⟩) n n)) W.heap.size (fun _ => True) v P := Kd.S_set (Kd.S_set hop hg (by decide) 0 v) h1 (by decide) 1 _
  have hE := eng_pm (base := base) hbase hop2 (by rw [put2_size]; exact hsz) (hold_new n hn _) (below_alloc (Below.refl _ _) _)
  rw [put2_size] at hE
  exact ⟨hE, blk_below (put2_put hg _ _) (below_alloc (Below.refl _ _) _)⟩
theorem keepE {w w1 : World} {p g : Nat} {x a b : Value} {t : TypeId} (h1 : w.cell? ⟨p, 0, none⟩ = some x) (h2 : w.heap[g]? = some (.cells #[a, b] t (0, 0))) (hb : Below w.heap.size w w1) :
    w1.cell? ⟨p, 0, none⟩ = some x ∧ w1.heap[g]? = some (.cells #[a, b] t (0, 0)) ∧ w1.cell? ⟨g, 0, none⟩ = some a ∧ w1.cell? ⟨g, 1, none⟩ = some b ∧ w1.frozen? ⟨g, 0, none⟩ = false ∧ w1.frozen? ⟨g, 1, none⟩ = false :=
  ⟨cell_below h1 hb, blk_below h2 hb, (blk_cell (blk_below h2 hb) 0).trans rfl, (blk_cell (blk_below h2 hb) 1).trans rfl, blk_frozen (blk_below h2 hb) 0, blk_frozen (blk_below h2 hb) 1⟩

def EngRet (P : List S53) (w : World) (e : Ending) (w' : World) : Prop := ∃ v u : Value, e = .returned (.agg #[v, u]) ∧ EngAt w' w.heap.size v u P P.length ∧ Below w.heap.size w w'
set_option maxRecDepth 100000 in
set_option maxHeartbeats 8000000 in
theorem l08Start_any (p : Nat) (A : Option Addr) (c : Nat) (P : List S53) (w : World) (hp : w.cell? ⟨p, 0, none⟩ = some (.slice A P.length c)) (hc : P.length ≤ c) (hPl : P.length ≤ 1048576) (HT : Hid (∀ s ∈ P, s.f3.length ≤ 1048576)) (HR : Hid (Kd.C k53 w A P.length P)) :
    Calls Tryd.prog 30 #[.pointer (some ⟨p, 0, none⟩)] w (EngRet P w) := by
  go_enter Tryd.func30, Tryd.ntmps30
  go_wp2_with fail
  have hB0 : Below w.heap.size w (w.alloc (.cells #[.slice none 0 0, .slice none 0 0] 37)) := below_alloc (Below.refl _ _) _
  have b1 : (w.alloc (.cells #[.slice none 0 0, .slice none 0 0] 37)).heap[w.heap.size]? = some (.cells #[.slice none 0 0, .slice none 0 0] 37 (0, 0)) := blk_new _ _
  generalize hW : w.alloc (.cells #[.slice none 0 0, .slice none 0 0] 37) = W at *
  clear hW
  obtain ⟨p1, _, q0, q1, f0, f1⟩ := keepE (cell_below hp hB0) b1 (Below.refl _ _)
  have HB := Lib.hid hB0
  have B1 := Lib.hid b1
  clear hB0 b1 hp
  obtain ⟨KP, KG⟩ : Hid (W.drew.cell? ⟨p, 0, none⟩ = some (.slice A P.length c)) ∧ Hid (W.drew.heap[w.heap.size]? = some (.cells #[.slice none 0 0, .slice none 0 0] 37 (0, 0))) := ⟨p1, B1.out⟩
  have hmake := run_holds P.length hPl
  have hlp := lt_of_cell p1
  have hlg := lt_of_cell q0
  go_region_law (first
    | (refine goes_ (N := some 7) Tryd.func22 (by kernel_rfl) rfl #[.slice A P.length c] (by simp [Region.wanted]) rfl rfl (by (try simp only [List.map_toArray, List.map_cons, List.map_nil]); rfl) ?_; (with_reducible refine (l07Own_any A c P _ hPl HT hc ?_).mono ?_); (first | exact Kd.C_below HR.out (below_drew HB.out) | exact Kd.C_below HR.out (below_alloc (below_drew HB.out) _) | fail); rintro e wp ⟨vp, rfl, hop, hbp⟩; refine ⟨_, rfl, ?_⟩; obtain ⟨Ap, cp, ep⟩ := Kd.S_slice hop; subst ep; obtain ⟨ap, bp, a0, a1, af0, af1⟩ := keepE (by first | exact KP.out | exact cell_below KP.out (below_alloc (Below.refl _ _) _)) (by first | exact KG.out | exact blk_below KG.out (below_alloc (Below.refl _ _) _)) hbp; have al := lt_of_cell ap; have gl := lt_of_cell a0)
    | fail)
  all_goals
    go_wp2_with fail
    first
      | (obtain ⟨hE, hg⟩ := eng_last (base := w.heap.size) (below_drew HB.out).size hop hbp.size bp hPl
         refine bodyPost_ret (results_cell_row rfl _ _ w.heap.size 37 #[.slice Ap P.length cp, .slice (some ⟨wp.heap.size, 0, none⟩) P.length P.length] (0, 0) _ rfl hg Tryd.underlying37 rfl (by kernel_rfl)) rfl ?_
         exact ⟨_, _, rfl, hE, below_alloc (put2_below (below_step (below_drew HB.out) hbp) (Nat.le_refl _) _ _) _⟩)
      | (have hE := eng_mp (base := w.heap.size) (below_drew HB.out).size (hold_new P.length hPl _) (below_alloc (Below.refl _ _) _) hop hbp
         refine bodyPost_ret (results_cell_row rfl _ _ w.heap.size 37 #[.slice Ap P.length cp, _] (0, 0) _ rfl (put2_put bp _ _) Tryd.underlying37 rfl (by kernel_rfl)) rfl ?_
         exact ⟨_, _, rfl, hE.put2 bp _ _, put2_below (below_step (below_alloc (below_drew HB.out) _) hbp) (Nat.le_refl _) _ _⟩)

def startSteps (P : List S53) : List S53 := if vPlan P then P else []
def startN (P : List S53) : Nat := if vPlan P then P.length else 0
def startCode (P : List S53) : Int := if vPlan P then 0 else 1
def EngPost (R : List S53) (n : Nat) (K : Int) (w : World) (e : Ending) (w' : World) : Prop := ∃ v u : Value, e = .returned (.tuple #[.agg #[v, u], .int .i64 K]) ∧ EngAt w' w.heap.size v u R n ∧ Below w.heap.size w w'
theorem eng_bad {P : List S53} {w w' : World} {e : Ending} (h : vPlan P = false) (he : e = .returned (.tuple #[.agg #[.slice none 0 0, .slice none 0 0], .int .i64 1])) (hb : Below w.heap.size w w') : EngPost (startSteps P) (startN P) (startCode P) w e w' := by
  unfold startSteps startN startCode
  rw [h]
  exact ⟨_, _, he, ⟨Kd.S_nil _ _ _ _ _, Kd.S_nil _ _ _ _ _⟩, hb⟩
theorem eng_good {P : List S53} {w w' : World} {e : Ending} {v u : Value} (h : vPlan P = true) (he : e = .returned (.tuple #[.agg #[v, u], .int .i64 0])) (hE : EngAt w' w.heap.size v u P P.length) (hb : Below w.heap.size w w') : EngPost (startSteps P) (startN P) (startCode P) w e w' := by
  unfold startSteps startN startCode
  rw [h]
  exact ⟨_, _, he, hE, hb⟩

set_option maxRecDepth 100000 in
set_option maxHeartbeats 8000000 in
theorem specStart_any (A : Option Addr) (c : Nat) (P : List S53) (w : World) (hc : P.length ≤ c) (hPl : P.length ≤ 1048576) (HP : Hid (Kd.C k53 w A P.length P)) :
    Calls Tryd.prog 13 #[.agg #[.slice A P.length c]] w (EngPost (startSteps P) (startN P) (startCode P) w) := by
  go_enter Tryd.func13, Tryd.ntmps13
  go_wp2_with fail
  obtain ⟨hB0, b1, b2, hs⟩ := two_blocks w #[.slice A P.length c] #[.slice none 0 0, .slice none 0 0] 28 37
  generalize hW : (w.alloc (.cells #[.slice A P.length c] 28)).alloc (.cells #[.slice none 0 0, .slice none 0 0] 37) = W at *
  clear hW
  obtain ⟨p1, _, _, _, _, _⟩ := keepE ((blk_cell b1 0).trans rfl : W.cell? ⟨w.heap.size, 0, none⟩ = some (.slice A P.length c)) b2 (Below.refl _ _)
  have HB := Lib.hid hB0
  have B2 := Lib.hid b2
  clear hB0 b1 b2 hs
  cases hvp : vPlan P with
  | false =>
    have HV := Lib.hid hvp
    clear hvp
    refine (l07Ok_any _ A c P _ p1 (Lib.hid (Kd.C_below HP.out HB.out))).mono ?_
    rintro e w1 ⟨he, hb⟩
    rw [HV.out] at he
    subst he
    obtain ⟨_, b, q0, q1, f0, f1⟩ := keepE p1 B2.out hb
    have HB1 := Lib.hid (below_step HB.out hb)
    clear hb
    go_wp2_with fail
    refine bodyPost_ret (v := .tuple #[.agg #[.slice none 0 0, .slice none 0 0], .int .i64 1]) (by simp [results, Tryd.results13, go_sem, q0, q1]) rfl (eng_bad HV.out rfl (put2_below HB1.out (by omega) _ _))
  | true =>
    have HV := Lib.hid hvp
    have HTP := Lib.hid (valid_taps hvp)
    clear hvp
    refine (l07Ok_any _ A c P _ p1 (Lib.hid (Kd.C_below HP.out HB.out))).mono ?_
    rintro e w1 ⟨he, hb⟩
    rw [HV.out] at he
    subst he
    have p2 := cell_below p1 hb
    have P2 := Lib.hid p2
    have B3 := Lib.hid (blk_below B2.out hb)
    have HB1 := Lib.hid (below_step HB.out hb)
    clear hb p1 B2
    go_wp2_with fail
    refine (l08Start_any _ A c P _ P2.out hc hPl HTP (Lib.hid (Kd.C_below HP.out HB1.out))).mono ?_
    rintro e w2 ⟨v, u, rfl, hE, hb⟩
    obtain ⟨_, b, q0, q1, f0, f1⟩ := keepE p2 B3.out hb
    have HB2 := Lib.hid (below_step HB1.out hb)
    have HE := Lib.hid (hE.lower HB1.out.size)
    have B4 := Lib.hid b
    clear hb hE p2 b
    obtain ⟨A1, c1, e1⟩ := Kd.S_slice HE.out.1
    obtain ⟨A2, c2, e2⟩ := Kd.S_slice HE.out.2
    rw [List.length_replicate] at e2
    subst e1 e2
    go_wp2_with fail
    refine bodyPost_ret (v := .tuple #[.agg #[.slice A1 P.length c1, .slice A2 P.length c2], .int .i64 0]) (by simp [results, Tryd.results13, go_sem, q0, q1]) rfl (eng_good HV.out rfl (HE.out.put2 B4.out _ _) (put2_below HB2.out (by omega) _ _))

set_option maxRecDepth 100000 in
set_option maxHeartbeats 8000000 in
theorem implStart_any (tb toff : Nat) (A : Option Addr) (c : Nat) (P : List S53) (w : World) (HF : Hid (FormTab w tb toff)) (hPl : P.length ≤ 1048576) (HP : Hid (Kd.C k53 w A P.length P)) :
    Calls Tryd.prog 14 #[.agg #[.slice A P.length c]] w (EngPost (startSteps P) (startN P) (startCode P) w) := by
  go_enter Tryd.func14, Tryd.ntmps14
  go_wp2_with fail
  obtain ⟨hB0, b1, b2, hs⟩ := two_blocks w #[.slice A P.length c] #[.slice none 0 0, .slice none 0 0] 28 37
  generalize hW : (w.alloc (.cells #[.slice A P.length c] 28)).alloc (.cells #[.slice none 0 0, .slice none 0 0] 37) = W at *
  clear hW
  obtain ⟨p1, _, _, _, _, _⟩ := keepE ((blk_cell b1 0).trans rfl : W.cell? ⟨w.heap.size, 0, none⟩ = some (.slice A P.length c)) b2 (Below.refl _ _)
  have HB := Lib.hid hB0
  have B2 := Lib.hid b2
  clear hB0 b1 b2 hs
  cases hvp : vPlan P with
  | false =>
    have HV := Lib.hid hvp
    clear hvp
    refine (validPlan_any tb toff _ _ _ _ (Lib.hid (HF.out.below HB.out)) (Lib.hid (Kd.C_below HP.out HB.out))).mono ?_
    rintro e w1 ⟨he, hb⟩
    rw [HV.out] at he
    subst he
    obtain ⟨_, b, q0, q1, f0, f1⟩ := keepE p1 B2.out hb
    have HB1 := Lib.hid (below_step HB.out hb)
    clear hb
    go_wp2_with fail
    refine bodyPost_ret (v := .tuple #[.agg #[.slice none 0 0, .slice none 0 0], .int .i64 1]) (by simp [results, Tryd.results14, go_sem, q0, q1]) rfl (eng_bad HV.out rfl (put2_below HB1.out (by omega) _ _))
  | true =>
    have HV := Lib.hid hvp
    have HTP := Lib.hid (valid_taps hvp)
    clear hvp
    refine (validPlan_any tb toff _ _ _ _ (Lib.hid (HF.out.below HB.out)) (Lib.hid (Kd.C_below HP.out HB.out))).mono ?_
    rintro e w1 ⟨he, hb⟩
    rw [HV.out] at he
    subst he
    obtain ⟨p2, b, q0, q1, f0, f1⟩ := keepE p1 B2.out hb
    have B3 := Lib.hid b
    have HB1 := Lib.hid (below_step HB.out hb)
    clear hb p1 B2 b
    go_wp2_with fail
    obtain ⟨KP, KG⟩ : Hid (w1.drew.cell? ⟨w.heap.size, 0, none⟩ = some (.slice A P.length c)) ∧ Hid (w1.drew.heap[w.heap.size + 1]? = some (.cells #[.slice none 0 0, .slice none 0 0] 37 (0, 0))) := ⟨p2, B3.out⟩
    have hmake := run_holds P.length hPl
    have hlp := lt_of_cell p2
    have hlg := lt_of_cell q0
    go_region_law (first
      | (refine goes_ (N := some 9) Tryd.func26 (by kernel_rfl) rfl #[.agg #[.slice A P.length c]] (by simp [Region.wanted]) rfl rfl (by (try simp only [List.map_toArray, List.map_cons, List.map_nil]); rfl) ?_; (with_reducible refine (clone_any A c P _ hPl HTP ?_).mono ?_); (first | exact Kd.C_below HP.out (below_drew HB1.out) | exact Kd.C_below HP.out (below_alloc (below_drew HB1.out) _) | fail); rintro e wp ⟨vp, rfl, hop, hbp⟩; refine ⟨_, rfl, ?_⟩; obtain ⟨Ap, cp, ep⟩ := Kd.S_slice hop; subst ep; obtain ⟨ap, bp, a0, a1, af0, af1⟩ := keepE (by first | exact KP.out | exact cell_below KP.out (below_alloc (Below.refl _ _) _)) (by first | exact KG.out | exact blk_below KG.out (below_alloc (Below.refl _ _) _)) hbp; have al := lt_of_cell ap; have gl := lt_of_cell a0)
      | fail)
    all_goals
      go_wp2_with fail
      first
        | (obtain ⟨hE, hg⟩ := eng_last (base := w.heap.size) (below_drew HB1.out).size hop hbp.size bp hPl
           have m0 := (blk_cell hg 0).trans rfl
           have m1 := (blk_cell hg 1).trans rfl
           have HE := Lib.hid hE
           clear hE hg
           refine bodyPost_ret (v := .tuple #[.agg #[.slice Ap P.length cp, .slice (some ⟨wp.heap.size, 0, none⟩) P.length P.length], .int .i64 0]) (by unfold put2 at m0 m1; simp [results, Tryd.results14, go_sem, m0, m1]) rfl (eng_good HV.out rfl HE.out (below_alloc (put2_below (below_step (below_drew HB1.out) hbp) (by omega) _ _) _)))
        | (have hE := eng_mp (base := w.heap.size) (below_drew HB1.out).size (hold_new P.length hPl _) (below_alloc (Below.refl _ _) _) hop hbp
           refine bodyPost_ret (v := .tuple #[.agg #[.slice Ap P.length cp, .slice (some ⟨w1.drew.heap.size, 0, none⟩) P.length P.length], .int .i64 0]) (by simp [results, Tryd.results14, go_sem, a0, a1]) rfl (eng_good HV.out rfl (hE.put2 bp _ _) (put2_below (below_step (below_alloc (below_drew HB1.out) _) hbp) (by omega) _ _)))
end Go.Proofs.YtdleofaikjkndaaDoor
