/- An engine that holds nothing: compared, marked, held against its marks. -/
import Derived.Test.YtdleofaikjkndaaDoorPlanH
namespace Go.Proofs.YtdleofaikjkndaaDoor
open Go.RowKit Go.Proofs.YtdleofaikjkndaaDoorW.PrintWords Go.Proofs.YtdleofaikjkndaaDoor.PFnExactJoinPlans

theorem two_blocks (w : World) (xs ys : Array Value) (t u : TypeId) : Below w.heap.size w ((w.alloc (.cells xs t)).alloc (.cells ys u)) ∧ ((w.alloc (.cells xs t)).alloc (.cells ys u)).heap[w.heap.size]? = some (.cells xs t (0, 0)) ∧ ((w.alloc (.cells xs t)).alloc (.cells ys u)).heap[w.heap.size + 1]? = some (.cells ys u (0, 0)) ∧ ((w.alloc (.cells xs t)).alloc (.cells ys u)).heap.size = w.heap.size + 2 := by
  refine ⟨below_alloc (below_alloc (Below.refl _ _) _) _, blk_below (blk_new _ _) (below_alloc (Below.refl _ _) _), ?_, by simp⟩
  have e : w.heap.size + 1 = (w.alloc (.cells xs t)).heap.size := by simp
  rw [e]
  exact blk_new _ _

set_option maxRecDepth 100000 in
set_option maxHeartbeats 4000000 in
theorem eqEngine_same (A1 A2 B1 B2 : Option Addr) (c1 c2 d1 d2 : Nat) (S : List S53) (xs : List Int) (w : World) (hS : S.length ≤ 1048576) (HT : Hid (∀ s ∈ S, s.f3.length ≤ 1048576)) (hx : xs.length ≤ 2000000) (h1 : S.length ≤ c1) (h2 : S.length ≤ c2)
    (H1 : Kd.C k53 w A1 S.length S) (H2 : Kd.C k53 w A2 S.length S) (G1 : Kd.C kH w B1 xs.length xs) (G2 : Kd.C kH w B2 xs.length xs) :
    Calls Tryd.prog 15 #[.agg #[.slice A1 S.length c1, .slice B1 xs.length d1], .agg #[.slice A2 S.length c2, .slice B2 xs.length d2]] w fun e w' => e = .returned (.bool true) ∧ Below w.heap.size w w' := by
  have HR1 := Lib.hid H1
  have HR2 := Lib.hid H2
  have HG1 := Lib.hid G1
  have HG2 := Lib.hid G2
  clear H1 H2 G1 G2
  go_enter Tryd.func15, Tryd.ntmps15
  go_wp2_with fail
  obtain ⟨hB0, b1, b2, _⟩ := two_blocks w #[.slice A1 S.length c1, .slice B1 xs.length d1] #[.slice A2 S.length c2, .slice B2 xs.length d2] 37 37
  generalize hW : (w.alloc (.cells #[.slice A1 S.length c1, .slice B1 xs.length d1] 37)).alloc (.cells #[.slice A2 S.length c2, .slice B2 xs.length d2] 37) = W at *
  clear hW
  have HB0 := Lib.hid hB0
  have BK1 := Lib.hid b1
  have BK2 := Lib.hid b2
  clear hB0 b1 b2
  refine (eqPlan_same A1 A2 c1 c2 S _ hS HT h1 h2 (Kd.C_below HR1.out HB0.out) (Kd.C_below HR2.out HB0.out)).mono ?_
  rintro e w1 ⟨rfl, hb⟩
  have x1 : w1.cell? ⟨w.heap.size, 1, none⟩ = some (.slice B1 xs.length d1) := (blk_cell (blk_below BK1.out hb) 1).trans rfl
  have x2 : w1.cell? ⟨w.heap.size + 1, 1, none⟩ = some (.slice B2 xs.length d2) := (blk_cell (blk_below BK2.out hb) 1).trans rfl
  have HB1 := Lib.hid (below_step HB0.out hb)
  clear hb
  go_wp2_with fail
  refine (eqHolds_same B1 B2 d1 d2 xs _ hx (Kd.C_below HG1.out HB1.out) (Kd.C_below HG2.out HB1.out)).mono ?_
  rintro e w2 ⟨rfl, hb⟩
  go_wp2_with fail
  go_ret
  exact ⟨rfl, below_step HB1.out hb⟩

def MarkedE (S : List S53) (n k : Nat) (ok1 ok2 : Nat → Prop) (v u : Value) (base : Nat) (w : World) (e : Ending) (w' : World) : Prop :=
  e = .returned (.int .i64 ((k + tot S + n : Nat) : Int)) ∧ Kd.S k53 53 w' base ok1 v (mkS k S) ∧ Kd.S kH 77 w' base ok2 u (ints (k + tot S) n) ∧ Below base w w' ∧ Kept w w' (fun q => ok1 q ∨ ok2 q)
set_option maxRecDepth 100000 in
set_option maxHeartbeats 4000000 in
theorem markEngine_base (S : List S53) (xs : List Int) (k : Nat) (ok1 ok2 : Nat → Prop) (v u : Value) (base : Nat) (w : World) (hk : k + tot S + xs.length ≤ 1000000000) (hl : S.length ≤ 2000000) (hb : base ≤ w.heap.size) (hd : ∀ q, ok1 q → ok2 q → False) (hl1 : ∀ q, ok1 q → q < w.heap.size) (hl2 : ∀ q, ok2 q → q < w.heap.size)
    (ho : Kd.S k53 53 w base ok1 v S) (hh : Kd.S kH 77 w base ok2 u xs) :
    Calls Tryd.prog 16 #[.agg #[v, u], .int .i64 k] w (MarkedE S xs.length k ok1 ok2 v u base w) := by
  obtain ⟨A, c, rfl⟩ := Kd.S_slice ho
  obtain ⟨B, d, rfl⟩ := Kd.S_slice hh
  have HO := Lib.hid ho
  have HH := Lib.hid hh
  have HD := Lib.hid hd
  have HL1 := Lib.hid hl1
  have HL2 := Lib.hid hl2
  clear ho hh hd hl1 hl2
  go_enter Tryd.func16, Tryd.ntmps16
  go_wp2_with fail
  have b1 : (w.alloc (.cells #[.slice A S.length c, .slice B xs.length d] 37)).heap[w.heap.size]? = some (.cells #[.slice A S.length c, .slice B xs.length d] 37 (0, 0)) := blk_new _ _
  have hB0 : Below w.heap.size w (w.alloc (.cells #[.slice A S.length c, .slice B xs.length d] 37)) := below_alloc (Below.refl _ _) _
  generalize hW : w.alloc (.cells #[.slice A S.length c, .slice B xs.length d] 37) = W at *
  clear hW
  have HB0 := Lib.hid hB0
  have BK1 := Lib.hid b1
  have hsz : base ≤ W.heap.size := Nat.le_trans hb hB0.size
  clear hB0 b1
  have HKb := Lib.hid hk
  have hk1 : k + tot S ≤ 1000000000 := by omega
  clear hk
  refine (markPlan_base S k ok1 _ base W hk1 hl hsz (Kd.S_below HO.out HB0.out)).mono ?_
  rintro e w1 ⟨rfl, h1, h2, h3⟩
  have b1' := blk_kept BK1.out h3 (fun h => by have := HL1.out _ h; omega)
  have x1 : w1.cell? ⟨w.heap.size, 1, none⟩ = some (.slice B xs.length d) := (blk_cell b1' 1).trans rfl
  have hsz1 : base ≤ w1.heap.size := Nat.le_trans hsz h2.size
  have HH1 := Lib.hid (Kd.S_kept (Kd.S_below HH.out HB0.out) h3 (fun q hq h => HD.out q h hq))
  have H1 := Lib.hid h1
  have H2 := Lib.hid h2
  have H3 := Lib.hid h3
  clear h1 h2 h3 b1'
  go_wp2_with fail
  refine (markHolds_any xs (k + tot S) ok2 _ base w1 HKb.out hsz1 HH1.out).mono ?_
  rintro e w2 ⟨rfl, g1, g2, g3⟩
  go_wp2_with fail
  go_ret
  exact ⟨rfl, Kd.S_kept H1.out g3 (fun q hq h => HD.out q hq h), g1, ((HB0.out.mono hb).trans H2.out).trans g2, ((Kept.of_below HB0.out (fun q => ok1 q ∨ ok2 q)).then_ H3.out (fun q hq => .inl (.inl hq))).then_ g3 (fun q hq => .inl (.inr hq))⟩

set_option maxRecDepth 100000 in
set_option maxHeartbeats 4000000 in
theorem heldEngine_any (A B : Option Addr) (c d : Nat) (S : List S53) (n : Nat) (w : World) (hk : 1 + tot S + n ≤ 1000000000) (hl : S.length ≤ 2000000) (hc : S.length ≤ c) (hn : n ≤ d) (H : Kd.C k53 w A S.length (mkS 1 S)) (G : Kd.C kH w B n (ints (1 + tot S) n)) :
    Calls Tryd.prog 17 #[.agg #[.slice A S.length c, .slice B n d], .int .i64 1] w fun e w' => e = .returned (.int .i64 ((1 + tot S + n : Nat) : Int)) ∧ Below w.heap.size w w' := by
  have HR := Lib.hid H
  have HG := Lib.hid G
  clear H G
  go_enter Tryd.func17, Tryd.ntmps17
  go_wp2_with fail
  have b1 : (w.alloc (.cells #[.slice A S.length c, .slice B n d] 37)).heap[w.heap.size]? = some (.cells #[.slice A S.length c, .slice B n d] 37 (0, 0)) := blk_new _ _
  have hB0 : Below w.heap.size w (w.alloc (.cells #[.slice A S.length c, .slice B n d] 37)) := below_alloc (Below.refl _ _) _
  generalize hW : w.alloc (.cells #[.slice A S.length c, .slice B n d] 37) = W at *
  clear hW
  have HB0 := Lib.hid hB0
  have BK1 := Lib.hid b1
  clear hB0 b1
  have HKb := Lib.hid hk
  have hk1 : 1 + tot S ≤ 1000000000 := by omega
  have n1 : ¬ (((1 + tot S : Nat) : Int) < 0) := by omega
  have n2 : ¬ (((1 + tot S + n : Nat) : Int) < 0) := by omega
  obtain ⟨k1, e1⟩ : ∃ k, 1 + tot S = k := ⟨_, rfl⟩
  obtain ⟨k2, e2⟩ : ∃ k, 1 + tot S + n = k := ⟨_, rfl⟩
  rw [e1] at n1
  rw [e2] at n2
  have E1 := Lib.hid e1
  have E2 := Lib.hid e2
  clear hk e1 e2
  refine (heldPlan_any A c S _ hk1 hl hc (Kd.C_below HR.out HB0.out)).mono ?_
  rintro e w1 ⟨he, hb⟩
  rw [E1.out] at he
  subst he
  have x1 : w1.cell? ⟨w.heap.size, 1, none⟩ = some (.slice B n d) := (blk_cell (blk_below BK1.out hb) 1).trans rfl
  have HB1 := Lib.hid (below_step HB0.out hb)
  clear hb
  go_wp2_with fail
  have hG := Kd.C_below HG.out HB1.out
  have hKb := HKb.out
  rw [E1.out] at hG hKb
  refine (heldHolds_any B d n k1 _ hKb hn hG).mono ?_
  rintro e w2 ⟨he, hb⟩
  rw [show k1 + n = k2 by rw [← E1.out, E2.out]] at he
  subst he
  clear hG hKb
  go_wp2_with fail
  go_ret
  refine ⟨?_, below_step HB1.out hb⟩
  rw [E2.out]
  rfl
end Go.Proofs.YtdleofaikjkndaaDoor
