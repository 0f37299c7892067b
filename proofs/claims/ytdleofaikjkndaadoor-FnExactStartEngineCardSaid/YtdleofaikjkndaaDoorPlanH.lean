/- Rows of holds (a number each, and a slice that is nil): compared, marked, held against the marks. -/
import Derived.Test.YtdleofaikjkndaaDoorPlanT
namespace Go.Proofs.YtdleofaikjkndaaDoor
open Go.RowKit Go.Proofs.YtdleofaikjkndaaDoorW.PrintWords Go.Proofs.YtdleofaikjkndaaDoor.PFnExactJoinPlans

/-- A hold that has seen x and holds nothing. -/
def kH : Kd Int where
  sz := 2
  E := []
  K := fun _ x cs => cs = [.int .i64 x, .slice none 0 0]
  M := fun _ _ _ x cs => cs = [.int .i64 x, .slice none 0 0]
  K_len := by rintro w x cs rfl; rfl
  K_one := by
    rintro w x cs rfl u hu
    simp at hu
    rcases hu with rfl | rfl <;> rfl
  K_below := fun _ h => h
  K_of_M := fun h => h
  M_mono := fun _ h => h
  M_bound := fun h => h
  M_move := fun _ h => h
  M_lower := fun _ h => h
theorem info_hold : (Tryd.prog.info? 77).map (fun i => (i.zero, i.size, i.bytes)) = some (some (.agg #[(.int .i64 0), (.slice none 0 0)]), 2, 32) := by kernel_rfl
theorem at_H {w : World} {A : Option Addr} {xs : List Int} (h : Kd.C kH w A xs.length xs) {i : Nat} (hi : i < xs.length) : ∃ ad, A = some ad ∧ w.cell? (ad.add (i * 2)) = some (.int .i64 xs[i]) ∧ w.cell? ⟨(ad.add (i * 2)).block, (ad.add (i * 2)).off + 1, none⟩ = some (.slice none 0 0) := by
  obtain ⟨ad, c, e, _, hK, hc⟩ := Kd.C_get h (0 : Int) (i : Int) (by omega) (by omega)
  have hK' : c = [.int .i64 (xs.getD (i : Int).toNat 0), .slice none 0 0] := hK
  subst hK'
  have hc' : ∀ j u, [(Value.int .i64 (xs.getD (i : Int).toNat 0)), .slice none 0 0][j]? = some u → w.cell? (ad.add (i * 2 + j)) = some u := hc
  refine ⟨ad, e, ?_, ?_⟩
  · have := hc' 0 _ rfl
    rw [Nat.add_zero] at this
    rw [this, Int.toNat_natCast, List.getD_eq_getElem?_getD, List.getElem?_eq_getElem hi]
    rfl
  · rw [← add_field _ _ 1 (by omega)]
    exact hc' 1 _ rfl

set_option maxHeartbeats 4000000 in
theorem eqNil_any (w : World) : Calls Tryd.prog 70 #[.slice none 0 0, .slice none 0 0] w fun e w' => e = .returned (.bool true) ∧ Below w.heap.size w w' := by
  go_enter Tryd.func70, Tryd.ntmps70
  go_wp2_with fail
  go_loopw [5] (fun i wr => i = .int .i64 0 ∧ wr = w) (fun _ _ => 0)
  case atStart => exact ⟨rfl, rfl⟩
  case round =>
    obtain ⟨rfl, rfl⟩ := hrel
    go_wp2_with fail
    go_ret
    exact ⟨rfl, Below.refl _ _⟩
set_option maxHeartbeats 4000000 in
theorem eqHold_any (x : Int) (w : World) : Calls Tryd.prog 48 #[.agg #[.int .i64 x, .slice none 0 0], .agg #[.int .i64 x, .slice none 0 0]] w fun e w' => e = .returned (.bool true) ∧ Below w.heap.size w w' := by
  go_enter Tryd.func48, Tryd.ntmps48
  go_wp2_with fail
  refine (eqNil_any _).mono ?_
  rintro e w1 ⟨rfl, hb⟩
  go_wp2_with fail
  go_ret
  exact ⟨rfl, below_step (below_alloc (below_alloc (Below.refl _ _) _) _) hb⟩
set_option maxRecDepth 100000 in
set_option maxHeartbeats 4000000 in
theorem eqHolds_same (A1 A2 : Option Addr) (c1 c2 : Nat) (xs : List Int) (w : World) (hl : xs.length ≤ 2000000) (H1 : Kd.C kH w A1 xs.length xs) (H2 : Kd.C kH w A2 xs.length xs) :
    Calls Tryd.prog 31 #[.slice A1 xs.length c1, .slice A2 xs.length c2] w fun e w' => e = .returned (.bool true) ∧ Below w.heap.size w w' := by
  have HR1 := Lib.hid H1
  have HR2 := Lib.hid H2
  clear H1 H2
  go_enter Tryd.func31, Tryd.ntmps31
  go_wp2_with fail
  go_loopw [5] (fun i wr => ∃ j : Nat, j ≤ xs.length ∧ i = .int .i64 j ∧ Hid (Below w.heap.size w wr)) (fun i _ => xs.length - (intOf i).toNat)
  case atStart => exact ⟨0, by omega, rfl, Below.refl _ _⟩
  case round =>
    obtain ⟨j, hj, rfl, HB⟩ := hrel
    by_cases hlt : j < xs.length
    · obtain ⟨ad1, rfl, p0, p1⟩ := at_H HR1.out hlt
      obtain ⟨ad2, rfl, q0, q1⟩ := at_H HR2.out hlt
      have y0 := (HB.out.cell (World.block_lt_of_cell? w _ p0)).trans p0
      have y1 := (HB.out.cell (World.block_lt_of_cell? w _ p1)).trans p1
      have z0 := (HB.out.cell (World.block_lt_of_cell? w _ q0)).trans q0
      have z1 := (HB.out.cell (World.block_lt_of_cell? w _ q1)).trans q1
      clear p0 p1 q0 q1
      have hjI : (j : Int) < xs.length := by omega
      go_wp2_with fail
      go_region_with (first
        | (go_at_call 48; (with_reducible refine (eqHold_any xs[j] _).mono ?_); rintro e w1 ⟨rfl, hb⟩; have HB1 := Lib.hid (below_step (below_drew HB.out) hb))
        | fail)
      all_goals
        go_wp2_with fail
        go_roundw
        case rel => exact ⟨j + 1, by omega, by go_num, HB1.out⟩
        case measure => simp [intOf]; omega
    · obtain rfl : j = xs.length := by omega
      go_wp2_with fail
      go_ret
      exact ⟨rfl, HB.out⟩

set_option maxHeartbeats 4000000 in
theorem markNil_any (k : Int) (w : World) : Calls Tryd.prog 49 #[.slice none 0 0, .int .i64 k] w fun e w' => e = .returned (.int .i64 k) ∧ w' = w := by
  go_enter Tryd.func49, Tryd.ntmps49
  go_wp2_with fail
  go_loopw [1, 5] (fun sk i wr => sk = .int .i64 k ∧ i = .int .i64 0 ∧ wr = w) (fun _ _ _ => 0)
  case atStart => exact ⟨rfl, rfl, rfl⟩
  case round =>
    obtain ⟨rfl, rfl, rfl⟩ := hrel
    go_wp2_with fail
    go_ret
    exact ⟨rfl, rfl⟩
set_option maxHeartbeats 4000000 in
theorem heldNil_any (k : Int) (w : World) : Calls Tryd.prog 50 #[.slice none 0 0, .int .i64 k] w fun e w' => e = .returned (.int .i64 k) ∧ w' = w := by
  go_enter Tryd.func50, Tryd.ntmps50
  go_wp2_with fail
  go_loopw [1, 5] (fun sk i wr => sk = .int .i64 k ∧ i = .int .i64 0 ∧ wr = w) (fun _ _ _ => 0)
  case atStart => exact ⟨rfl, rfl, rfl⟩
  case round =>
    obtain ⟨rfl, rfl, rfl⟩ := hrel
    go_wp2_with fail
    go_ret
    exact ⟨rfl, rfl⟩

/-- The first cell of element j written: the row reads on. -/
theorem marked1 {W : World} {base g n c j : Nat} {ok : Nat → Prop} {X : List Int} {x : Int} (h : Kd.S kH 77 W base ok (.slice (some ⟨g, 0, none⟩) n c) X) (hj : j < n) (hX : X[j]? = some x) (a : Int) :
    W.cell? ⟨g, j * 2, none⟩ = some (.int .i64 x) ∧ W.cell? ⟨g, j * 2 + 1, none⟩ = some (.slice none 0 0) ∧ (∀ i, W.frozen? ⟨g, j * 2 + i, none⟩ = false) ∧ ok g ∧
      W.grownBy (W.setCell ⟨g, j * 2, none⟩ (.int .i64 a)) (some g) ∧ Kd.S kH 77 (W.setCell ⟨g, j * 2, none⟩ (.int .i64 a)) base ok (.slice (some ⟨g, 0, none⟩) n c) (X.set j a) := by
  have hgd : X.getD (j : Int).toNat 0 = x := by
    rw [Int.toNat_natCast, List.getD_eq_getElem?_getD, hX]
    rfl
  obtain ⟨oki, ce, hcl, hM, hcc, hfr, hoki, hH⟩ := Kd.S_elem h (0 : Int) (j : Int) (by omega) (by omega)
  rw [hgd] at hM
  have hM' : ce = [.int .i64 x, .slice none 0 0] := hM
  subst hM'
  have hsz : kH.sz = 2 := rfl
  simp only [Int.toNat_natCast, hsz] at hcc hfr
  have c0 := hcc 0 _ rfl
  have c1 := hcc 1 _ rfl
  have hokg : ok g := (Kd.S_R h).1 g (by simp [Value.ownBlock])
  have hs := Kd.H_seg hH (by omega) (by omega) (seg := [.int .i64 a]) (j := 0) (by show 1 ≤ 2; omega) (by intro q hq; simp at hq; rw [hq]; rfl)
  simp only [Int.toNat_natCast, hsz, Nat.add_zero] at hs
  refine ⟨c0, c1, hfr, hokg, hs.2, ?_⟩
  have hgap : Kd.H kH 77 (W.setCell ⟨g, j * 2, none⟩ (.int .i64 a)) base ok (.slice (some ⟨g, 0, none⟩) n c) X (j : Int) oki [.int .i64 a, .slice none 0 0] := hs.1
  have := Kd.H_back hgap (x' := a) (okp := oki) (show kH.M _ _ _ a [.int .i64 a, .slice none 0 0] from rfl) (fun _ hk => hk)
  rwa [Int.toNat_natCast] at this

def hpart (k j : Nat) (xs : List Int) : List Int := ints k j ++ xs.drop j
theorem hpart_get {k j : Nat} {xs : List Int} (h : j < xs.length) : (hpart k j xs)[j]? = some xs[j] := by
  unfold hpart
  rw [List.getElem?_append_right (by rw [ints_length]; omega), ints_length, Nat.sub_self, List.drop_eq_getElem_cons h]
  rfl
theorem hpart_step {k j : Nat} {xs : List Int} (h : j < xs.length) : (hpart k j xs).set j ((k + j : Nat) : Int) = hpart k (j + 1) xs := by
  unfold hpart
  rw [List.drop_eq_getElem_cons h, List.set_append_right _ _ (by rw [ints_length]; omega), ints_length, Nat.sub_self, ints_succ, List.append_assoc]
  rfl
theorem hpart_length {k j : Nat} {xs : List Int} (h : j ≤ xs.length) : (hpart k j xs).length = xs.length := by
  unfold hpart
  rw [List.length_append, ints_length, List.length_drop]
  omega

def MarkedHolds (n k : Nat) (ok : Nat → Prop) (v : Value) (base : Nat) (w : World) (e : Ending) (w' : World) : Prop :=
  e = .returned (.int .i64 ((k + n : Nat) : Int)) ∧ Kd.S kH 77 w' base ok v (ints k n) ∧ Below base w w' ∧ Kept w w' ok
set_option maxRecDepth 100000 in
set_option maxHeartbeats 4000000 in
theorem markHolds_any (xs : List Int) (k : Nat) (ok : Nat → Prop) (v : Value) (base : Nat) (w : World) (hk : k + xs.length ≤ 1000000000) (hb : base ≤ w.heap.size) (ho : Kd.S kH 77 w base ok v xs) :
    Calls Tryd.prog 32 #[v, .int .i64 k] w (MarkedHolds xs.length k ok v base w) := by
  obtain ⟨A, c, rfl⟩ := Kd.S_slice ho
  have HO := Lib.hid ho
  clear ho
  go_enter Tryd.func32, Tryd.ntmps32
  go_wp2_with fail
  go_loopw [1, 5] (fun sk i wr => ∃ j : Nat, j ≤ xs.length ∧ i = .int .i64 j ∧ sk = .int .i64 ((k + j : Nat) : Int) ∧ Hid (Kd.S kH 77 wr base ok (.slice A xs.length c) (hpart k j xs)) ∧ Hid (Kept w wr ok) ∧ Hid (Below base w wr)) (fun _ i _ => xs.length - (intOf i).toNat)
  case atStart => exact ⟨0, by omega, rfl, by simp, by simpa [hpart, ints, Hid] using HO.out, Kept.refl _ _, Below.refl _ _⟩
  case round =>
    clear HO
    obtain ⟨j, hj, rfl, rfl, HO, HK, HB⟩ := hrel
    by_cases hlt : j < xs.length
    · obtain ⟨g, cap, e1, hgb, hgl, _⟩ := Kd.S_form HO.out (by rw [hpart_length hj]; omega)
      rw [hpart_length hj] at e1
      obtain ⟨rfl, rfl⟩ : A = some ⟨g, 0, none⟩ ∧ c = cap := by injection e1 with e2 _ e3; exact ⟨e2, e3⟩
      obtain ⟨c0, c1, hfr, hokg, hg, hS⟩ := marked1 HO.out hlt (hpart_get hlt) ((k + j : Nat) : Int)
      rw [hpart_step hlt] at hS
      have f0 := hfr 0
      simp only [Nat.add_zero] at f0
      have HB1 := Lib.hid (HB.out.grown hg (Nat.le_trans hb HB.out.size) (fun q hq => by cases hq; exact hgb))
      have HK1 := Lib.hid (Kept.of_grown hg HK.out (fun q hq => by cases hq; exact .inl hokg))
      have HS := Lib.hid hS
      have hjI : (j : Int) < xs.length := by omega
      have hkj : k + j ≤ 1000000000 := by omega
      clear hS hg hfr hokg hgb hgl e1 HO HK HB
      go_wp2_with fail
      refine (markNil_any _ _).mono ?_
      rintro e w1 ⟨rfl, rfl⟩
      go_wp2_with fail
      go_roundw
      case rel => exact ⟨j + 1, by omega, by go_num, by go_num, HS.out, HK1.out, HB1.out⟩
      case measure => simp [intOf]; omega
    · obtain rfl : j = xs.length := by omega
      have HF : Hid (hpart k xs.length xs = ints k xs.length) := by unfold Hid hpart; simp
      go_wp2_with fail
      go_ret
      exact ⟨rfl, by have := HO.out; rwa [HF.out] at this, HB.out, HK.out⟩

set_option maxRecDepth 100000 in
set_option maxHeartbeats 4000000 in
theorem heldHolds_any (A : Option Addr) (c n k : Nat) (w : World) (hk : k + n ≤ 1000000000) (hc : n ≤ c) (H : Kd.C kH w A n (ints k n)) :
    Calls Tryd.prog 33 #[.slice A n c, .int .i64 k] w fun e w' => e = .returned (.int .i64 ((k + n : Nat) : Int)) ∧ Below w.heap.size w w' := by
  have HR := Lib.hid H
  clear H
  go_enter Tryd.func33, Tryd.ntmps33
  go_wp2_with fail
  go_loopw [1, 5] (fun sk i wr => ∃ j : Nat, j ≤ n ∧ i = .int .i64 j ∧ sk = .int .i64 ((k + j : Nat) : Int) ∧ wr = w) (fun _ i _ => n - (intOf i).toNat)
  case atStart => exact ⟨0, by omega, rfl, by simp, rfl⟩
  case round =>
    obtain ⟨j, hj, rfl, rfl, rfl⟩ := hrel
    by_cases hlt : j < n
    · have HL : (ints k n).length = n := ints_length k n
      obtain ⟨ad, rfl, p0, p1⟩ := at_H (xs := ints k n) (by rw [HL]; exact HR.out) (i := j) (by rw [HL]; exact hlt)
      have hget : (ints k n)[j]'(by rw [HL]; exact hlt) = ((k + j : Nat) : Int) := by
        have h9 := ints_get (k := k) hlt
        rw [List.getElem?_eq_getElem (by rw [HL]; exact hlt)] at h9
        exact Option.some.inj h9
      rw [hget] at p0
      have hjI : (j : Int) < n := by omega
      have hkj : k + j ≤ 1000000000 := by omega
      have hnn : ¬ ((k + j : Nat) : Int) + 1 < 0 := by omega
      clear hget HL
      go_wp2_with fail
      refine (heldNil_any _ _).mono ?_
      rintro e w1 ⟨rfl, rfl⟩
      go_wp2_with fail
      go_roundw
      case rel => exact ⟨j + 1, by omega, by go_num, by go_num, trivial⟩
      case measure => simp [intOf]; omega
    · obtain rfl : j = n := by omega
      go_wp2_with fail
      go_ret
      exact ⟨rfl, Below.refl _ _⟩
end Go.Proofs.YtdleofaikjkndaaDoor
