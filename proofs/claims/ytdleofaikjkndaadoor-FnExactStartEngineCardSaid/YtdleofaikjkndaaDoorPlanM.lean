/- What marking a plan leaves, and what holding it against the marks answers. -/
import Derived.Test.YtdleofaikjkndaaDoorPlanJK
import Derived.Test.YtdleofaikjkndaaDoorPlanC
namespace Go.Proofs.YtdleofaikjkndaaDoor
open Go.RowKit Go.Proofs.YtdleofaikjkndaaDoorW.PrintWords Go.Proofs.YtdleofaikjkndaaDoor.PFnExactJoinPlans

def ints (k n : Nat) : List Int := (List.range n).map fun i => ((k + i : Nat) : Int)
theorem ints_length (k n : Nat) : (ints k n).length = n := by simp [ints]
theorem ints_succ (k n : Nat) : ints k (n + 1) = ints k n ++ [((k + n : Nat) : Int)] := by simp [ints, List.range_succ]
theorem ints_get {k n i : Nat} (h : i < n) : (ints k n)[i]? = some ((k + i : Nat) : Int) := by simp [ints, h]
def mkOne (k : Nat) (s : S53) : S53 := ⟨(k : Int), ((k + 1 : Nat) : Int), ((k + 2 : Nat) : Int), ints (k + 3) s.f3.length⟩
def mkS : Nat → List S53 → List S53
  | _, [] => []
  | k, s :: t => mkOne k s :: mkS (k + 3 + s.f3.length) t
def tot : List S53 → Nat
  | [] => 0
  | s :: t => 3 + s.f3.length + tot t
theorem mkS_length : ∀ (k : Nat) (S : List S53), (mkS k S).length = S.length
  | _, [] => rfl
  | k, s :: t => by simp [mkS, mkS_length]
theorem tot_append : ∀ (A B : List S53), tot (A ++ B) = tot A + tot B
  | [], B => by simp [tot]
  | s :: t, B => by simp [tot, tot_append t B]; omega
theorem mkS_append : ∀ (k : Nat) (A B : List S53), mkS k (A ++ B) = mkS k A ++ mkS (k + tot A) B
  | k, [], B => by simp [mkS, tot]
  | k, s :: t, B => by
    simp only [List.cons_append, mkS, tot, mkS_append (k + 3 + s.f3.length) t B]
    rw [show k + (3 + s.f3.length + tot t) = k + 3 + s.f3.length + tot t by omega]
theorem tot_take {S : List S53} {j : Nat} (h : j < S.length) : tot (S.take (j + 1)) = tot (S.take j) + (3 + S[j].f3.length) := by
  rw [List.take_succ_eq_append_getElem h, tot_append]
  simp [tot]
theorem tot_le (S : List S53) (j : Nat) : tot (S.take j) ≤ tot S := by
  have h : tot S = tot (S.take j) + tot (S.drop j) := by rw [← tot_append, List.take_append_drop]
  omega
theorem mkS_get {S : List S53} {k j : Nat} (h : j < S.length) : (mkS k S)[j]? = some (mkOne (k + tot (S.take j)) S[j]) := by
  conv => lhs; rw [← List.take_append_drop j S, mkS_append]
  rw [List.getElem?_append_right (by rw [mkS_length, List.length_take]; omega), mkS_length, List.length_take, Nat.min_eq_left (by omega), Nat.sub_self, List.drop_eq_getElem_cons h]
  rfl

/-- The plan, the first j steps marked. -/
def part (k j : Nat) (S : List S53) : List S53 := mkS k (S.take j) ++ S.drop j
theorem part_length (k j : Nat) (S : List S53) : (part k j S).length = S.length := by simp [part, mkS_length]; omega
theorem part_get {k j : Nat} {S : List S53} (h : j < S.length) : (part k j S)[j]? = some S[j] := by
  unfold part
  rw [List.getElem?_append_right (by rw [mkS_length, List.length_take]; omega), mkS_length, List.length_take, Nat.min_eq_left (by omega), Nat.sub_self, List.drop_eq_getElem_cons h]
  rfl
theorem part_step {k j : Nat} {S : List S53} (h : j < S.length) : (part k j S).set j (mkOne (k + tot (S.take j)) S[j]) = part k (j + 1) S := by
  unfold part
  rw [List.take_succ_eq_append_getElem h, mkS_append, List.drop_eq_getElem_cons h]
  have hl : (mkS k (S.take j)).length = j := by rw [mkS_length, List.length_take]; omega
  rw [List.set_append_right _ _ (by omega), hl, Nat.sub_self, List.append_assoc]
  rfl

theorem wrap_small {a b : Nat} (h : a ≤ 1000000000) (e : b = a + 1) : wrap64 ((a : Int) + 1) = (b : Int) := by subst e; unfold wrap64; omega

theorem markInts_pure (l : List Int) (k : Nat) (hk : k + l.length ≤ 1000000000) (d : Nat) : ∀ (q j : Nat) (X : List Int), j ≤ l.length → l.length - j = d → d < q → X = ints k j ++ l.drop j → laws_markInt64S.l0 q X ((k + j : Nat) : Int) (j : Int) = some (((k + l.length : Nat) : Int), ints k l.length) := by
  induction d with
  | zero =>
    intro q j X hj hd hq hX
    obtain ⟨q, rfl⟩ : ∃ m, q = m + 1 := ⟨q - 1, by omega⟩
    obtain rfl : j = l.length := by omega
    have hXl : X.length = l.length := by rw [hX]; simp [ints_length]
    simp only [laws_markInt64S.l0]
    rw [if_neg (by omega), hX]
    simp
  | succ d ih =>
    intro q j X hj hd hq hX
    obtain ⟨q, rfl⟩ : ∃ m, q = m + 1 := ⟨q - 1, by omega⟩
    have hlt : j < l.length := by omega
    have hXl : X.length = l.length := by rw [hX]; simp [ints_length]; omega
    simp only [laws_markInt64S.l0]
    rw [if_pos (by omega), if_pos (by omega), wrap_small (b := k + (j + 1)) (by omega) (by omega), wrap_small (b := j + 1) (by omega) rfl]
    refine ih q (j + 1) _ (by omega) (by omega) (by omega) ?_
    rw [List.drop_eq_getElem_cons hlt] at hX
    rw [hX, Int.toNat_natCast, List.set_append_right _ _ (by rw [ints_length]; omega), ints_length, Nat.sub_self, ints_succ, List.append_assoc]
    rfl

def MarkedInts (l : List Int) (k : Nat) (P0 : Nat → Prop) (u : Value) (w0 w : World) (e : Ending) (w' : World) : Prop :=
  e = .returned (.int .i64 ((k + l.length : Nat) : Int)) ∧ Kd.R (Kd.int .i64) 2 w' w0.heap.size P0 u (ints k l.length) ∧ Below w0.heap.size w0 w' ∧ Kept w w' P0
theorem markInts_any (l : List Int) (k : Nat) (P0 : Nat → Prop) (u : Value) (w0 w : World) (hk : k + l.length ≤ 1000000000) (hB : Below w0.heap.size w0 w) (ho : Kd.R (Kd.int .i64) 2 w w0.heap.size P0 u l) :
    Calls Tryd.prog 46 #[u, .int .i64 k] w (MarkedInts l k P0 u w0 w) := by
  refine (laws_markInt64S.calls (l.length + 1) P0 u l (k : Int) _ _ w0 w hB ho (markInts_pure l k hk l.length _ 0 l (by omega) (by omega) (by omega) (by simp [ints]))).mono ?_
  rintro e w' ⟨rfl, h1, h2, h3⟩
  exact ⟨rfl, Kd.R_reok rfl h1 (fun q hq => ho.1 q hq), h2, h3⟩

theorem heldInts_pure (n k : Nat) (hk : k + n ≤ 1000000000) (d : Nat) : ∀ (q j : Nat), j ≤ n → n - j = d → d < q → laws_heldInt64S.l0 q (ints k n) ((k + j : Nat) : Int) (j : Int) = some ((k + n : Nat) : Int) := by
  induction d with
  | zero =>
    intro q j hj hd hq
    obtain ⟨q, rfl⟩ : ∃ m, q = m + 1 := ⟨q - 1, by omega⟩
    obtain rfl : j = n := by omega
    simp only [laws_heldInt64S.l0]
    rw [if_neg (by rw [ints_length]; omega)]
  | succ d ih =>
    intro q j hj hd hq
    obtain ⟨q, rfl⟩ : ∃ m, q = m + 1 := ⟨q - 1, by omega⟩
    simp only [laws_heldInt64S.l0]
    have hr : rd (ints k n) (j : Int) = ((k + j : Nat) : Int) := by
      unfold rd
      rw [Int.toNat_natCast, List.getD_eq_getElem?_getD, ints_get (by omega)]
      rfl
    rw [if_pos (by rw [ints_length]; omega), if_pos (by omega), if_pos hr, wrap_small (b := k + (j + 1)) (by omega) (by omega), wrap_small (b := j + 1) (by omega) rfl]
    exact ih q (j + 1) (by omega) (by omega) (by omega)
theorem heldSteps_pure (S : List S53) (k : Nat) (hk : k + tot S ≤ 1000000000) (hl : S.length ≤ 2000000) (d : Nat) : ∀ (q j : Nat), j ≤ S.length → S.length - j = d → d + 1000000002 < q → laws_heldStepS.l0 q (mkS k S) ((k + tot (S.take j) : Nat) : Int) (j : Int) = some ((k + tot S : Nat) : Int) := by
  induction d with
  | zero =>
    intro q j hj hd hq
    obtain ⟨q, rfl⟩ : ∃ m, q = m + 1 := ⟨q - 1, by omega⟩
    obtain rfl : j = S.length := by omega
    simp only [laws_heldStepS.l0]
    rw [if_neg (by rw [mkS_length]; omega), List.take_length]
  | succ d ih =>
    intro q j hj hd hq
    obtain ⟨q, rfl⟩ : ∃ m, q = m + 1 := ⟨q - 1, by omega⟩
    have hlt : j < S.length := by omega
    have ht := tot_take hlt
    have hle := tot_le S (j + 1)
    have hr : rd_T53 (mkS k S) (j : Int) = mkOne (k + tot (S.take j)) S[j] := by
      unfold rd_T53
      rw [Int.toNat_natCast, List.getD_eq_getElem?_getD, mkS_get hlt]
      rfl
    simp only [laws_heldStepS.l0]
    rw [hr]
    generalize hm : k + tot (S.take j) = m at *
    have hb1 : m ≤ 1000000000 := by omega
    have hb2 : m + 1 ≤ 1000000000 := by omega
    have hb3 : m + 2 ≤ 1000000000 := by omega
    have hb4 : j ≤ 1000000000 := by omega
    have hh : laws_heldInt64S.f q (ints (m + 3) S[j].f3.length) ((m + 3 : Nat) : Int) = some ((m + 3 + S[j].f3.length : Nat) : Int) :=
      heldInts_pure S[j].f3.length (m + 3) (by omega) S[j].f3.length q 0 (by omega) (by omega) (by omega)
    have c1 : (j : Int) < ((mkS k S).length : Int) := by rw [mkS_length]; omega
    have c2 : (0 : Int) ≤ j := by omega
    have c3 : ¬ (((m + 3 + S[j].f3.length : Nat) : Int) < 0) := by omega
    have hih := ih q (j + 1) (by omega) (by omega) (by omega)
    rw [ht, show k + (tot (S.take j) + (3 + S[j].f3.length)) = m + 3 + S[j].f3.length by omega] at hih
    have f0 : (mkOne m S[j]).f0 = (m : Int) := rfl
    have f1 : (mkOne m S[j]).f1 = ((m + 1 : Nat) : Int) := rfl
    have f2 : (mkOne m S[j]).f2 = ((m + 2 : Nat) : Int) := rfl
    have f3 : (mkOne m S[j]).f3 = ints (m + 3) S[j].f3.length := rfl
    have e1 : wrap64 ((m : Int) + 1) = ((m + 1 : Nat) : Int) := wrap_small hb1 rfl
    have e2 : wrap64 (((m + 1 : Nat) : Int) + 1) = ((m + 2 : Nat) : Int) := wrap_small (b := m + 2) hb2 rfl
    have e3 : wrap64 (((m + 2 : Nat) : Int) + 1) = ((m + 3 : Nat) : Int) := wrap_small (b := m + 3) hb3 rfl
    rw [f0, f1, f2, f3, e1, e2, e3, hh, Option.bind_some, if_pos c1, if_pos c2, if_pos rfl, if_pos rfl, if_pos rfl, if_neg c3, wrap_small (a := j) (b := j + 1) hb4 rfl]
    exact hih
end Go.Proofs.YtdleofaikjkndaaDoor
