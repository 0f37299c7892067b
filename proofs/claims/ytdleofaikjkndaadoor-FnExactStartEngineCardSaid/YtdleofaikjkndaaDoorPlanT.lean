/- What counting, copying and comparing a plan answers: plain facts of the printed functions, and the contracts that follow. -/
import Derived.Test.YtdleofaikjkndaaDoorPlanMW
namespace Go.Proofs.YtdleofaikjkndaaDoor
open Go.RowKit Go.Proofs.YtdleofaikjkndaaDoorW.PrintWords Go.Proofs.YtdleofaikjkndaaDoor.PFnExactJoinPlans

def conv (s : S63) : S53 := ⟨s.f0, s.f1, s.f2, s.f3⟩
def tapSum : List S63 → Nat
  | [] => 0
  | s :: t => s.f3.length + tapSum t
theorem tapSum_mem : ∀ {P : List S63} {s : S63}, s ∈ P → s.f3.length ≤ tapSum P
  | s :: t, x, h => by
    rcases List.mem_cons.1 h with rfl | h
    · simp [tapSum]
    · have := tapSum_mem h
      simp [tapSum]; omega
theorem tot_conv : ∀ (P : List S63), tot (P.map conv) = 3 * P.length + tapSum P
  | [] => rfl
  | s :: t => by
    have := tot_conv t
    simp only [List.map_cons, tot, this, List.length_cons, tapSum]
    have e : (conv s).f3.length = s.f3.length := rfl
    omega

theorem wrap_in {n : Int} (h1 : -9223372036854775808 ≤ n) (h2 : n ≤ 9223372036854775807) : wrap64 n = n := by unfold wrap64; omega
theorem rdT {P : List S63} {i : Nat} (h : i < P.length) : rd_T63 P (i : Int) = P[i] := by
  unfold rd_T63
  simp [List.getD_eq_getElem?_getD, List.getElem?_eq_getElem h]
theorem rdS {P : List S53} {i : Nat} (h : i < P.length) : rd_T53 P (i : Int) = P[i] := by
  unfold rd_T53
  simp [List.getD_eq_getElem?_getD, List.getElem?_eq_getElem h]
theorem rdI {l : List Int} {i : Nat} (h : i < l.length) : rd l (i : Int) = l[i] := by
  unfold rd
  simp [List.getD_eq_getElem?_getD, List.getElem?_eq_getElem h]

theorem szStep_pure (s : S63) (a : Int) (h0 : 0 ≤ a) (h1 : a ≤ 1048576) (hl : s.f3.length ≤ 9223372036854775807) :
    laws_szStep.f s.f0 s.f1 s.f2 s.f3 a = some (if a - s.f3.length < 0 then -1 else a - s.f3.length) := by
  unfold laws_szStep.f laws_szInt64S.f
  rw [wrap_in (by omega) (by omega)]
  by_cases h : a - (s.f3.length : Int) < 0
  · rw [if_pos h, if_pos h]; rfl
  · rw [if_neg h, if_neg h, Option.bind_some, if_neg h]
theorem szSteps_pure (P : List S63) (hT : ∀ s ∈ P, s.f3.length ≤ 9223372036854775807) (hP : P.length ≤ 1048576) (d : Nat) : ∀ (k i : Nat) (a : Int), i ≤ P.length → P.length - i = d → d < k → 0 ≤ a → a ≤ 1048576 →
    ∃ r, laws_szStepS.l0 k P a (i : Int) = some r ∧ (r < 0 ∨ (0 ≤ r ∧ r + tapSum (P.drop i) = a)) := by
  induction d with
  | zero =>
    intro k i a hi hd hk h0 h1
    obtain ⟨k, rfl⟩ : ∃ m, k = m + 1 := ⟨k - 1, by omega⟩
    obtain rfl : i = P.length := by omega
    refine ⟨a, ?_, .inr ⟨h0, by simp [tapSum]⟩⟩
    simp only [laws_szStepS.l0]
    rw [if_neg (by omega)]
  | succ d ih =>
    intro k i a hi hd hk h0 h1
    obtain ⟨k, rfl⟩ : ∃ m, k = m + 1 := ⟨k - 1, by omega⟩
    have hlt : i < P.length := by omega
    have hs := szStep_pure P[i] a h0 h1 (hT _ (List.getElem_mem hlt))
    have hw : wrap64 ((i : Int) + 1) = ((i + 1 : Nat) : Int) := wrap_small (by omega) rfl
    have hdr : tapSum (P.drop i) = P[i].f3.length + tapSum (P.drop (i + 1)) := by rw [List.drop_eq_getElem_cons hlt]; rfl
    simp only [laws_szStepS.l0]
    rw [if_pos (by omega), if_pos (by omega), rdT hlt, hs, Option.bind_some]
    by_cases h : a - (P[i].f3.length : Int) < 0
    · rw [if_pos h, if_pos (by omega)]
      exact ⟨-1, rfl, .inl (by omega)⟩
    · rw [if_neg h, if_neg h, hw]
      obtain ⟨r, hr, hc⟩ := ih k (i + 1) (a - (P[i].f3.length : Int)) (by omega) (by omega) (by omega) (by omega) (by omega)
      refine ⟨r, hr, ?_⟩
      rcases hc with hc | ⟨hc1, hc2⟩
      · exact .inl hc
      · exact .inr ⟨hc1, by omega⟩
theorem szPlan_pure (P : List S63) (hT : ∀ s ∈ P, s.f3.length ≤ 9223372036854775807) (hm : P.length ≤ 9223372036854775807) (a : Int) (h0 : 0 ≤ a) (h1 : a ≤ 1048576) :
    ∃ k r, laws_szPlan.f k P a = some r ∧ ((r < 0 ∧ r = -1) ∨ (0 ≤ r ∧ r + P.length + tapSum P = a)) := by
  unfold laws_szPlan.f laws_szStepS.f
  refine ⟨P.length + 1, ?_⟩
  rw [wrap_in (by omega) (by omega)]
  by_cases h : a - (P.length : Int) < 0
  · rw [if_pos h]
    exact ⟨-1, rfl, .inl ⟨by omega, rfl⟩⟩
  · rw [if_neg h]
    obtain ⟨r, hr, hc⟩ := szSteps_pure P hT (by omega) P.length (P.length + 1) 0 (a - (P.length : Int)) (by omega) (by omega) (by omega) (by omega) (by omega)
    have hr' : laws_szStepS.l0 (P.length + 1) P (a - (P.length : Int)) 0 = some r := hr
    rw [hr', Option.bind_some]
    rcases hc with hc | ⟨hc1, hc2⟩
    · rw [if_pos hc]
      exact ⟨-1, rfl, .inl ⟨by omega, rfl⟩⟩
    · rw [if_neg (by omega)]
      refine ⟨r, rfl, .inr ⟨hc1, ?_⟩⟩
      rw [List.drop_zero] at hc2
      omega

theorem toInts_pure (l : List Int) (hl : l.length ≤ 1048576) (d : Nat) : ∀ (k i : Nat) (X : List Int), i ≤ l.length → l.length - i = d → d < k → X = l.take i ++ List.replicate (l.length - i) 0 → laws_toInt64S.l0 k l X (i : Int) = some l := by
  induction d with
  | zero =>
    intro k i X hi hd hk hX
    obtain ⟨k, rfl⟩ : ∃ m, k = m + 1 := ⟨k - 1, by omega⟩
    obtain rfl : i = l.length := by omega
    simp only [laws_toInt64S.l0]
    rw [if_neg (by omega), hX]
    simp
  | succ d ih =>
    intro k i X hi hd hk hX
    obtain ⟨k, rfl⟩ : ∃ m, k = m + 1 := ⟨k - 1, by omega⟩
    have hlt : i < l.length := by omega
    have hXl : X.length = l.length := by rw [hX]; simp; omega
    have hw : wrap64 ((i : Int) + 1) = ((i + 1 : Nat) : Int) := wrap_small (by omega) rfl
    simp only [laws_toInt64S.l0]
    rw [if_pos (by omega), if_pos (by omega), if_pos (by omega), rdI hlt, hw]
    refine ih k (i + 1) _ (by omega) (by omega) (by omega) ?_
    have e : l.length - i = (l.length - (i + 1)) + 1 := by omega
    rw [hX, Int.toNat_natCast, List.set_append_right _ _ (by rw [List.length_take]; omega), List.length_take, Nat.min_eq_left (by omega), Nat.sub_self, e, List.replicate_succ, List.set_cons_zero, List.take_succ_eq_append_getElem hlt, List.append_assoc]
    rfl
theorem toInt64_pure (l : List Int) (hl : l.length ≤ 1048576) (k : Nat) (hk : l.length < k) : laws_toInt64S.f k l = some l := by
  unfold laws_toInt64S.f
  rw [if_pos (by omega), if_pos (by omega), Int.toNat_natCast]
  exact toInts_pure l hl l.length k 0 _ (by omega) (by omega) hk (by simp)
theorem toSteps_pure (P : List S63) (hP : P.length ≤ 1048576) (hT : ∀ s ∈ P, s.f3.length ≤ 1048576) (d : Nat) : ∀ (k i : Nat) (X : List S53), i ≤ P.length → P.length - i = d → d + 2000000 < k → X = (P.map conv).take i ++ List.replicate (P.length - i) z53 → laws_toStepS.l0 k P X (i : Int) = some (P.map conv) := by
  induction d with
  | zero =>
    intro k i X hi hd hk hX
    obtain ⟨k, rfl⟩ : ∃ m, k = m + 1 := ⟨k - 1, by omega⟩
    obtain rfl : i = P.length := by omega
    simp only [laws_toStepS.l0]
    rw [if_neg (by omega), hX, List.take_of_length_le (by rw [List.length_map]; omega)]
    simp
  | succ d ih =>
    intro k i X hi hd hk hX
    obtain ⟨k, rfl⟩ : ∃ m, k = m + 1 := ⟨k - 1, by omega⟩
    have hlt : i < P.length := by omega
    have hXl : X.length = P.length := by rw [hX]; simp; omega
    have ht : laws_toStep.f k P[i].f0 P[i].f1 P[i].f2 P[i].f3 = some (P[i].f0, P[i].f1, P[i].f2, P[i].f3) := by
      unfold laws_toStep.f
      have h1 := hT _ (List.getElem_mem hlt)
      rw [toInt64_pure _ h1 k (by omega)]
      rfl
    have c1 : (i : Int) < P.length := by omega
    have c2 : (0 : Int) ≤ i := by omega
    have c3 : (i : Int) < X.length := by omega
    have hih := ih k (i + 1) (X.set i (conv P[i])) (by omega) (by omega) (by omega) (by
      have e : P.length - i = (P.length - (i + 1)) + 1 := by omega
      rw [hX, List.set_append_right _ _ (by rw [List.length_take, List.length_map]; omega), List.length_take, List.length_map, Nat.min_eq_left (by omega), Nat.sub_self, e, List.replicate_succ, List.set_cons_zero, List.take_succ_eq_append_getElem (by rw [List.length_map]; exact hlt), List.append_assoc, List.getElem_map]
      rfl)
    have hw : wrap64 ((i : Int) + 1) = ((i + 1 : Nat) : Int) := wrap_small (by omega) rfl
    simp only [laws_toStepS.l0]
    rw [if_pos c1, if_pos c2, rdT hlt, ht, Option.bind_some, if_pos c3, hw]
    exact hih
theorem toPlan_pure (P : List S63) (hP : P.length ≤ 1048576) (hT : ∀ s ∈ P, s.f3.length ≤ 1048576) : laws_toPlan.f 4000000 P = some (P.map conv) := by
  unfold laws_toPlan.f laws_toStepS.f
  rw [if_pos (by omega), if_pos (by omega), Int.toNat_natCast]
  have h : laws_toStepS.l0 4000000 P (List.replicate P.length z53) 0 = some (P.map conv) := toSteps_pure P hP hT P.length 4000000 0 _ (by omega) (by omega) (by omega) (by simp)
  rw [h]
  rfl

theorem eqInts_pure (l : List Int) (hl : l.length ≤ 1048576) (d : Nat) : ∀ (k i : Nat), i ≤ l.length → l.length - i = d → d < k → laws_eqInt64S.l0 k l l (i : Int) = some true := by
  induction d with
  | zero =>
    intro k i hi hd hk
    obtain ⟨k, rfl⟩ : ∃ m, k = m + 1 := ⟨k - 1, by omega⟩
    simp only [laws_eqInt64S.l0]
    rw [if_neg (by omega)]
  | succ d ih =>
    intro k i hi hd hk
    obtain ⟨k, rfl⟩ : ∃ m, k = m + 1 := ⟨k - 1, by omega⟩
    simp only [laws_eqInt64S.l0]
    rw [if_pos (by omega), if_pos (by omega), if_pos (by omega), if_pos trivial, wrap_small (a := i) (b := i + 1) (by omega) rfl]
    exact ih k (i + 1) (by omega) (by omega) (by omega)
theorem eqSteps_pure (S : List S53) (hS : S.length ≤ 1048576) (hT : ∀ s ∈ S, s.f3.length ≤ 1048576) (d : Nat) : ∀ (k i : Nat), i ≤ S.length → S.length - i = d → d + 2000000 < k → laws_eqStepS.l0 k S S (i : Int) = some true := by
  induction d with
  | zero =>
    intro k i hi hd hk
    obtain ⟨k, rfl⟩ : ∃ m, k = m + 1 := ⟨k - 1, by omega⟩
    simp only [laws_eqStepS.l0]
    rw [if_neg (by omega)]
  | succ d ih =>
    intro k i hi hd hk
    obtain ⟨k, rfl⟩ : ∃ m, k = m + 1 := ⟨k - 1, by omega⟩
    have hlt : i < S.length := by omega
    have he : laws_eqStep.f k S[i].f0 S[i].f1 S[i].f2 S[i].f3 S[i].f0 S[i].f1 S[i].f2 S[i].f3 = some true := by
      unfold laws_eqStep.f laws_eqInt64S.f
      have h1 := hT _ (List.getElem_mem hlt)
      have h2 : laws_eqInt64S.l0 k S[i].f3 S[i].f3 0 = some true := eqInts_pure S[i].f3 h1 S[i].f3.length k 0 (by omega) (by omega) (by omega)
      rw [if_pos rfl, if_pos rfl, if_pos rfl, if_pos rfl, h2]
      rfl
    have c1 : (i : Int) < S.length := by omega
    have c2 : (0 : Int) ≤ i := by omega
    have hih := ih k (i + 1) (by omega) (by omega) (by omega)
    have hw : wrap64 ((i : Int) + 1) = ((i + 1 : Nat) : Int) := wrap_small (by omega) rfl
    simp only [laws_eqStepS.l0]
    rw [if_pos c1, if_pos c2, if_pos c1, rdS hlt, he, Option.bind_some, if_pos rfl, hw]
    exact hih
theorem eqPlan_pure (S : List S53) (hS : S.length ≤ 1048576) (hT : ∀ s ∈ S, s.f3.length ≤ 1048576) : laws_eqPlan.f 4000000 S S = some true := by
  unfold laws_eqPlan.f laws_eqStepS.f
  have h : laws_eqStepS.l0 4000000 S S 0 = some true := eqSteps_pure S hS hT S.length 4000000 0 (by omega) (by omega) (by omega)
  rw [if_pos rfl, h]
  rfl
theorem heldPlan_pure (S : List S53) (hk : 1 + tot S ≤ 1000000000) (hl : S.length ≤ 2000000) : laws_heldPlan.f 2000000000 (mkS 1 S) 1 = some ((1 + tot S : Nat) : Int) := by
  unfold laws_heldPlan.f laws_heldStepS.f
  have h : laws_heldStepS.l0 2000000000 (mkS 1 S) 1 0 = some ((1 + tot S : Nat) : Int) := heldSteps_pure S 1 hk hl S.length 2000000000 0 (by omega) (by omega) (by omega)
  rw [h, Option.bind_some, if_neg (by omega)]

/-! The contracts. -/
theorem taps_max {w : World} {A : Option Addr} {P : List S63} (h : Kd.C k63 w A P.length P) : ∀ s ∈ P, s.f3.length ≤ 9223372036854775807 := by
  intro s hs
  obtain ⟨i, hi, rfl⟩ := List.mem_iff_getElem.1 hs
  obtain ⟨ad, A3, c3, _, _, _, _, _, _, h5⟩ := at_T63 h (i : Int) (by omega) (by omega)
  rw [rdT hi] at h5
  exact Kd.C_max h5
def SzPost (P : List S63) (a : Int) (w : World) (e : Ending) (w' : World) : Prop :=
  ∃ r : Int, e = .returned (.int .i64 r) ∧ ((r < 0 ∧ r = -1) ∨ (0 ≤ r ∧ r + P.length + tapSum P = a)) ∧ Below w.heap.size w w'
theorem szPlan_any (A : Option Addr) (c : Nat) (P : List S63) (a : Int) (w : World) (h0 : 0 ≤ a) (h1 : a ≤ 1048576) (hc : P.length ≤ c) (HR : Kd.C k63 w A P.length P) :
    Calls Tryd.prog 6 #[.agg #[.slice A P.length c], .int .i64 a] w (SzPost P a w) := by
  obtain ⟨k, r, hf, hr⟩ := szPlan_pure P (taps_max HR) (Kd.C_max HR) a h0 h1
  exact (laws_szPlan.calls k A c P a r w HR hc hf).mono fun _ _ ⟨he, hb⟩ => ⟨r, he, hr, hb⟩
theorem toPlan_any (A : Option Addr) (c : Nat) (P : List S63) (w : World) (hP : P.length ≤ 1048576) (HT : Hid (∀ s ∈ P, s.f3.length ≤ 1048576)) (hc : P.length ≤ c) (HR : Kd.C k63 w A P.length P) :
    Calls Tryd.prog 8 #[.agg #[.slice A P.length c]] w (StepsPost (P.map conv) w) :=
  (laws_toPlan.calls 4000000 A c P _ w HR hc (toPlan_pure P hP HT.out)).mono fun _ _ ⟨v, he, ho, hb⟩ => ⟨v, he, ho, hb⟩
theorem eqPlan_same (A1 A2 : Option Addr) (c1 c2 : Nat) (S : List S53) (w : World) (hS : S.length ≤ 1048576) (HT : Hid (∀ s ∈ S, s.f3.length ≤ 1048576)) (h1 : S.length ≤ c1) (h2 : S.length ≤ c2) (H1 : Kd.C k53 w A1 S.length S) (H2 : Kd.C k53 w A2 S.length S) :
    Calls Tryd.prog 10 #[.agg #[.slice A1 S.length c1], .agg #[.slice A2 S.length c2]] w fun e w' => e = .returned (.bool true) ∧ Below w.heap.size w w' :=
  laws_eqPlan.calls 4000000 A1 c1 S A2 c2 S true w H1 h1 H2 h2 (eqPlan_pure S hS HT.out)
theorem heldPlan_any (A : Option Addr) (c : Nat) (S : List S53) (w : World) (hk : 1 + tot S ≤ 1000000000) (hl : S.length ≤ 2000000) (hc : S.length ≤ c) (H : Kd.C k53 w A S.length (mkS 1 S)) :
    Calls Tryd.prog 12 #[.agg #[.slice A S.length c], .int .i64 1] w fun e w' => e = .returned (.int .i64 ((1 + tot S : Nat) : Int)) ∧ Below w.heap.size w w' := by
  have h := laws_heldPlan.calls 2000000000 A c (mkS 1 S) 1 _ w (by rw [mkS_length]; exact H) (by rw [mkS_length]; exact hc) (heldPlan_pure S hk hl)
  rw [mkS_length] at h
  exact h
end Go.Proofs.YtdleofaikjkndaaDoor
