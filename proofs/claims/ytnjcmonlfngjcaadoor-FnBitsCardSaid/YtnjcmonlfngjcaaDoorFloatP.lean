/- Floats by their words: what a word reads as, that a nearest word is no NaN, that a value the format has is written as its word. -/
import Derived.Laws.FloatArith
import Derived.Laws.Cover2
namespace Go.Proofs.YtnjcmonlfngjcaaDoor
open Ieee

theorem log2_shift (a k : Nat) (h : a ≠ 0) : (a * 2 ^ k).log2 = a.log2 + k := by
  have h1 := Nat.log2_self_le h
  have h2 := @Nat.lt_log2_self a
  have hp : 0 < 2 ^ k := Nat.two_pow_pos k
  refine (Nat.log2_eq_iff (Nat.mul_ne_zero h (Nat.ne_of_gt hp))).2 ⟨?_, ?_⟩
  · rw [Nat.pow_add]; exact Nat.mul_le_mul_right _ h1
  · rw [show a.log2 + k + 1 = (a.log2 + 1) + k by omega, Nat.pow_add]
    exact Nat.mul_lt_mul_of_pos_right h2 hp

theorem cut_exact (neg : Bool) (a d : Nat) : Toward.even.cut neg (a * 2 ^ d) d = a := by
  unfold Toward.cut
  rcases Nat.eq_zero_or_pos a with rfl | ha
  · simp [Nat.one_shiftLeft]
  · have hl : min d ((a * 2 ^ d).log2 + 2) = d := by
      rw [log2_shift a d (by omega)]
      omega
    have hp : 0 < 2 ^ d := Nat.two_pow_pos d
    simp only [hl, Nat.one_shiftLeft]
    rw [Nat.mul_div_cancel _ hp, Nat.mul_mod_left]
    simp

/-- What a rung reads as. -/
def rd (f : Format) (neg : Bool) (rung : Nat) : Datum :=
  if rung < f.binade then .number neg rung f.leastPlace
  else if rung < f.infRung then .number neg (f.binade + rung % f.binade) (f.leastPlace + (rung / f.binade - 1 : Nat))
  else if rung = f.infRung then .infinity neg
  else .nan neg (rung - f.infRung)

theorem read_word (f : Format) (neg : Bool) (rung : Nat) (h : rung < f.signWeight) : f.read (f.word neg rung) = rd f neg rung := by
  have hp : 0 < f.signWeight := Nat.two_pow_pos _
  unfold Format.read rd Format.word
  cases neg with
  | false =>
    simp only [Bool.false_eq_true, if_false]
    rw [Nat.div_eq_of_lt h, Nat.mod_eq_of_lt h]
    rfl
  | true =>
    simp only [if_true]
    rw [Nat.add_div_left _ hp, Nat.div_eq_of_lt h, Nat.add_mod_left, Nat.mod_eq_of_lt h]
    rfl

theorem nearest_word (f : Format) (neg : Bool) (mag : Nat) (place : Int) : ∃ rung, rung ≤ f.infRung ∧ f.nearest neg mag place = f.word neg rung := by
  unfold Format.nearest
  split
  · exact ⟨0, Nat.zero_le _, rfl⟩
  · exact ⟨_, Nat.min_le_right _ _, rfl⟩
theorem rd_noNaN (f : Format) (neg : Bool) (rung : Nat) (h : rung ≤ f.infRung) : (rd f neg rung).isNaN = false := by
  unfold rd
  split
  · rfl
  · split
    · rfl
    · rw [if_pos (by omega)]; rfl
theorem nearest_noNaN (f : Format) (neg : Bool) (mag : Nat) (place : Int) : (f.read (f.nearest neg mag place)).isNaN = false := by
  obtain ⟨rung, h, e⟩ := nearest_word f neg mag place
  rw [e, read_word f neg rung (Nat.lt_of_le_of_lt h f.infRung_lt)]
  exact rd_noNaN f neg rung h

/-- The value of a rung, in units of the least place. -/
def valR (f : Format) (rung : Nat) : Nat := if rung < f.binade then rung else (f.binade + rung % f.binade) * 2 ^ (rung / f.binade - 1)

theorem nearest_exact (f : Format) (neg : Bool) (rung : Nat) (h : rung < f.infRung) (M : Nat) (E : Int)
    (hv : (f.leastPlace ≤ E ∧ M * 2 ^ (E - f.leastPlace).toNat = valR f rung) ∨ (E ≤ f.leastPlace ∧ M = valR f rung * 2 ^ (f.leastPlace - E).toNat)) :
    f.nearest neg M E = f.word neg rung := by
  have hb : 0 < f.binade := Nat.two_pow_pos _
  -- the digits that are kept
  obtain ⟨t, A, hA, hr, ht⟩ : ∃ t A, valR f rung = A * 2 ^ t ∧ t * f.binade + A = rung ∧ (valR f rung ≠ 0 → t = (valR f rung).log2 - f.fractionBits) := by
    unfold valR
    split
    · rename_i hlt
      refine ⟨0, rung, by simp, by simp, fun h0 => ?_⟩
      have := (Nat.log2_lt h0).2 hlt
      omega
    · rename_i hge
      refine ⟨rung / f.binade - 1, f.binade + rung % f.binade, rfl, ?_, fun _ => ?_⟩
      · have h1 := Nat.div_add_mod rung f.binade
        have h2 : 1 ≤ rung / f.binade := (Nat.le_div_iff_mul_le hb).2 (by omega)
        obtain ⟨q, hq⟩ : ∃ q, rung / f.binade = q + 1 := ⟨rung / f.binade - 1, by omega⟩
        rw [hq] at h1 ⊢
        rw [Nat.mul_add, Nat.mul_one] at h1
        rw [Nat.add_sub_cancel, Nat.mul_comm q]
        omega
      · have hm : rung % f.binade < f.binade := Nat.mod_lt _ hb
        rw [log2_shift _ _ (by omega)]
        have : (f.binade + rung % f.binade).log2 = f.fractionBits := by
          refine (Nat.log2_eq_iff (by omega)).2 ⟨?_, ?_⟩
          · show f.binade ≤ _; omega
          · rw [Nat.pow_succ]; show _ < f.binade * 2; omega
        omega
  unfold Format.nearest
  rcases Nat.eq_zero_or_pos M with rfl | hM
  · have hv0 : valR f rung = 0 := by
      rcases hv with ⟨_, h2⟩ | ⟨_, h2⟩
      · rw [← h2]; simp
      · rcases Nat.mul_eq_zero.1 h2.symm with h3 | h3
        · exact h3
        · exact absurd h3 (Nat.ne_of_gt (Nat.two_pow_pos _))
    have : rung = 0 := by
      unfold valR at hv0
      split at hv0
      · exact hv0
      · rcases Nat.mul_eq_zero.1 hv0 with h3 | h3
        · omega
        · exact absurd h3 (Nat.ne_of_gt (Nat.two_pow_pos _))
    rw [if_pos rfl, this]
  · rw [if_neg (by omega)]
    have hv0 : valR f rung ≠ 0 := by
      rcases hv with ⟨_, h2⟩ | ⟨_, h2⟩
      · rw [← h2]; exact Nat.mul_ne_zero (by omega) (Nat.ne_of_gt (Nat.two_pow_pos _))
      · intro h3; rw [h3] at h2; simp at h2; omega
    have hlog : E + M.log2 = f.leastPlace + (valR f rung).log2 := by
      rcases hv with ⟨h1, h2⟩ | ⟨h1, h2⟩
      · rw [← h2, log2_shift _ _ (by omega)]
        omega
      · rw [h2, log2_shift _ _ hv0]
        omega
    have ht' := ht hv0
    have hlast : max (E + M.log2 - f.fractionBits) f.leastPlace = f.leastPlace + t := by
      rw [hlog]
      omega
    rw [hlast]
    have hkept : M <<< (E - (f.leastPlace + t)).toNat = A * 2 ^ ((f.leastPlace + t) - E).toNat := by
      rw [Nat.shiftLeft_eq]
      rcases hv with ⟨h1, h2⟩ | ⟨h1, h2⟩
      · obtain ⟨k, hk⟩ : ∃ k : Nat, E = f.leastPlace + k := ⟨(E - f.leastPlace).toNat, by omega⟩
        subst hk
        rw [hA, show (f.leastPlace + (k : Int) - f.leastPlace).toNat = k by omega] at h2
        rcases Nat.le_total t k with htk | htk
        · rw [show (f.leastPlace + (k : Int) - (f.leastPlace + t)).toNat = k - t by omega, show (f.leastPlace + (t : Int) - (f.leastPlace + k)).toNat = 0 by omega]
          have : M * 2 ^ (k - t) * 2 ^ t = A * 2 ^ t := by rw [Nat.mul_assoc, ← Nat.pow_add, Nat.sub_add_cancel htk, h2]
          have := Nat.eq_of_mul_eq_mul_right (Nat.two_pow_pos t) this
          simpa using this
        · rw [show (f.leastPlace + (k : Int) - (f.leastPlace + t)).toNat = 0 by omega, show (f.leastPlace + (t : Int) - (f.leastPlace + k)).toNat = t - k by omega]
          have : M * 2 ^ k = A * 2 ^ (t - k) * 2 ^ k := by rw [Nat.mul_assoc, ← Nat.pow_add, Nat.sub_add_cancel htk, h2]
          have := Nat.eq_of_mul_eq_mul_right (Nat.two_pow_pos k) this
          simpa using this
      · obtain ⟨k, hk⟩ : ∃ k : Nat, f.leastPlace = E + k := ⟨(f.leastPlace - E).toNat, by omega⟩
        rw [hA, show (f.leastPlace - E).toNat = k by omega] at h2
        rw [show (E - (f.leastPlace + (t : Int))).toNat = 0 by omega, show (f.leastPlace + (t : Int) - E).toNat = t + k by omega, h2, Nat.pow_add]
        simp [Nat.mul_assoc]
    dsimp only
    rw [hkept, cut_exact, show (f.leastPlace + (t : Int) - f.leastPlace).toNat = t by omega, hr, Nat.min_eq_left (Nat.le_of_lt h)]

theorem rd_inf (f : Format) (neg : Bool) (rung : Nat) (h : rung < f.infRung) : (rd f neg rung).isInfinity = false := by
  unfold rd
  split
  · rfl
  · rfl

/-- The number of a finite rung, as a value in units of a least place. -/
theorem rd_val (f : Format) (neg : Bool) (rung : Nat) (h : rung < f.infRung) : ∃ m k : Nat, rd f neg rung = .number neg m (f.leastPlace + k) ∧ m * 2 ^ k = valR f rung ∧ m < 2 * f.binade ∧ k ≤ rung / f.binade := by
  have hb : 0 < f.binade := Nat.two_pow_pos _
  unfold rd valR
  split
  · exact ⟨rung, 0, by simp, by simp, by omega, Nat.zero_le _⟩
  · have := Nat.mod_lt rung hb
    exact ⟨_, _, rfl, rfl, by omega, Nat.sub_le _ _⟩

/-- A narrow number is wide, exactly. -/
theorem widen_exact (neg : Bool) (rung : Nat) (h : rung < Ieee.single.infRung) :
    ∃ r, r < Ieee.double.infRung ∧ Ieee.double.write (rd Ieee.single neg rung) = Ieee.double.word neg r ∧ Ieee.single.write (rd Ieee.double neg r) = Ieee.single.word neg rung := by
  obtain ⟨m, k, e, hv, hm, hk⟩ := rd_val Ieee.single neg rung h
  have hlp : Ieee.single.leastPlace = -149 := by decide
  have hlp2 : Ieee.double.leastPlace = -1074 := by decide
  have hbin : Ieee.single.binade = 2 ^ 23 := rfl
  have hbin2 : Ieee.double.binade = 2 ^ 52 := rfl
  have hinf : Ieee.single.infRung = 255 * 2 ^ 23 := by decide
  have hinf2 : Ieee.double.infRung = 2047 * 2 ^ 52 := by decide
  rw [hbin] at hm
  have hk' : k ≤ 254 := by
    have : rung / Ieee.single.binade < 255 := by
      rw [hbin]
      refine (Nat.div_lt_iff_lt_mul (Nat.two_pow_pos _)).2 ?_
      rw [hinf] at h
      exact h
    omega
  rcases Nat.eq_zero_or_pos m with rfl | hm0
  · refine ⟨0, by decide, ?_, ?_⟩
    · rw [e]; rfl
    · have hr0 : rung = 0 := by
        unfold valR at hv
        simp only [Nat.zero_mul] at hv
        split at hv
        · exact hv.symm
        · rcases Nat.mul_eq_zero.1 hv.symm with h3 | h3
          · omega
          · exact absurd h3 (Nat.ne_of_gt (Nat.two_pow_pos _))
      subst hr0
      cases neg <;> decide
  · -- the mantissa moved up to 53 digits
    have hlog : m.log2 ≤ 23 := by
      have := (Nat.log2_lt (n := m) (k := 24) (by omega)).2 (by omega)
      omega
    have hM1 : 2 ^ 52 ≤ m * 2 ^ (52 - m.log2) := by
      have h1 := Nat.mul_le_mul_right (2 ^ (52 - m.log2)) (Nat.log2_self_le (n := m) (by omega))
      rwa [← Nat.pow_add, show m.log2 + (52 - m.log2) = 52 by omega] at h1
    have hM2 : m * 2 ^ (52 - m.log2) < 2 ^ 53 := by
      have h1 := Nat.mul_lt_mul_of_pos_right (@Nat.lt_log2_self m) (Nat.two_pow_pos (52 - m.log2))
      rwa [← Nat.pow_add, show m.log2 + 1 + (52 - m.log2) = 53 by omega] at h1
    obtain ⟨c, hc⟩ : ∃ c : Nat, c = 925 := ⟨_, rfl⟩
    obtain ⟨q, hq⟩ : ∃ q : Nat, q = c + k + m.log2 - 52 := ⟨_, rfl⟩
    obtain ⟨M, hM⟩ : ∃ M, M = m * 2 ^ (52 - m.log2) := ⟨_, rfl⟩
    rw [← hM] at hM1 hM2
    -- the wide rung
    have hrd : ((q + 1) * 2 ^ 52 + (M - 2 ^ 52)) / 2 ^ 52 = q + 1 := by
      rw [Nat.mul_comm, Nat.mul_add_div (Nat.two_pow_pos 52), Nat.div_eq_of_lt (by omega)]
    have hrm : ((q + 1) * 2 ^ 52 + (M - 2 ^ 52)) % 2 ^ 52 = M - 2 ^ 52 := by
      rw [Nat.mul_comm, Nat.mul_add_mod, Nat.mod_eq_of_lt (by omega)]
    have hrung : (q + 1) * 2 ^ 52 + (M - 2 ^ 52) < Ieee.double.infRung := by
      rw [hinf2]
      omega
    have hge : ¬ (q + 1) * 2 ^ 52 + (M - 2 ^ 52) < Ieee.double.binade := by
      rw [hbin2]
      omega
    have hval : valR Ieee.double ((q + 1) * 2 ^ 52 + (M - 2 ^ 52)) = M * 2 ^ q := by
      unfold valR
      rw [if_neg hge, hbin2, hrd, hrm, Nat.add_sub_cancel, show 2 ^ 52 + (M - 2 ^ 52) = M by omega]
    have hMm : M * 2 ^ q = m * 2 ^ (c + k) := by
      rw [hM, Nat.mul_assoc, ← Nat.pow_add, show 52 - m.log2 + q = c + k by omega]
    refine ⟨_, hrung, ?_, ?_⟩
    · rw [e]
      refine nearest_exact Ieee.double neg _ hrung m _ (.inl ⟨by rw [hlp, hlp2]; omega, ?_⟩)
      rw [hval, hMm, hlp, hlp2, show (-149 + (k : Int) - -1074).toNat = c + k by omega]
    · have : rd Ieee.double neg ((q + 1) * 2 ^ 52 + (M - 2 ^ 52)) = .number neg M (Ieee.double.leastPlace + q) := by
        unfold rd
        rw [if_neg hge, if_pos hrung, hbin2, hrd, hrm, Nat.add_sub_cancel, show 2 ^ 52 + (M - 2 ^ 52) = M by omega]
      rw [this]
      refine nearest_exact Ieee.single neg rung h M _ ?_
      rw [← hv, hlp, hlp2]
      rcases Nat.le_total c q with hq9 | hq9
      · refine .inl ⟨by omega, ?_⟩
        rw [show (-1074 + (q : Int) - -149).toNat = q - c by omega]
        have : M * 2 ^ (q - c) * 2 ^ c = m * 2 ^ k * 2 ^ c := by
          rw [Nat.mul_assoc, ← Nat.pow_add, Nat.sub_add_cancel hq9, hMm, Nat.mul_assoc, ← Nat.pow_add, Nat.add_comm c]
        exact Nat.eq_of_mul_eq_mul_right (Nat.two_pow_pos c) this
      · refine .inr ⟨by omega, ?_⟩
        rw [show (-149 - (-1074 + (q : Int))).toNat = c - q by omega]
        have : M * 2 ^ q = m * 2 ^ k * 2 ^ (c - q) * 2 ^ q := by
          rw [hMm, Nat.mul_assoc, Nat.mul_assoc, ← Nat.pow_add, ← Nat.pow_add, show k + (c - q + q) = c + k by omega]
        exact Nat.eq_of_mul_eq_mul_right (Nat.two_pow_pos q) this
end Go.Proofs.YtnjcmonlfngjcaaDoor
