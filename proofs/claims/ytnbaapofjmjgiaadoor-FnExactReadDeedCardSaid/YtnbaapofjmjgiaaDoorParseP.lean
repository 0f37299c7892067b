/- Numerals are read as the numbers whose numerals they are. -/
import Derived.Test.YtnbaapofjmjgiaaDoorSmallP
import Derived.Lib.ParseIntB
import Derived.Lib.Strings
import Derived.Lib.ItoaMem
namespace Go.Proofs.YtnbaapofjmjgiaaDoor

def natL (n : Nat) (l : List UInt8) : Nat := l.foldl (fun n c => n * 10 + (c.toNat - 48)) n
theorem natL_le : ∀ (l : List UInt8) (n : Nat), n ≤ natL n l
  | [], n => Nat.le_refl _
  | c :: r, n => by
    have h := natL_le r (n * 10 + (c.toNat - 48))
    have e : natL n (c :: r) = natL (n * 10 + (c.toNat - 48)) r := rfl
    omega
theorem natL_dec (u : Nat) : natL 0 (Lib.decDigits u) = u := by
  induction u using Nat.strongRecOn with
  | _ u ih =>
    rw [Lib.decDigits]
    split
    · rename_i h
      unfold natL
      simp
      omega
    · rename_i h
      unfold natL at ih ⊢
      rw [List.foldl_append, ih (u / 10) (by omega)]
      simp
      omega
theorem parseUintM_ok (M : Nat) (hM : M ≤ 18446744073709551615) : ∀ (l : List UInt8) (acc : Nat), l.all digB = true → natL acc l ≤ M → Lib.parseUintM M acc l = .ok (natL acc l)
  | [], acc, _, _ => rfl
  | c :: r, acc, h, hle => by
    rw [List.all_cons, Bool.and_eq_true] at h
    have hc := h.1
    simp [digB] at hc
    have e : natL acc (c :: r) = natL (acc * 10 + (c.toNat - 48)) r := rfl
    rw [e] at hle ⊢
    have h1 := natL_le r (acc * 10 + (c.toNat - 48))
    rw [Lib.parseUintM, if_pos hc, if_neg (by omega), if_neg (by omega)]
    exact parseUintM_ok M hM r _ h.2 hle

theorem dec_ne (u : Nat) : Lib.decDigits u ≠ [] := by
  intro h
  have := Lib.nDigits_pos u
  rw [← dec_len, h] at this
  simp at this

theorem parse_dec (u : Nat) (h : u < 9223372036854775808) : Lib.parseIntB 64 (Lib.decDigits u) = .ok u := by
  have hd := dec_dig u
  have hU : Lib.parseUintB 64 (Lib.decDigits u) = .ok u := by
    unfold Lib.parseUintB
    rw [if_neg (dec_ne u), parseUintM_ok _ (by decide) _ _ hd (by rw [natL_dec]; omega), natL_dec]
  cases hl : Lib.decDigits u with
  | nil => exact absurd hl (dec_ne u)
  | cons c r =>
    rw [hl] at hd hU
    rw [List.all_cons, Bool.and_eq_true] at hd
    have hc := hd.1
    simp [digB] at hc
    have h43 : ¬ (c.toNat = 43 ∨ c.toNat = 45) := by omega
    have h45 : ¬ c.toNat = 45 := by omega
    unfold Lib.parseIntB
    dsimp only
    rw [if_neg h43, hU]
    dsimp only
    rw [if_neg (fun hh => by have := hh.2; omega), if_neg (fun hh => h45 hh.1), if_neg h45]

theorem trim_dec (u : Nat) : Lib.trimPrefix (Lib.decDigits u) [45] = Lib.decDigits u := by
  have hd := dec_dig u
  cases hl : Lib.decDigits u with
  | nil => exact absurd hl (dec_ne u)
  | cons c r =>
    rw [hl] at hd
    rw [List.all_cons, Bool.and_eq_true] at hd
    have hc := hd.1
    simp [digB] at hc
    have : ¬ ((45 : UInt8) = c) := by
      rintro rfl
      simp at hc
    unfold Lib.trimPrefix
    rw [if_neg]
    simp [Lib.hasPrefix, List.isPrefixOf]
    try (intro e; exact this e)

theorem dec_len3 (u : Nat) (h : u ≤ 999) : (Lib.decDigits u).length ≤ 3 := by
  rw [dec_len]
  rcases Nat.lt_or_ge u 10 with h10 | h10
  · rw [Lib.nDigits_small h10]; omega
  · rw [Lib.nDigits_big (by omega)]
    rcases Nat.lt_or_ge (u / 10) 10 with g10 | g10
    · rw [Lib.nDigits_small g10]; omega
    · rw [Lib.nDigits_big (by omega), Lib.nDigits_small (by omega)]; omega

theorem parse_bounds {l : List UInt8} {v : Int} (h : Lib.parseIntB 64 l = .ok v) : -9223372036854775808 ≤ v ∧ v ≤ 9223372036854775807 := by
  unfold Lib.parseIntB at h
  split at h
  · cases h
  · dsimp only at h
    split at h
    · cases h
    · cases h
    · rename_i u _
      split at h
      · cases h
      · split at h
        · cases h
        · rename_i h1 h2
          simp only [Lib.NumEnd.ok.injEq] at h
          split at h
          · rename_i hn
            simp only [hn, true_and] at h2
            omega
          · rename_i hn
            simp only [hn, not_false_iff, true_and] at h1
            omega
end Go.Proofs.YtnbaapofjmjgiaaDoor
