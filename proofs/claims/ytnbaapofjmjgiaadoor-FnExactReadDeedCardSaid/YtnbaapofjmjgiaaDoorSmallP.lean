/- Small numbers read from digits: the plain function, and that it reads numerals. -/
import Derived.Lib.ItoaLen
namespace Go.Proofs.YtnbaapofjmjgiaaDoor

def digB (c : UInt8) : Bool := decide (48 ≤ c.toNat) && decide (c.toNat ≤ 57)
def numL (l : List UInt8) : Int := l.foldl (fun n c => n * 10 + ((c.toNat : Int) - 48)) 0
def smallOf (l : List UInt8) : Int := if l.length < 1 ∨ 3 < l.length then -1 else if l.all digB then numL l else -1

theorem numL_snoc (l : List UInt8) (c : UInt8) : numL (l ++ [c]) = numL l * 10 + ((c.toNat : Int) - 48) := by
  unfold numL
  rw [List.foldl_append]
  rfl

theorem dec_dig (u : Nat) : (Lib.decDigits u).all digB = true := by
  rw [Lib.decDigits_eq, List.all_eq_true]
  intro x hx
  obtain ⟨t, _, rfl⟩ := List.mem_map.1 hx
  unfold Lib.dg digB
  have : (48 + u / 10 ^ (Lib.nDigits u - 1 - t) % 10) < 58 := by omega
  simp
  omega

theorem numL_dec (u : Nat) : numL (Lib.decDigits u) = u := by
  induction u using Nat.strongRecOn with
  | _ u ih =>
    rw [Lib.decDigits]
    split
    · rename_i h
      unfold numL
      simp
      omega
    · rename_i h
      rw [numL_snoc, ih (u / 10) (by omega)]
      simp
      omega

theorem dec_len (u : Nat) : (Lib.decDigits u).length = Lib.nDigits u := Lib.decDigits_length u

theorem smallOf_dec (u : Nat) (h : u ≤ 999) : smallOf (Lib.decDigits u) = u := by
  have h1 := Lib.nDigits_pos u
  have h3 : Lib.nDigits u ≤ 3 := by
    rcases Nat.lt_or_ge u 10 with h10 | h10
    · rw [Lib.nDigits_small h10]; omega
    · rw [Lib.nDigits_big (by omega)]
      rcases Nat.lt_or_ge (u / 10) 10 with g10 | g10
      · rw [Lib.nDigits_small g10]; omega
      · rw [Lib.nDigits_big (by omega), Lib.nDigits_small (by omega)]; omega
  unfold smallOf
  rw [if_neg (by rw [dec_len]; omega), if_pos (dec_dig u), numL_dec]

theorem numL_from : ∀ (l : List UInt8) (n : Int), l.all digB = true → 0 ≤ n → 0 ≤ l.foldl (fun n c => n * 10 + ((c.toNat : Int) - 48)) n ∧ l.foldl (fun n c => n * 10 + ((c.toNat : Int) - 48)) n < (n + 1) * 10 ^ l.length
  | [], n, _, h => by simp; omega
  | c :: r, n, h, h0 => by
    rw [List.all_cons, Bool.and_eq_true] at h
    have hc := h.1
    simp [digB] at hc
    obtain ⟨h1, h2⟩ := numL_from r (n * 10 + ((c.toNat : Int) - 48)) h.2 (by omega)
    refine ⟨h1, Int.lt_of_lt_of_le h2 ?_⟩
    rw [List.length_cons, Int.pow_succ, Int.mul_comm (10 ^ r.length), ← Int.mul_assoc]
    exact Int.mul_le_mul_of_nonneg_right (by omega) (Int.le_of_lt (Int.pow_pos (by omega)))

theorem numL_bounds (l : List UInt8) (h : l.all digB = true) : 0 ≤ numL l ∧ numL l < 10 ^ l.length := by
  have := numL_from l 0 h (by omega)
  simpa [numL] using this

theorem smallOf_bounds (l : List UInt8) : -1 ≤ smallOf l ∧ smallOf l ≤ 999 := by
  unfold smallOf
  split
  · omega
  · rename_i hl
    split
    · rename_i hd
      have := numL_bounds l hd
      have : (10 : Int) ^ l.length ≤ 10 ^ 3 := by
        have : l.length = 1 ∨ l.length = 2 ∨ l.length = 3 := by omega
        rcases this with e | e | e <;> rw [e] <;> decide
      omega
    · omega

end Go.Proofs.YtnbaapofjmjgiaaDoor
