/- Numerals to the base 16: the digits, padded, and read again. -/
import Derived.Test.YtnjcmonlfngjcaaDoorBase
import Derived.Lib.ItoaNum
import Derived.Lib.ItoaWalk
namespace Go.Proofs.YtnjcmonlfngjcaaDoor

def hx (d : Nat) : UInt8 := UInt8.ofNat (if d < 10 then 48 + d else 87 + d)
/-- The digits without zeros ahead. -/
def hexL (u : Nat) : List UInt8 := if _h : u < 16 then [hx u] else hexL (u / 16) ++ [hx (u % 16)]
termination_by u
decreasing_by omega

theorem hexL_small {u : Nat} (h : u < 16) : hexL u = [hx u] := by rw [hexL, dif_pos h]
theorem hexL_big {u : Nat} (h : ¬ u < 16) : hexL u = hexL (u / 16) ++ [hx (u % 16)] := by rw [hexL, dif_neg h]

theorem hexL_len (u : Nat) (k : Nat) (h : u < 16 ^ (k + 1)) : (hexL u).length ≤ k + 1 := by
  induction k generalizing u with
  | zero => rw [hexL_small (by simpa using h)]; simp
  | succ k ih =>
    by_cases hs : u < 16
    · rw [hexL_small hs]; simp
    · rw [hexL_big hs]
      have := ih (u / 16) ((Nat.div_lt_iff_lt_mul (by decide)).2 (by rwa [← Nat.pow_succ]))
      simp
      omega

theorem digits36_hx : ∀ d : Fin 16, Lib.digits36[d.val]! = hx d.val := by decide +kernel
theorem idx_digits {P : Program} (t : TypeId) (ht : P.underlying t = some .string) (k : IntKind) (z : Int) (i : Nat) (hz : z = (i : Int)) (hi : i < 16) (w : World) :
    (Instr.index t (.string Lib.digits36) (.int k z)).run P w = .ok (.int .u8 ((hx i).toNat : Int)) w := by
  subst hz
  have hs := Lib.digits36_size
  rw [run_index_string w t Lib.digits36 k _ ht, dif_pos ⟨by omega, by rw [hs]; omega⟩]
  have h := digits36_hx ⟨i, hi⟩
  simp only at h
  rw [← h]
  have e : ((i : Int)).toNat = i := by omega
  simp only [e]
  rw [getElem!_pos Lib.digits36 i (by omega)]

/-- One digit read. -/
def unhx (c : UInt8) : Option Nat := if 48 ≤ c.toNat ∧ c.toNat ≤ 57 then some (c.toNat - 48) else if 97 ≤ c.toNat ∧ c.toNat ≤ 102 then some (c.toNat - 87) else none
theorem unhx_hx_fin : ∀ d : Fin 16, unhx (hx d.val) = some d.val := by decide
theorem unhx_hx (d : Nat) (h : d < 16) : unhx (hx d) = some d := unhx_hx_fin ⟨d, h⟩
/-- Digits read behind a number. -/
def valX (n : Nat) : List UInt8 → Nat
  | [] => n
  | c :: r => valX (n * 16 + (unhx c).getD 0) r
theorem valX_append (n : Nat) (a b : List UInt8) : valX n (a ++ b) = valX (valX n a) b := by
  induction a generalizing n with
  | nil => rfl
  | cons c r ih => exact ih _
theorem valX_hexL (u : Nat) : valX 0 (hexL u) = u := by
  induction u using Nat.strongRecOn with
  | _ u ih =>
    by_cases h : u < 16
    · rw [hexL_small h]
      show 0 * 16 + (unhx (hx u)).getD 0 = u
      rw [unhx_hx u h]; simp
    · rw [hexL_big h, valX_append, ih (u / 16) (by omega)]
      show u / 16 * 16 + (unhx (hx (u % 16))).getD 0 = u
      rw [unhx_hx _ (by omega)]
      show u / 16 * 16 + u % 16 = u
      omega
theorem hexL_digits (u : Nat) : ∀ c ∈ hexL u, (unhx c).isSome = true := by
  induction u using Nat.strongRecOn with
  | _ u ih =>
    by_cases h : u < 16
    · rw [hexL_small h]
      intro c hc
      rw [List.mem_singleton.1 hc, unhx_hx u h]; rfl
    · rw [hexL_big h]
      intro c hc
      rcases List.mem_append.1 hc with hc | hc
      · exact ih (u / 16) (by omega) c hc
      · rw [List.mem_singleton.1 hc, unhx_hx _ (by omega)]; rfl

/-- So many digits. -/
def hexPad (k u : Nat) : List UInt8 := List.replicate (k - (hexL u).length) 48 ++ hexL u
theorem valX_zeros (n k : Nat) (h : n = 0) : valX n (List.replicate k 48) = 0 := by
  subst h
  induction k with
  | zero => rfl
  | succ k ih => exact ih
theorem valX_pad (k u : Nat) : valX 0 (hexPad k u) = u := by
  unfold hexPad
  rw [valX_append, valX_zeros 0 _ rfl, valX_hexL]
theorem pad_digits (k u : Nat) : ∀ c ∈ hexPad k u, (unhx c).isSome = true := by
  intro c hc
  rcases List.mem_append.1 hc with hc | hc
  · rw [List.eq_of_mem_replicate hc]; rfl
  · exact hexL_digits u c hc
theorem pad_len (k u : Nat) (h : u < 16 ^ (k + 1)) : (hexPad (k + 1) u).length = k + 1 := by
  have := hexL_len u k h
  unfold hexPad
  simp
  omega
end Go.Proofs.YtnjcmonlfngjcaaDoor
