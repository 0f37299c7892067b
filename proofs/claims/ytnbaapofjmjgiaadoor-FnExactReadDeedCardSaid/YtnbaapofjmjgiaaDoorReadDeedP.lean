/- The texts of deeds, as lists of bytes: cut at the blanks they are the word and the numerals. -/
import Derived.Test.YtnbaapofjmjgiaaDoorSplitP
import Derived.Test.YtnbaapofjmjgiaaDoorDeedTextS
namespace Go.Proofs.YtnbaapofjmjgiaaDoor

theorem digit_not (c : UInt8) (hc : c.toNat < 48) (u : Nat) : c ∉ Lib.decDigits u := by
  rw [Lib.decDigits_eq]
  intro h
  obtain ⟨t, _, ht⟩ := List.mem_map.1 h
  have : c.toNat = (Lib.dg u (Lib.nDigits u - 1 - t)).toNat := by rw [ht]
  unfold Lib.dg at this
  simp at this
  omega

theorem word_not (kk : Nat) (h : kk < 9) : (32 : UInt8) ∉ (wordOf kk).data.toList := by
  have : kk = 0 ∨ kk = 1 ∨ kk = 2 ∨ kk = 3 ∨ kk = 4 ∨ kk = 5 ∨ kk = 6 ∨ kk = 7 ∨ kk = 8 := by omega
  rcases this with rfl | rfl | rfl | rfl | rfl | rfl | rfl | rfl | rfl <;> decide

/-- The words of a deed's text. -/
def dWords (kk : Nat) (a b c : Int) : List (List UInt8) :=
  (wordOf kk).data.toList :: Lib.decDigits a.toNat :: if 2 < numsOf kk then [Lib.decDigits b.toNat, Lib.decDigits c.toNat] else if 1 < numsOf kk then [Lib.decDigits b.toNat] else []

theorem dText_words (kk : Nat) (a b c : Int) (h : kk < 9) : splitL 32 (dText kk a b c).data.toList = dWords kk a b c := by
  have hd : ∀ x : Int, (decS x).data.toList = Lib.decDigits x.toNat := fun x => rfl
  have hs : sp.data.toList = [32] := rfl
  have n1 : ∀ u, (32 : UInt8) ∉ Lib.decDigits u := digit_not 32 (by decide)
  unfold dText dWords dText1
  split
  · simp only [ByteArray.data_append, Array.toList_append, hd, hs, List.append_assoc, List.cons_append, List.nil_append]
    rw [splitL_cut _ _ _ (word_not kk h), splitL_cut _ _ _ (n1 _), splitL_cut _ _ _ (n1 _), splitL_none _ _ (n1 _)]
  · split
    · simp only [ByteArray.data_append, Array.toList_append, hd, hs, List.append_assoc, List.cons_append, List.nil_append]
      rw [splitL_cut _ _ _ (word_not kk h), splitL_cut _ _ _ (n1 _), splitL_none _ _ (n1 _)]
    · simp only [ByteArray.data_append, Array.toList_append, hd, hs, List.append_assoc, List.cons_append, List.nil_append]
      rw [splitL_cut _ _ _ (word_not kk h), splitL_none _ _ (n1 _)]

end Go.Proofs.YtnbaapofjmjgiaaDoor
