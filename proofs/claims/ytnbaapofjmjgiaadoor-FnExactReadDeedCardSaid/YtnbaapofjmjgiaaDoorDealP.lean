/- What the words of a text tell of the deed whose text it is: the plain law of ReadDeed. -/
import Derived.Test.YtnbaapofjmjgiaaDoorReadDeedP
import Derived.Test.YtnbaapofjmjgiaaDoorSmallP
import Derived.Test.YtnbaapofjmjgiaaDoorDeedTextAny
namespace Go.Proofs.YtnbaapofjmjgiaaDoor

/-- A text is that of the valid deed told, or of none. -/
def Deed (text : ByteArray) (ok : Bool) (k a b c : Int) : Prop :=
  (ok = true ∧ vDeed k a b c = true ∧ dTextB k a b c = text) ∨ (ok = false ∧ ∀ k a b c, vDeed k a b c = true → dTextB k a b c ≠ text)
theorem deed_some (text : ByteArray) : ∃ ok k a b c, Deed text ok k a b c := by
  classical
  by_cases h : ∃ k a b c, vDeed k a b c = true ∧ dTextB k a b c = text
  · obtain ⟨k, a, b, c, h1, h2⟩ := h
    exact ⟨true, k, a, b, c, .inl ⟨rfl, h1, h2⟩⟩
  · exact ⟨false, 0, 0, 0, 0, .inr ⟨rfl, fun k a b c h1 h2 => h ⟨k, a, b, c, h1, h2⟩⟩⟩

def wAt (WT : List ByteArray) (j : Nat) : List UInt8 := ((WT[j]?).getD ⟨#[]⟩).data.toList
def dA (WT : List ByteArray) : Int := smallOf (wAt WT 1)
def dB (WT : List ByteArray) (kk : Nat) : Int := if 1 < numsOf kk then smallOf (wAt WT 2) else 0
def dC (WT : List ByteArray) (kk : Nat) : Int := if 2 < numsOf kk ∧ 3 < WT.length then smallOf (wAt WT 3) else 0

structure Deal (text : ByteArray) (WT : List ByteArray) (ok : Bool) (k0 a0 b0 c0 : Int) : Prop where
  hit : ∀ kk : Nat, 1 ≤ kk → kk ≤ 8 → WT[0]? = some (wordOf kk) → dTextB kk (dA WT) (dB WT kk) (dC WT kk) = text → ok = true ∧ k0 = kk ∧ a0 = dA WT ∧ b0 = dB WT kk ∧ c0 = dC WT kk
  find : ok = true → ∃ kk : Nat, k0 = kk ∧ 1 ≤ kk ∧ kk ≤ 8 ∧ WT[0]? = some (wordOf kk) ∧ dTextB kk (dA WT) (dB WT kk) (dC WT kk) = text

theorem wordOf_inj (i j : Nat) (hi : i < 9) (hj : j < 9) (h : wordOf i = wordOf j) : i = j := by
  have h2 : (wordOf i).data.toList = (wordOf j).data.toList := by rw [h]
  have e1 : i = 0 ∨ i = 1 ∨ i = 2 ∨ i = 3 ∨ i = 4 ∨ i = 5 ∨ i = 6 ∨ i = 7 ∨ i = 8 := by omega
  have e2 : j = 0 ∨ j = 1 ∨ j = 2 ∨ j = 3 ∨ j = 4 ∨ j = 5 ∨ j = 6 ∨ j = 7 ∨ j = 8 := by omega
  clear h hi hj
  rcases e1 with rfl | rfl | rfl | rfl | rfl | rfl | rfl | rfl | rfl <;> rcases e2 with rfl | rfl | rfl | rfl | rfl | rfl | rfl | rfl | rfl <;> first | rfl | (exact absurd h2 (by decide))

theorem wordOf_ne (k : Nat) (h1 : 1 ≤ k) (h8 : k ≤ 8) : (wordOf k).data.toList ≠ [] := by
  have : k = 1 ∨ k = 2 ∨ k = 3 ∨ k = 4 ∨ k = 5 ∨ k = 6 ∨ k = 7 ∨ k = 8 := by omega
  rcases this with rfl | rfl | rfl | rfl | rfl | rfl | rfl | rfl <;> decide

theorem bytes_eq {s : ByteArray} {l : List UInt8} (h : s.data.toList = l) : s = ⟨l.toArray⟩ := by
  rw [← h]

theorem words_at {WS : List ByteArray} {L : List (List UInt8)} (h : WS.map (·.data.toList) = L) (j : Nat) : (WS[j]?).map (·.data.toList) = L[j]? := by
  rw [← h, List.getElem?_map]

theorem deal_of {text : ByteArray} {ok : Bool} {k0 a0 b0 c0 : Int} (H : Deed text ok k0 a0 b0 c0) {WS : List ByteArray} (hWS : WS.map (·.data.toList) = splitL 32 text.data.toList) :
    Deal text (WS ++ [⟨#[]⟩, ⟨#[]⟩]) ok k0 a0 b0 c0 := by
  rcases H with ⟨rfl, hv, ht⟩ | ⟨rfl, hno⟩
  · have h2 := hv
    simp [vDeed, inB] at h2
    obtain ⟨kk, rfl⟩ := Int.eq_ofNat_of_zero_le (show 0 ≤ k0 by omega)
    have e0 : dTextB kk a0 b0 c0 = dText kk a0 b0 c0 := by unfold dTextB; rw [hv]; rfl
    have hw : WS.map (·.data.toList) = dWords kk a0 b0 c0 := by rw [hWS, ← ht, e0, dText_words kk a0 b0 c0 (by omega)]
    have hat := words_at hw
    have hlen : WS.length = (dWords kk a0 b0 c0).length := by rw [← hw, List.length_map]
    have w0 : (WS ++ [⟨#[]⟩, ⟨#[]⟩] : List ByteArray)[0]? = some (wordOf kk) := by
      have h0 := hat 0
      simp only [dWords, List.getElem?_cons_zero, Option.map_eq_some_iff] at h0
      obtain ⟨s, hs, he⟩ := h0
      have : 0 < WS.length := (List.getElem?_eq_some_iff.1 hs).1
      rw [List.getElem?_append_left this, hs]
      exact congrArg some (bytes_eq he)
    have wj : ∀ j l, (dWords kk a0 b0 c0)[j]? = some l → wAt (WS ++ [⟨#[]⟩, ⟨#[]⟩]) j = l := by
      intro j l hl
      have h0 := hat j
      rw [hl, Option.map_eq_some_iff] at h0
      obtain ⟨s, hs, he⟩ := h0
      have : j < WS.length := (List.getElem?_eq_some_iff.1 hs).1
      unfold wAt
      rw [List.getElem?_append_left this, hs]
      exact he
    have hA : dA (WS ++ [⟨#[]⟩, ⟨#[]⟩]) = a0 := by
      unfold dA
      rw [wj 1 (Lib.decDigits a0.toNat) rfl, smallOf_dec _ (by omega)]
      omega
    have hB : dB (WS ++ [⟨#[]⟩, ⟨#[]⟩]) kk = b0 := by
      unfold dB
      split
      · rename_i h1
        rw [wj 2 (Lib.decDigits b0.toNat) (by unfold dWords; split <;> simp), smallOf_dec _ (by omega)]
        omega
      · omega
    have hC : dC (WS ++ [⟨#[]⟩, ⟨#[]⟩]) kk = c0 := by
      unfold dC
      by_cases h3 : 2 < numsOf kk
      · have hl : 3 < (WS ++ [⟨#[]⟩, ⟨#[]⟩] : List ByteArray).length := by
          rw [List.length_append, hlen]
          unfold dWords
          rw [if_pos h3]
          simp
        rw [if_pos ⟨h3, hl⟩, wj 3 (Lib.decDigits c0.toNat) (by unfold dWords; rw [if_pos h3]; rfl), smallOf_dec _ (by omega)]
        omega
      · rw [if_neg (fun h => h3 h.1)]
        omega
    refine ⟨fun k' h1 h8 hw' _ => ?_, fun _ => ⟨kk, rfl, by omega, by omega, w0, ?_⟩⟩
    · rw [w0] at hw'
      obtain rfl : kk = k' := wordOf_inj _ _ (by omega) (by omega) (Option.some.inj hw')
      exact ⟨rfl, rfl, hA.symm, hB.symm, hC.symm⟩
    · rw [hA, hB, hC]; exact ht
  · refine ⟨fun k' h1 h8 hw' he => ?_, fun h => by cases h⟩
    exfalso
    cases hv : vDeed k' (dA (WS ++ [⟨#[]⟩, ⟨#[]⟩])) (dB (WS ++ [⟨#[]⟩, ⟨#[]⟩]) k') (dC (WS ++ [⟨#[]⟩, ⟨#[]⟩]) k') with
    | true => exact hno _ _ _ _ hv he
    | false =>
      unfold dTextB at he
      rw [hv] at he
      have ht : text.data.toList = [] := by rw [← he]; rfl
      rw [ht] at hWS
      have h0 := words_at hWS 0
      simp only [splitL, List.getElem?_cons_zero, Option.map_eq_some_iff] at h0
      obtain ⟨s, hs, hs0⟩ := h0
      have : 0 < WS.length := (List.getElem?_eq_some_iff.1 hs).1
      rw [List.getElem?_append_left this, hs] at hw'
      have := Option.some.inj hw'
      rw [this] at hs0
      exact wordOf_ne k' h1 h8 hs0

end Go.Proofs.YtnbaapofjmjgiaaDoor
