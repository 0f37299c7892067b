/- What the program's numbers tell of the deed whose text it is. -/
import Derived.Test.YtnbaapofjmjgiaaDoorDealP
namespace Go.Proofs.YtnbaapofjmjgiaaDoor

/-- The numbers read so far are those of the words. -/
def Reads (WS : List ByteArray) (L : List Int) : Prop := ∀ j s, j < L.length → WS[j + 1]? = some s → ∀ u : Nat, u ≤ 999 → s.data.toList = Lib.decDigits u → L[j]? = some (u : Int)

theorem splitL_mem_len (c : UInt8) : ∀ (l x : List UInt8), x ∈ splitL c l → x.length ≤ l.length
  | [], x, h => by simp [splitL] at h; subst h; simp
  | y :: r, x, h => by
    have ih := splitL_mem_len c r
    unfold splitL at h
    split at h
    · rcases List.mem_cons.1 h with rfl | h
      · simp
      · have := ih x h; simp; omega
    · split at h
      · simp at h; subst h; simp
      · rename_i a t e
        rw [e] at ih
        rcases List.mem_cons.1 h with rfl | h
        · have := ih a (List.mem_cons_self ..); simp; omega
        · have := ih x (List.mem_cons_of_mem _ h); simp; omega

theorem deed_shape {text : ByteArray} {k0 a0 b0 c0 : Int} (H : Deed text true k0 a0 b0 c0) {WS : List ByteArray} (hWS : WS.map (·.data.toList) = splitL 32 text.data.toList) :
    ∃ kk : Nat, k0 = kk ∧ 1 ≤ kk ∧ kk ≤ 8 ∧ WS.map (·.data.toList) = dWords kk a0 b0 c0 ∧ (0 ≤ a0 ∧ a0 ≤ 999) ∧ (0 ≤ b0 ∧ b0 ≤ 999) ∧ (0 ≤ c0 ∧ c0 ≤ 999) ∧ (numsOf kk ≤ 1 → b0 = 0) ∧ (numsOf kk ≤ 2 → c0 = 0) := by
  rcases H with ⟨_, hv, ht⟩ | ⟨h, _⟩
  · have h2 := hv
    simp [vDeed, inB] at h2
    obtain ⟨kk, rfl⟩ := Int.eq_ofNat_of_zero_le (show 0 ≤ k0 by omega)
    have e0 : dTextB kk a0 b0 c0 = dText kk a0 b0 c0 := by unfold dTextB; rw [hv]; rfl
    refine ⟨kk, rfl, by omega, by omega, by rw [hWS, ← ht, e0, dText_words kk a0 b0 c0 (by omega)], by omega, by omega, by omega, by omega, by omega⟩
  · cases h

theorem deed_small {text : ByteArray} {k0 a0 b0 c0 : Int} (H : Deed text true k0 a0 b0 c0) {WS : List ByteArray} (hWS : WS.map (·.data.toList) = splitL 32 text.data.toList) (j : Nat) (s : ByteArray) (hj : WS[j + 1]? = some s) :
    ∃ u : Nat, u ≤ 999 ∧ s.data.toList = Lib.decDigits u := by
  obtain ⟨kk, _, _, _, hw, ha, hb, hc, _⟩ := deed_shape H hWS
  have h := words_at hw (j + 1)
  rw [hj] at h
  unfold dWords at h
  simp only [Option.map_some, List.getElem?_cons_succ] at h
  match j with
  | 0 =>
    simp only [List.getElem?_cons_zero, Option.some.injEq] at h
    exact ⟨a0.toNat, by omega, h⟩
  | j + 1 =>
    simp only [List.getElem?_cons_succ] at h
    split at h
    · match j with
      | 0 => simp only [List.getElem?_cons_zero, Option.some.injEq] at h; exact ⟨b0.toNat, by omega, h⟩
      | 1 => simp only [List.getElem?_cons_succ, List.getElem?_cons_zero, Option.some.injEq] at h; exact ⟨c0.toNat, by omega, h⟩
      | j + 2 => simp at h
    · split at h
      · match j with
        | 0 => simp only [List.getElem?_cons_zero, Option.some.injEq] at h; exact ⟨b0.toNat, by omega, h⟩
        | j + 1 => simp at h
      · simp at h

theorem deed_unique {text : ByteArray} {k a b c k' a' b' c' : Int} (H : Deed text true k a b c) (H' : Deed text true k' a' b' c') : k = k' ∧ a = a' ∧ b = b' ∧ c = c' := by
  have hWS : ((splitL 32 text.data.toList).map fun l => (⟨l.toArray⟩ : ByteArray)).map (·.data.toList) = splitL 32 text.data.toList := by
    rw [List.map_map]; exact List.map_id _
  have D := deal_of H hWS
  have D' := deal_of H' hWS
  obtain ⟨kk, e1, h1, h8, hw, ht⟩ := D.find rfl
  obtain ⟨kk', e1', h1', h8', hw', ht'⟩ := D'.find rfl
  rw [hw] at hw'
  obtain rfl : kk = kk' := wordOf_inj _ _ (by omega) (by omega) (Option.some.inj hw')
  obtain ⟨_, g1, g2, g3, g4⟩ := D.hit kk h1 h8 hw ht
  obtain ⟨_, g1', g2', g3', g4'⟩ := D'.hit kk h1 h8 hw ht
  exact ⟨g1.trans g1'.symm, g2.trans g2'.symm, g3.trans g3'.symm, g4.trans g4'.symm⟩

theorem deed_done {text : ByteArray} {ok : Bool} {k0 a0 b0 c0 : Int} (H : Deed text ok k0 a0 b0 c0) {WS : List ByteArray} (hWS : WS.map (·.data.toList) = splitL 32 text.data.toList)
    {L : List Int} (hR : Reads WS L) (hL : L.length + 1 = WS.length) {z : Int} {W0 : ByteArray} (e0 : WS[0]? = some W0) (hz : ∀ kk : Nat, 1 ≤ kk → kk ≤ 8 → W0 = wordOf kk → z = kk)
    {A B C : Int} (hA : (L ++ [0, 0, 0])[0]? = some A) (hB : (L ++ [0, 0, 0])[1]? = some B) (hC : (L ++ [0, 0, 0])[2]? = some C) :
    (ok = true ∧ vDeed z A B C = true ∧ dTextB z A B C = text ∧ k0 = z ∧ a0 = A ∧ b0 = B ∧ c0 = C) ∨ (ok = false ∧ ¬ (vDeed z A B C = true ∧ dTextB z A B C = text)) := by
  cases ok with
  | false =>
    rcases H with ⟨h, _⟩ | ⟨_, hno⟩
    · cases h
    · exact .inr ⟨rfl, fun h => hno _ _ _ _ h.1 h.2⟩
  | true =>
    obtain ⟨kk, rfl, h1, h8, hw, ha, hb, hc, hb0, hc0⟩ := deed_shape H hWS
    have hat := words_at hw
    have hlen : WS.length = (dWords kk a0 b0 c0).length := by rw [← hw, List.length_map]
    have hz' : z = kk := by
      refine hz kk h1 h8 ?_
      have h0 := hat 0
      rw [e0] at h0
      simp only [dWords, List.getElem?_cons_zero, Option.map_some, Option.some.injEq] at h0
      exact bytes_eq h0
    subst hz'
    have hread : ∀ j l, (dWords kk a0 b0 c0)[j + 1]? = some (Lib.decDigits l) → l ≤ 999 → L[j]? = some (l : Int) := by
      intro j l hj hl
      have h0 := hat (j + 1)
      rw [hj, Option.map_eq_some_iff] at h0
      obtain ⟨s, hs, he⟩ := h0
      have : j + 1 < WS.length := (List.getElem?_eq_some_iff.1 hs).1
      exact hR j s (by omega) hs l hl he
    have key : A = a0 ∧ B = b0 ∧ C = c0 := by
      have n3 : numsOf kk = 1 ∨ numsOf kk = 2 ∨ numsOf kk = 3 := by unfold numsOf; split <;> (try split) <;> simp
      have r0 := hread 0 a0.toNat rfl (by omega)
      rcases n3 with n | n | n
      · have hl : L.length = 1 := by
          have : (dWords kk a0 b0 c0).length = 2 := by unfold dWords; rw [n]; rfl
          omega
        obtain ⟨x, rfl⟩ := List.length_eq_one_iff.1 hl
        simp at r0 hA hB hC
        have := hb0 (by omega)
        have := hc0 (by omega)
        omega
      · have hl : L.length = 2 := by
          have : (dWords kk a0 b0 c0).length = 3 := by unfold dWords; rw [n]; rfl
          omega
        have r1 := hread 1 b0.toNat (by unfold dWords; rw [n]; rfl) (by omega)
        obtain ⟨x, y, rfl⟩ : ∃ x y, L = [x, y] := by
          match L, hl with
          | [x, y], _ => exact ⟨x, y, rfl⟩
        simp at r0 r1 hA hB hC
        have := hc0 (by omega)
        omega
      · have hl : L.length = 3 := by
          have : (dWords kk a0 b0 c0).length = 4 := by unfold dWords; rw [n]; rfl
          omega
        have r1 := hread 1 b0.toNat (by unfold dWords; rw [n]; rfl) (by omega)
        have r2 := hread 2 c0.toNat (by unfold dWords; rw [n]; rfl) (by omega)
        obtain ⟨x, y, u, rfl⟩ : ∃ x y u, L = [x, y, u] := by
          match L, hl with
          | [x, y, u], _ => exact ⟨x, y, u, rfl⟩
        simp at r0 r1 r2 hA hB hC
        omega
    obtain ⟨rfl, rfl, rfl⟩ := key
    rcases H with ⟨_, hv, ht⟩ | ⟨h, _⟩
    · exact .inl ⟨rfl, hv, ht, rfl, rfl, rfl, rfl⟩
    · cases h

end Go.Proofs.YtnbaapofjmjgiaaDoor
