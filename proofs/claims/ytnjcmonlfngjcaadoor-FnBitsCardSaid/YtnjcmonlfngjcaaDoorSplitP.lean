/- Cutting a text at a byte: the plain function, and that the library's words for strings.Split come to it. -/
import Derived.Lib.SplitLaws
namespace Go.Proofs.YtnjcmonlfngjcaaDoor

/-- A text cut at each c. -/
def splitL (c : UInt8) : List UInt8 → List (List UInt8)
  | [] => [[]]
  | x :: r => if x = c then [] :: splitL c r else match splitL c r with
    | [] => [[x]]
    | h :: t => (x :: h) :: t

theorem splitL_ne (c : UInt8) (l : List UInt8) : splitL c l ≠ [] := by
  cases l with
  | nil => simp [splitL]
  | cons x r =>
    unfold splitL
    split
    · simp
    · split <;> simp

theorem splitL_none (c : UInt8) : ∀ l : List UInt8, c ∉ l → splitL c l = [l]
  | [], _ => rfl
  | x :: r, h => by
    have hx : x ≠ c := fun e => h (by simp [e])
    have hr : c ∉ r := fun e => h (by simp [e])
    unfold splitL
    rw [if_neg hx, splitL_none c r hr]

theorem splitL_cut (c : UInt8) : ∀ (p r : List UInt8), c ∉ p → splitL c (p ++ c :: r) = p :: splitL c r
  | [], r, _ => by simp [splitL]
  | x :: p, r, h => by
    have hx : x ≠ c := fun e => h (by simp [e])
    have hr : c ∉ p := fun e => h (by simp [e])
    rw [List.cons_append, splitL, if_neg hx, splitL_cut c p r hr]

theorem index_one_none (c : UInt8) (l : List UInt8) (h : c ∉ l) : Lib.index l [c] = -1 := by
  refine Lib.index_none fun j hj => ?_
  cases hd : Lib.occAt l [c] j with
  | false => rfl
  | true =>
    have := Lib.occAt_head (t := []) rfl hd
    exact absurd (List.mem_of_getElem? this) h

theorem index_one_at (c : UInt8) (p r : List UInt8) (h : c ∉ p) : Lib.index (p ++ c :: r) [c] = p.length := by
  refine Lib.index_first (by simp) (by simp [Lib.occAt]) fun j hj => ?_
  cases hd : Lib.occAt (p ++ c :: r) [c] j with
  | false => rfl
  | true =>
    have := Lib.occAt_head (t := []) rfl hd
    rw [List.getElem?_append_left hj] at this
    exact absurd (List.mem_of_getElem? this) h

theorem first_cut (c : UInt8) (l : List UInt8) : c ∉ l ∨ ∃ p r, l = p ++ c :: r ∧ c ∉ p := by
  by_cases h : c ∈ l
  · obtain ⟨p, r, e, hp⟩ := List.eq_append_cons_of_mem h
    exact .inr ⟨p, r, e, hp⟩
  · exact .inl h

theorem splitB_L (c : UInt8) : ∀ (n : Nat) (s : ByteArray), s.size ≤ n → (Lib.splitB ⟨#[c]⟩ 0 (Lib.countB s ⟨#[c]⟩) s).map (·.data.toList) = splitL c s.data.toList := by
  intro n
  induction n with
  | zero =>
    intro s hs
    have h0 : s.data.toList = [] := by
      have : s.data.toList.length = 0 := by rw [← Lib.size_eq]; omega
      exact List.length_eq_zero_iff.1 this
    have hi : Lib.indexB s ⟨#[c]⟩ = -1 := by
      show Lib.index s.data.toList [c] = -1
      rw [h0]
      exact index_one_none c [] (by simp)
    rw [Lib.countB_miss _ _ hi, Lib.splitB_zero]
    simp [h0, splitL]
  | succ n ih =>
    intro s hs
    rcases first_cut c s.data.toList with h | ⟨p, r, e, hp⟩
    · have hi : Lib.indexB s ⟨#[c]⟩ = -1 := index_one_none c _ h
      rw [Lib.countB_miss _ _ hi, Lib.splitB_zero, splitL_none c _ h]
      rfl
    · have hi : Lib.indexB s ⟨#[c]⟩ = (p.length : Nat) := by
        show Lib.index s.data.toList [c] = _
        rw [e]
        exact index_one_at c p r hp
      have hsz : s.size = p.length + 1 + r.length := by
        rw [Lib.size_eq, e]; simp; omega
      rw [Lib.countB_hit s ⟨#[c]⟩ p.length (Nat.le_refl 1) hi, Nat.add_comm 1, Lib.splitB_hit _ _ _ _ _ hi, List.map_cons]
      have h1 : (s.extract 0 (p.length + 0)).data.toList = p := by
        rw [Lib.extract_data, e]; simp
      have h2 : (s.extract (p.length + (⟨#[c]⟩ : ByteArray).size) s.size).data.toList = r := by
        rw [Lib.extract_to_end, e]
        show List.drop (p.length + 1) (p ++ c :: r) = r
        simp
      rw [h1, ih _ (by rw [ByteArray.size_extract]; show min s.size s.size - (p.length + 1) ≤ n; omega), h2, e, splitL_cut c p r hp]

theorem splitB_words (c : UInt8) (s : ByteArray) : Lib.splitB ⟨#[c]⟩ 0 (Lib.countB s ⟨#[c]⟩) s = (splitL c s.data.toList).map fun l => ⟨l.toArray⟩ := by
  rw [← splitB_L c s.size s (Nat.le_refl _), List.map_map]
  conv => lhs; rw [← List.map_id (Lib.splitB _ _ _ _)]
  exact List.map_congr_left fun x _ => by simp

theorem splitL_length (c : UInt8) (s : ByteArray) : (splitL c s.data.toList).length = Lib.countB s ⟨#[c]⟩ + 1 := by
  rw [← splitB_L c s.size s (Nat.le_refl _), List.length_map]
  exact Lib.splitB_all ⟨#[c]⟩ (Nat.le_refl 1) _ _ _ rfl

end Go.Proofs.YtnjcmonlfngjcaaDoor
