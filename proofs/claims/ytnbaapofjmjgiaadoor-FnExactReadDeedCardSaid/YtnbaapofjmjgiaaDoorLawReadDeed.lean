/- The walk of the law FnExactReadDeed: it returns true. -/
import Derived.Test.YtnbaapofjmjgiaaDoorReadDeedI
namespace Go.Proofs.YtnbaapofjmjgiaaDoor
open Go.RowKit

theorem dText_size (k a b c : Int) (h : vDeed k a b c = true) : (dTextB k a b c).size ≤ 40 := by
  have h2 := h
  simp [vDeed, inB] at h2
  have hd : ∀ x : Int, 0 ≤ x → x ≤ 999 → (decS x).size ≤ 3 := by
    intro x _ hx
    have e : (decS x).size = (Lib.decDigits x.toNat).length := rfl
    rw [e]
    exact dec_len3 _ (by omega)
  have hw := wordOf_size k.toNat (by omega)
  have ha := hd a (by omega) (by omega)
  have hb := hd b (by omega) (by omega)
  have hc := hd c (by omega) (by omega)
  have hsp : sp.size = 1 := rfl
  unfold dTextB
  rw [h]
  simp only [if_true]
  unfold dText dText1
  split
  · simp only [ByteArray.size_append]; omega
  · split
    · simp only [ByteArray.size_append]; omega
    · simp only [ByteArray.size_append]; omega

theorem deed_long {text : ByteArray} (h : 40 < text.size) : Deed text false 0 0 0 0 :=
  .inr ⟨rfl, fun k a b c hv e => by have := dText_size k a b c hv; rw [e] at this; omega⟩

theorem specReadDeed_any (text : ByteArray) (w : World) (hs : text.size ≤ 1048576) (ok : Bool) (k0 a0 b0 c0 : Int) (HD : Hid (Deed text ok k0 a0 b0 c0)) :
    Calls Tryd.prog 4 #[.string text] w fun e w' => e = .returned (codeRes ok k0 a0 b0 c0) ∧ Below w.heap.size w w' := by
  rcases Nat.lt_or_ge 40 text.size with h | h
  · have hok : ok = false := by
      cases ok with
      | false => rfl
      | true =>
        rcases HD.out with ⟨_, hv, e⟩ | ⟨h2, _⟩
        · have := dText_size _ _ _ _ hv
          rw [e] at this
          omega
        · cases h2
    subst hok
    exact specReadDeed_long text w h hs k0 a0 b0 c0
  · exact specReadDeed_in text w h ok k0 a0 b0 c0 HD

set_option maxHeartbeats 400000 in
theorem eqDeed_same (k a b c : Int) (w : World) :
    Calls Tryd.prog 6 #[.agg #[.int .i64 k, .int .i64 a, .int .i64 b, .int .i64 c], .agg #[.int .i64 k, .int .i64 a, .int .i64 b, .int .i64 c]] w fun e w' => e = .returned (.bool true) ∧ Below w.heap.size w w' := by
  go_enter Tryd.func6, Tryd.ntmps6
  go_wp2_with fail
  go_ret
  exact ⟨rfl, below_alloc (below_alloc (Below.refl _ _) _) _⟩

set_option maxHeartbeats 400000 in
theorem lawReadDeed_any (tb toff : Nat) (text : ByteArray) (w : World) (HEnv : Hid (RDEnv w tb toff)) :
    Calls Tryd.prog 3 #[.string text] w fun e w' => e = .returned (.bool true) ∧ Below w.heap.size w w' := by
  rcases Nat.lt_or_ge 1048576 text.size with hs | hs
  · have hI : (1048576 : Int) < text.size := by omega
    go_enter Tryd.func3, Tryd.ntmps3
    go_wp2_with fail
    go_ret
    exact ⟨rfl, Below.refl _ _⟩
  · have hI : ¬ ((1048576 : Int) < text.size) := by omega
    obtain ⟨ok, k, a, b, c, hd⟩ := deed_some text
    have HD := Lib.hid hd
    clear hd
    go_enter Tryd.func3, Tryd.ntmps3
    go_wp2_with fail
    refine (specReadDeed_any text _ hs ok k a b c HD).mono ?_
    rintro e w1 ⟨rfl, hB1⟩
    obtain ⟨k', a', b', c', x, hcode⟩ : ∃ k' a' b' c' x, codeRes ok k a b c = .tuple #[.agg #[.int .i64 k', .int .i64 a', .int .i64 b', .int .i64 c'], .int .i64 x] := by
      unfold codeRes
      cases ok
      · exact ⟨_, _, _, _, _, rfl⟩
      · exact ⟨_, _, _, _, _, rfl⟩
    have HC := Lib.hid hcode
    rw [hcode]
    clear hcode
    go_wp2_with fail
    have hB1' := below_alloc hB1 (.cells #[.int .i64 k', .int .i64 a', .int .i64 b', .int .i64 c'] 23)
    refine (implReadDeed_in tb toff text _ hs (Lib.hid (HEnv.out.below hB1')) ok k a b c HD).mono ?_
    rintro e w2 ⟨he, hB2⟩
    rw [HC.out] at he
    subst he
    have hc0 : w2.cell? ⟨w1.heap.size, 0, none⟩ = some (.int .i64 k') := cell_below (by simp) hB2
    have hc1 : w2.cell? ⟨w1.heap.size, 1, none⟩ = some (.int .i64 a') := cell_below (by simp) hB2
    have hc2 : w2.cell? ⟨w1.heap.size, 2, none⟩ = some (.int .i64 b') := cell_below (by simp) hB2
    have hc3 : w2.cell? ⟨w1.heap.size, 3, none⟩ = some (.int .i64 c') := cell_below (by simp) hB2
    have hl := lt_of_cell hc0
    simp only at hl
    have HB2 := Lib.hid (below_call hB1' hB2)
    clear hB1 hB1' hB2
    go_wp2_with fail
    refine (eqDeed_same _ _ _ _ _).mono ?_
    rintro e w3 ⟨rfl, hB3⟩
    go_wp2_with fail
    go_ret
    exact ⟨rfl, below_call (below_alloc HB2.out _) hB3⟩

end Go.Proofs.YtnbaapofjmjgiaaDoor
