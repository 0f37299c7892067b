/- slices.IndexFunc over the deeds' forms, with the closure that compares words. -/
import Derived.Test.YtnbaapofjmjgiaaDoorDeedTextI
import Derived.Test.YtnbaapofjmjgiaaDoorReadDecimal
import Derived.Test.YtnbaapofjmjgiaaDoorReadDeedS
namespace Go.Proofs.YtnbaapofjmjgiaaDoor
open Go.RowKit

/-- The variable that the closure captures holds a slice whose first word is told. -/
structure HeadAt (w : World) (p : Nat) (W0 : ByteArray) (g n cap : Nat) : Prop where
  var : w.cell? ⟨p, 0, none⟩ = some (.slice (some ⟨g, 0, none⟩) n cap)
  pos : 0 < n
  word : w.cell? ⟨g, 0, none⟩ = some (.string W0)
theorem HeadAt.below {w w1 : World} {p : Nat} {W0 : ByteArray} {g n cap : Nat} (h : HeadAt w p W0 g n cap) (hb : Below w.heap.size w w1) : HeadAt w1 p W0 g n cap :=
  ⟨cell_below h.var hb, h.pos, cell_below h.word hb⟩

set_option maxHeartbeats 400000 in
theorem sameWord_any (s : ByteArray) (m : Int) (p : Nat) (W0 : ByteArray) (g n cap : Nat) (w : World) (h : HeadAt w p W0 g n cap) :
    Calls Tryd.prog 14 #[.agg #[.string s, .int .i64 m], .pointer (some ⟨p, 0, none⟩)] w fun e w' => e = .returned (.bool (s.toList == W0.toList)) ∧ Below w.heap.size w w' := by
  have h1 := h.var
  have h2 := h.pos
  have h3 := h.word
  have hp := lt_of_cell h1
  have hg := lt_of_cell h3
  simp only at hp hg
  clear h
  go_enter Tryd.func14, Tryd.ntmps14
  go_wp2_with fail
  go_quiet (fail)
  go_wp2_with fail
  go_ret
  exact ⟨rfl, below_drewN (below_alloc (Below.refl _ _) _) _⟩

/-- What the search over the forms leaves: the kind whose word it is. -/
def KindPost (W0 : ByteArray) (w : World) (e : Ending) (w' : World) : Prop := ∃ z : Int, e = .returned (.int .i64 z) ∧ Below w.heap.size w w' ∧ ∀ kk : Nat, 1 ≤ kk → kk ≤ 8 → W0 = wordOf kk → z = kk

theorem DeedTab.word0 {w : World} {tb toff : Nat} (h : DeedTab w tb toff) (kk : Nat) (h8 : kk < 9) : ∃ m : Int, w.cell? ⟨tb, toff + kk * 2, none⟩ = some (.string (wordOf kk)) ∧ w.cell? ⟨tb, toff + kk * 2 + 1, none⟩ = some (.int .i64 m) := by
  rcases Nat.eq_zero_or_pos kk with rfl | h1
  · exact ⟨_, (h.cells 0 _ rfl).1, (h.cells 0 _ rfl).2⟩
  · exact ⟨_, h.word kk h1 (by omega), h.many kk h1 (by omega)⟩

set_option maxHeartbeats 1000000 in
theorem indexForms_any (tb toff : Nat) (p : Nat) (W0 : ByteArray) (g n cap : Nat) (w : World) (HT : Hid (DeedTab w tb toff)) (HH : Hid (HeadAt w p W0 g n cap)) :
    Calls Tryd.prog 13 #[.slice (some ⟨tb, toff, none⟩) 9 9, .func (.func 14) #[] #[.pointer (some ⟨p, 0, none⟩)]] w (KindPost W0 w) := by
  go_enter Tryd.func13, Tryd.ntmps13
  go_wp2_with fail
  go_loopw [5, 8] (fun _ i wr => ∃ kk : Nat, kk ≤ 9 ∧ i = .int .i64 kk ∧ Hid (Below w.heap.size w wr) ∧ Hid (∀ j, j < kk → W0 ≠ wordOf j)) (fun _ i _ => 9 - (intOf i).toNat)
  case atStart => exact ⟨0, by omega, rfl, Below.refl _ _, fun j hj => absurd hj (Nat.not_lt_zero _)⟩
  case round =>
    obtain ⟨kk, hk9, rfl, HB, HJ⟩ := hrel
    by_cases hk : kk < 9
    · obtain ⟨m, c0, c1⟩ := (HT.out.below HB.out).word0 kk hk
      have hkI : (kk : Int) < 9 := by omega
      have H1 := HH.out.below HB.out
      cases hq : ((wordOf kk).toList == W0.toList) with
      | true =>
        have HQ := Lib.hid hq
        go_wp2_with fail
        refine (sameWord_any _ _ _ _ _ _ _ _ H1).mono ?_
        rintro e w' ⟨he1, hb'⟩
        rw [HQ.out] at he1
        subst he1
        go_wp2_with fail
        go_ret
        refine ⟨kk, rfl, below_call HB.out hb', fun k' h1 h8 he => ?_⟩
        rw [wordOf_inj k' kk (by omega) hk (he.symm.trans (toList_eq' HQ.out).symm)]
      | false =>
        have HQ := Lib.hid hq
        go_wp2_with fail
        refine (sameWord_any _ _ _ _ _ _ _ _ H1).mono ?_
        rintro e w' ⟨he1, hb'⟩
        rw [HQ.out] at he1
        subst he1
        go_wp2_with fail
        go_roundw
        case rel =>
          refine ⟨kk + 1, by omega, by go_num, below_call HB.out hb', fun j hj => ?_⟩
          rcases Nat.lt_or_ge j kk with hl | hl
          · exact HJ.out j hl
          · obtain rfl : j = kk := by omega
            intro e
            have := HQ.out
            rw [e] at this
            simp at this
        case measure => simp [intOf]; omega
    · obtain rfl : kk = 9 := by omega
      go_wp2
      go_ret
      exact ⟨-1, rfl, HB.out, fun k' h1 h8 he => absurd he (HJ.out k' (by omega))⟩
end Go.Proofs.YtnbaapofjmjgiaaDoor
