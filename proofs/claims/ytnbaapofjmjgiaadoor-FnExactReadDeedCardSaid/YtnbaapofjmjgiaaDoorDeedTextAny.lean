/- DeedText of the program and of the reference, at every deed. -/
import Derived.Test.YtnbaapofjmjgiaaDoorDeedTextI
namespace Go.Proofs.YtnbaapofjmjgiaaDoor
open Go.RowKit

def dTextB (k a b c : Int) : ByteArray := if vDeed k a b c then dText k.toNat a b c else ⟨#[]⟩

set_option maxHeartbeats 400000 in
theorem specDeedText_any (k a b c : Int) (w : World) :
    Calls Tryd.prog 11 #[.agg #[.int .i64 k, .int .i64 a, .int .i64 b, .int .i64 c]] w fun e w' => e = .returned (.string (dTextB k a b c)) ∧ Below w.heap.size w w' := by
  cases hv : vDeed k a b c
  · have e0 : dTextB k a b c = ⟨#[]⟩ := by unfold dTextB; rw [hv]; rfl
    rw [e0]
    have HV := Lib.hid hv
    clear hv e0
    go_enter Tryd.func11, Tryd.ntmps11
    go_wp2_with fail
    refine (specValidDeed_any _ _ _ _ _).mono ?_
    rintro e w1 ⟨rfl, hB1⟩
    rw [HV.out]
    go_wp2_with fail
    go_ret
    exact ⟨rfl, below_call ((Below.refl _ _).alloc (Nat.le_refl _) _) hB1⟩
  · have h2 := hv
    simp [vDeed, inB] at h2
    obtain ⟨kk, rfl⟩ := Int.eq_ofNat_of_zero_le (show 0 ≤ k by omega)
    have e0 : dTextB kk a b c = dText kk a b c := by unfold dTextB; rw [hv]; rfl
    rw [e0]
    exact specDeedText_in kk a b c w (Lib.hid hv)

set_option maxHeartbeats 400000 in
theorem implDeedText_any (tb toff : Nat) (k a b c : Int) (w : World) (HT : Hid (DeedTab w tb toff)) (HP : Hid (Lib.TabIs Tryd.prog w "internal/strconv.uint64pow10" .u64 Lib.pow10Tab)) :
    Calls Tryd.prog 17 #[.agg #[.int .i64 k, .int .i64 a, .int .i64 b, .int .i64 c]] w fun e w' => e = .returned (.string (dTextB k a b c)) ∧ Below w.heap.size w w' := by
  cases hv : vDeed k a b c
  · have e0 : dTextB k a b c = ⟨#[]⟩ := by unfold dTextB; rw [hv]; rfl
    rw [e0]
    have HV := Lib.hid hv
    clear hv e0
    go_enter Tryd.func17, Tryd.ntmps17
    go_wp2_with fail
    refine (implValidDeed_any tb toff _ _ _ _ _ ?hT).mono ?_
    case hT =>
      intro j h1 h2
      exact (HT.out.manyAt j h1 h2).alloc _
    rintro e w1 ⟨rfl, hB1⟩
    rw [HV.out]
    go_wp2_with fail
    go_ret
    exact ⟨rfl, below_call ((Below.refl _ _).alloc (Nat.le_refl _) _) hB1⟩
  · have h2 := hv
    simp [vDeed, inB] at h2
    obtain ⟨kk, rfl⟩ := Int.eq_ofNat_of_zero_le (show 0 ≤ k by omega)
    have e0 : dTextB kk a b c = dText kk a b c := by unfold dTextB; rw [hv]; rfl
    rw [e0]
    have hp := numsOf_pos kk
    exact implDeedText_in kk (numsOf kk).toNat tb toff a b c w (Lib.hid hv) (Lib.hid (by omega)) HT HP

end Go.Proofs.YtnbaapofjmjgiaaDoor
