/- The reference's Decimal gives the decimal numeral. -/
import Derived.Test.YtnbaapofjmjgiaaDoorProg
import Derived.Test.YtnbaapofjmjgiaaDoorBase
import Derived.Lib.ItoaLen
namespace Go.Proofs.YtnbaapofjmjgiaaDoor
open Go.RowKit

theorem conv1 (W : World) (b : Nat) (x : Int) (h : W.cell? ⟨b, 0, none⟩ = some (.int .u8 x)) : (convert 54 9 (.slice (some ⟨b, 0, none⟩) 1 1)).run Tryd.prog W = .ok (.string ⟨#[UInt8.ofNat x.toNat]⟩) W := by
  have := run_convert_bytes_arg (P := Tryd.prog) W 54 5 Tryd.underlying54 Tryd.underlying5 b 0 1 1 [x] rfl (fun i hi => by
    obtain rfl : i = 0 := by omega
    simpa using h) 9 Tryd.underlying9
  exact this

def decS (x : Int) : ByteArray := ⟨(Lib.decDigits x.toNat).toArray⟩
theorem decS_small (x : Int) (h0 : 0 ≤ x) (h : x < 10) : decS x = ⟨#[UInt8.ofNat (48 + x).toNat]⟩ := by
  unfold decS
  rw [Lib.decDigits_one (by omega), show ((48 : Int) + x).toNat = 48 + x.toNat by omega]
theorem decS_big (x : Int) (h : 10 ≤ x) : decS (x / 10) ++ ⟨#[UInt8.ofNat (48 + x % 10).toNat]⟩ = decS x := by
  unfold decS
  rw [Lib.decDigits.eq_def x.toNat, dif_neg (by omega), show (x / 10).toNat = x.toNat / 10 by omega, show ((48 : Int) + x % 10).toNat = 48 + x.toNat % 10 by omega]
  apply ByteArray.ext
  simp

theorem decS_size (x : Int) (h : x ≤ 9223372036854775807) : (decS x).size ≤ 20 := by
  unfold decS
  have := Lib.nDigits_le20 x.toNat (by omega)
  simpa [ByteArray.size, Lib.decDigits_length] using this

set_option maxHeartbeats 400000 in
theorem specDecimal_small (x : Int) (h0 : 0 ≤ x) (h : x < 10) (w : World) :
    Calls Tryd.prog 19 #[.int .i64 x] w fun e w' => e = .returned (.string (decS x)) ∧ Below w.heap.size w w' := by
  have hcv := conv1
  go_enter Tryd.func19, Tryd.ntmps19
  go_wp2_with fail
  go_ret
  refine ⟨?_, (Below.refl _ _).alloc (Nat.le_refl _) _⟩
  rw [decS_small x h0 h]
  rfl

set_option maxHeartbeats 1000000 in
theorem specDecimal_any (k : Nat) : ∀ (x : Int) (w : World), x ≤ k → 0 ≤ x → x ≤ 9223372036854775807 →
    Calls Tryd.prog 19 #[.int .i64 x] w fun e w' => e = .returned (.string (decS x)) ∧ Below w.heap.size w w' := by
  induction k with
  | zero => intro x w hk h0 _; exact specDecimal_small x h0 (by omega) w
  | succ k ih =>
    intro x w hk h0 hm
    by_cases h : x < 10
    · exact specDecimal_small x h0 h w
    · have hcv := conv1
      have IH := Lib.hid (ih (x / 10) · (by omega) (by omega) (by omega))
      clear ih
      have e1 : IntKind.i64.wrap (x.tdiv 10) = x / 10 := IntWalk.i64_quo x 10 (by omega)
      have e2 : x.tmod 10 = x % 10 := Int.tmod_eq_emod_of_nonneg h0
      have e3 : IntKind.i64.wrap (48 + x % 10) = 48 + x % 10 := IntWalk.i64_in _ (by omega)
      have e4 : IntKind.u8.wrap (48 + x % 10) = 48 + x % 10 := IntWalk.u8_in _ (by omega)
      have hsz := decS_size (x / 10) (by omega)
      go_enter Tryd.func19, Tryd.ntmps19
      go_wp2_with fail
      go_region_with (go_at_call 19; refine (IH.out _).mono ?_; rintro e w1 ⟨rfl, hb1⟩; have hc := (bcell hb1).1; try simp only [World.size_alloc] at hc)
      all_goals go_wp2_with fail
      all_goals go_ret
      all_goals refine ⟨congrArg (fun s => Ending.returned (.string s)) (decS_big x (by omega)), ?_⟩
      · have h1 := below_call ((Below.refl _ w).drew) hb1
        exact h1.alloc h1.size _
      · exact below_call (((Below.refl _ _).alloc (Nat.le_refl _) _).drew) hb1
      · exact below_call (((Below.refl _ _).alloc (Nat.le_refl _) _).drew) hb1

theorem specDecimal (x : Int) (w : World) (h0 : 0 ≤ x) (h1 : x ≤ 9223372036854775807) :
    Calls Tryd.prog 19 #[.int .i64 x] w fun e w' => e = .returned (.string (decS x)) ∧ Below w.heap.size w w' :=
  specDecimal_any x.toNat x w (by omega) h0 h1

end Go.Proofs.YtnbaapofjmjgiaaDoor
