/- The texts of the bits of a number. -/
import Derived.Test.YtnjcmonlfngjcaaDoorFmt16
import Derived.Test.YtnjcmonlfngjcaaDoorNum
import Derived.Test.YtnjcmonlfngjcaaDoorShelf
namespace Go.Proofs.YtnjcmonlfngjcaaDoor
open Go.RowKit

theorem repeat0 : ∀ c : Nat, Lib.repeatL [48] c = List.replicate c 48
  | 0 => rfl
  | c + 1 => by
    rw [List.replicate_succ, ← repeat0 c]
    rfl

set_option maxHeartbeats 400000 in
theorem hex_any (k u : Nat) (hk1 : 1 ≤ k) (hk : k ≤ 16) (hu : u < 16 ^ k) (w : World) (hT : w.cell? ⟨6, 15, none⟩ = some (.int .u8 4)) :
    Calls Tryd.prog 35 #[.int .u64 u, .int .i64 k] w fun e w' => e = .returned (.string ⟨(hexPad k u).toArray⟩) ∧ Below w.heap.size w w' := by
  have HT := Lib.hid hT
  clear hT
  have hlen : (hexL u).length ≤ k := by
    have := hexL_len u (k - 1) (by rwa [Nat.sub_add_cancel hk1])
    omega
  have hu64 : u < 18446744073709551616 := by
    have h1 : 16 ^ k ≤ 16 ^ 16 := Nat.pow_le_pow_right (by decide) hk
    have h2 : (16 : Nat) ^ 16 = 18446744073709551616 := by decide
    omega
  obtain ⟨c, hc⟩ : ∃ c : Nat, c = k - (hexL u).length := ⟨_, rfl⟩
  have hcI : (k : Int) - ((hexL u).length : Int) = c := by omega
  have hc16 : c ≤ 16 := by omega
  have hs1 : (⟨#[48]⟩ : ByteArray).size = 1 := rfl
  have hm : (⟨#[48]⟩ : ByteArray).size * c ≤ 140737488355328 := by rw [hs1]; omega
  have hm2 : c ≤ 9223372036854775807 := by omega
  have HRep := Lib.hid (fun w1 => Tryd.strings_Repeat ⟨#[48]⟩ c w1 hm2 hm)
  clear hu hs1 hm hm2
  go_enter Tryd.func35, Tryd.ntmps35
  go_wp2_with fail
  refine (formatUint16 u hu64 _ HT.out).mono ?_
  rintro e w1 ⟨rfl, hB1⟩
  have HB1 := Lib.hid hB1
  clear hB1
  go_wp2_with fail
  rw [← hc]
  refine (HRep.out _).mono ?_
  rintro e w2 ⟨rfl, hB2⟩
  have hcat : ¬ (9223372036854775807 < (Lib.repeatL [48] (k - (hexL u).length)).length + (hexL u).length) := by
    rw [repeat0, List.length_replicate]
    omega
  go_wp2_with fail
  go_ret
  refine ⟨ret_str ?_, below_call HB1.out hB2⟩
  unfold hexPad
  rw [← hc, ← repeat0]
  rfl

def nanT : ByteArray := ⟨#[110, 97, 110]⟩
/-- The text of a wide number's bits. -/
def bitsW (a : Nat) : ByteArray := if isN .f64 a then nanT else ⟨(hexPad 16 a).toArray⟩

set_option maxRecDepth 100000 in
set_option maxHeartbeats 400000 in
theorem bitsText_wide (a : Nat) (ha : a < 18446744073709551616) (w : World) (hT : w.cell? ⟨6, 15, none⟩ = some (.int .u8 4)) :
    Calls Tryd.prog 25 #[.float .f64 a, .bool false] w fun e w' => e = .returned (.string (bitsW a)) ∧ Below w.heap.size w w' := by
  have HT := Lib.hid hT
  clear hT
  have hb := toBits64
  have hns := neq_self a
  cases hn : isN .f64 a
  · rw [hn] at hns
    have HN := Lib.hid hn
    clear hn
    go_enter Tryd.func25, Tryd.ntmps25
    go_wp2_with fail
    refine (hex_any 16 a (by omega) (by omega) (by have : (16 : Nat) ^ 16 = 18446744073709551616 := by decide
                                                   omega) _ HT.out).mono ?_
    rintro e w1 ⟨rfl, hB⟩
    go_wp2_with fail
    go_ret
    exact ⟨ret_str (by unfold bitsW; rw [HN.out]; rfl), hB⟩
  · rw [hn] at hns
    have HN := Lib.hid hn
    clear hn
    go_enter Tryd.func25, Tryd.ntmps25
    go_wp2_with fail
    go_ret
    exact ⟨ret_str (by unfold bitsW; rw [HN.out]; rfl), Below.refl _ _⟩

set_option maxRecDepth 100000 in
set_option maxHeartbeats 400000 in
theorem bitsText_narrow (B b : Nat) (hb : b < 4294967296) (hBb : floatToFloatBits .f64 B .f32 = some b) (hn : isN .f64 B = false) (w : World) (hT : w.cell? ⟨6, 15, none⟩ = some (.int .u8 4)) :
    Calls Tryd.prog 25 #[.float .f64 B, .bool true] w fun e w' => e = .returned (.string ⟨(hexPad 8 b).toArray⟩) ∧ Below w.heap.size w w' := by
  have HT := Lib.hid hT
  clear hT
  have hb32 := toBits32
  have hns := neq_self B
  rw [hn] at hns
  have hcv : ∀ W, (convert 41 40 (.float .f64 B)).run Tryd.prog W = .ok (.float .f32 b) W := fun W => run_convert_float_float W 41 40 .f64 .f32 B b rfl Tryd.underlying40 hBb
  clear hn hBb
  go_enter Tryd.func25, Tryd.ntmps25
  go_wp2_with fail
  refine (hex_any 8 b (by omega) (by omega) (by have : (16 : Nat) ^ 8 = 4294967296 := by decide
                                                omega) _ HT.out).mono ?_
  rintro e w1 ⟨rfl, hB⟩
  go_wp2_with fail
  go_ret
  exact ⟨rfl, hB⟩
theorem bitsText_nan (B : Nat) (hn : isN .f64 B = true) (w : World) :
    Calls Tryd.prog 25 #[.float .f64 B, .bool true] w fun e w' => e = .returned (.string nanT) ∧ w = w' := by
  have hns := neq_self B
  rw [hn] at hns
  clear hn
  go_enter Tryd.func25, Tryd.ntmps25
  go_wp2_with fail
  go_ret
  exact ⟨rfl, rfl⟩
end Go.Proofs.YtnjcmonlfngjcaaDoor
