/- strconv.FormatUint at base 16. -/
import Derived.Test.YtnjcmonlfngjcaaDoorHexP
import Derived.Test.YtnjcmonlfngjcaaDoorProg
import Derived.Laws.IdiomStrings
import Derived.Laws.Slices
import Derived.Lib.Walk
import Derived.OwnWalk
namespace Go.Proofs.YtnjcmonlfngjcaaDoor
open Go.RowKit

set_option maxHeartbeats 400000 in
theorem pow16 (w : World) :
    Calls Tryd.prog 80 #[.int .i64 16] w fun e w' => e = .returned (.bool true) ∧ w = w' := by
  go_enter Tryd.func80, Tryd.ntmps80
  go_wp2_with fail
  go_ret
  exact ⟨ret_bool (by decide), rfl⟩
set_option maxRecDepth 100000 in
set_option maxHeartbeats 1000000 in
theorem trailing16b (w : World) (hT : w.cell? ⟨6, 15, none⟩ = some (.int .u8 4)) :
    Calls Tryd.prog 86 #[.int .u64 16] w fun e w' => e = .returned (.int .i64 4) ∧ w = w' := by
  have hidx : IntKind.u64.wrap (bits BinOp.and IntKind.u64 16 (IntKind.u64.wrap (-16)) * 285870213051353865) / 288230376151711744 = 15 := by decide
  go_enter Tryd.func86, Tryd.ntmps86
  go_wp2_with fail
  go_ret
  exact ⟨rfl, rfl⟩
set_option maxRecDepth 100000 in
set_option maxHeartbeats 1000000 in
theorem trailing16 (w : World) (hT : w.cell? ⟨6, 15, none⟩ = some (.int .u8 4)) :
    Calls Tryd.prog 81 #[.int .u64 16] w fun e w' => e = .returned (.int .i64 4) ∧ w = w' := by
  have HT := Lib.hid hT
  clear hT
  go_enter Tryd.func81, Tryd.ntmps81
  go_wp2_with fail
  refine (trailing16b _ HT.out).mono ?_
  rintro e w1 ⟨rfl, rfl⟩
  go_wp2_with fail
  go_ret
  exact ⟨rfl, rfl⟩

theorem wraps_u64_64 (n : Int) (h0 : 0 ≤ n) (h1 : n < 2 ^ 64) : IntKind.u64.wrap n = n := by rw [IntKind.wrap_u64]; omega
theorem low4 (v : Nat) (h : v < 18446744073709551616) : bits BinOp.and IntKind.u64 v 15 = (v : Int) % 16 := by
  have h := bits_mask .u64 64 (by decide) wraps_u64_64 4 (by decide) v (by omega) (by omega)
  have e : ((2 : Int) ^ 4 - 1) = 15 := by decide
  have e2 : ((2 : Int) ^ 4) = 16 := by decide
  rw [e, e2] at h
  exact h

/-- The digits written so far, behind what is left of the number. -/
structure HexSt (w wr : World) (u v : Nat) (D : List UInt8) : Prop where
  digits : hexL u = hexL v ++ D
  left : v * 16 ^ D.length ≤ u
  len : D.length ≤ 15
  below : Below w.heap.size w wr
  lt : w.heap.size < wr.heap.size
  row : ∀ j, j < 65 → ∃ x : Int, wr.cell? ⟨w.heap.size, j, none⟩ = some (.int .u8 x)
  frz : ∀ j, wr.frozen? ⟨w.heap.size, j, none⟩ = false
  cells : ∀ j (h : j < D.length), wr.cell? ⟨w.heap.size, 65 - D.length + j, none⟩ = some (.int .u8 (D[j].toNat : Int))

theorem HexSt.start (w : World) (u : Nat) : HexSt w (w.alloc (.cells Tryd.zeroCells116 116)) u u [] := by
  refine ⟨by simp, by simp, by simp, below_alloc (Below.refl _ _) _, by simp, fun j hj => ⟨0, ?_⟩, fun j => by simp, fun j h => absurd h (Nat.not_lt_zero _)⟩
  have e : Tryd.zeroCells116 = Array.replicate 65 (.int .u8 0) := by kernel_rfl
  rw [World.cell?_alloc_new, e]
  simp [hj]

theorem HexSt.step {w wr : World} {u v : Nat} {D : List UInt8} (h : HexSt w wr u v D) (hu : u < 18446744073709551616) (hv : 16 ≤ v) :
    HexSt w (wr.setCell ⟨w.heap.size, 65 - D.length - 1, none⟩ (.int .u8 ((hx (v % 16)).toNat : Int))) u (v / 16) (hx (v % 16) :: D) := by
  have hlen : D.length + 1 ≤ 15 := by
    have h1 := h.left
    rcases Nat.lt_or_ge D.length 15 with hl | hl
    · omega
    · have h2 : 16 ^ 15 ≤ 16 ^ D.length := Nat.pow_le_pow_right (by decide) hl
      have h3 : 16 * 16 ^ 15 ≤ v * 16 ^ D.length := Nat.mul_le_mul hv h2
      have h4 : 16 * 16 ^ 15 = 18446744073709551616 := by decide
      omega
  obtain ⟨x, hx0⟩ := h.row (65 - D.length - 1) (by omega)
  refine ⟨?_, ?_, by simpa using hlen, h.below.setCell (Nat.le_refl _) _, by simpa using h.lt, fun j hj => ?_, fun j => by simpa using h.frz j, fun j hj => ?_⟩
  · rw [h.digits, hexL_big (by omega : ¬ v < 16)]
    simp
  · refine Nat.le_trans ?_ h.left
    rw [List.length_cons, Nat.pow_succ, Nat.mul_comm (16 ^ D.length), ← Nat.mul_assoc]
    exact Nat.mul_le_mul_right _ (Nat.div_mul_le_self _ _)
  · by_cases e : j = 65 - D.length - 1
    · subst e
      exact ⟨_, World.cell?_setCell_same _ _ _ hx0⟩
    · obtain ⟨y, hy⟩ := h.row j hj
      exact ⟨y, (World.cell?_setCell_other _ _ _ _ (by simp <;> omega)).trans hy⟩
  · rw [List.length_cons] at hj ⊢
    cases j with
    | zero =>
      rw [show 65 - (D.length + 1) + 0 = 65 - D.length - 1 by omega]
      exact World.cell?_setCell_same _ _ _ hx0
    | succ j =>
      rw [show 65 - (D.length + 1) + (j + 1) = 65 - D.length + j by omega]
      exact (World.cell?_setCell_other _ _ _ _ (by simp <;> omega)).trans (h.cells j (by omega))

set_option maxRecDepth 100000 in
set_option maxHeartbeats 4000000 in
theorem formatBits16 (u : Nat) (hu : u < 18446744073709551616) (w : World) (hT : w.cell? ⟨6, 15, none⟩ = some (.int .u8 4)) :
    Calls Tryd.prog 70 #[.slice none 0 0, .int .u64 u, .int .i64 16, .bool false, .bool false] w fun e w' => e = .returned (.tuple #[.slice none 0 0, .string ⟨(hexL u).toArray⟩]) ∧ Below w.heap.size w w' := by
  have HT := Lib.hid hT
  clear hT
  go_enter Tryd.func70, Tryd.ntmps70
  go_wp2_with fail
  refine (pow16 _).mono ?_
  rintro e w1 ⟨rfl, rfl⟩
  go_wp2_with fail
  refine (trailing16 _ (cell_below HT.out (below_alloc (Below.refl _ _) _))).mono ?_
  rintro e w1 ⟨rfl, rfl⟩
  go_wp2_with fail
  go_name_bytes SM hSM
  have eSM : SM = Lib.digits36 := by rw [← hSM]; decide +kernel
  subst eSM
  clear hSM
  go_loopw [1, 13] (fun vu vi wr => ∃ (v : Nat) (D : List UInt8), v ≤ u ∧ vu = .int .u64 v ∧ vi = .int .i64 (65 - (D.length : Int)) ∧ Hid (HexSt w wr u v D)) (fun vu _ _ => (intOf vu).toNat)
  case atStart => exact ⟨u, [], Nat.le_refl _, rfl, rfl, HexSt.start w u⟩
  case round =>
    obtain ⟨v, D, hvu, rfl, rfl, HS⟩ := hrel
    have hl := HS.out.len
    obtain ⟨x, hx0⟩ := HS.out.row (65 - D.length - 1) (by omega)
    have hf := HS.out.frz
    have hv4 := low4 v (by omega)
    have hix := fun W => idx_digits (P := Tryd.prog) 9 Tryd.underlying9 .u64 ((v : Int) % 16) (v % 16) (by omega) (Nat.mod_lt _ (by decide)) W
    have hi0 : (0 : Int) ≤ 65 - (D.length : Int) - 1 := by omega
    have hi1 : (65 : Int) - (D.length : Int) - 1 < 65 := by omega
    have hi2 : ((65 : Int) - (D.length : Int) - 1).toNat = 65 - D.length - 1 := by omega
    by_cases h16 : 16 ≤ v
    · have h16I : (16 : Int) ≤ v := by omega
      go_wp2_with fail
      go_roundw
      case rel => exact ⟨v / 16, hx (v % 16) :: D, by omega, by go_num, by simp; omega, HS.out.step hu h16⟩
      case measure => simp [intOf]; omega
    · have h16I : ¬ ((16 : Int) ≤ v) := by omega
      have hv16 : v < 16 := by omega
      have hixv : ∀ W, (Instr.index 9 (.string ⟨#[48, 49, 50, 51, 52, 53, 54, 55, 56, 57, 97, 98, 99, 100, 101, 102, 103, 104, 105, 106, 107, 108, 109, 110, 111, 112, 113, 114, 115, 116, 117, 118, 119, 120, 121, 122]⟩) (.int .u64 (v : Int))).run Tryd.prog W = .ok (.int .u8 ((hx v).toNat : Int)) W := fun W => by
        rw [show (⟨#[48, 49, 50, 51, 52, 53, 54, 55, 56, 57, 97, 98, 99, 100, 101, 102, 103, 104, 105, 106, 107, 108, 109, 110, 111, 112, 113, 114, 115, 116, 117, 118, 119, 120, 121, 122]⟩ : ByteArray) = Lib.digits36 by decide +kernel]
        exact idx_digits (P := Tryd.prog) 9 Tryd.underlying9 .u64 (v : Int) v rfl hv16 W
      have hal : Tryd.prog.arrayLen 116 = 65 := by kernel_rfl
      have hsl : ∀ W, (Instr.sliceAt 116 (.pointer (some ⟨w.heap.size, 0, none⟩)) (some (.int .i64 (65 - (D.length : Int) - 1))) none none).run Tryd.prog W = .ok (.slice (some ⟨w.heap.size, 65 - D.length - 1, none⟩) (D.length + 1) (D.length + 1)) W := fun W => by
        rw [run_sliceAt_array_l W 116 ⟨w.heap.size, 0, none⟩ (by kernel_rfl) .i64 (65 - (D.length : Int) - 1) (by omega) (by rw [hal]; omega)]
        go_simp
        omega
      have hcv : (convert 22 9 (.slice (some ⟨w.heap.size, 65 - D.length - 1, none⟩) (D.length + 1) (D.length + 1))).run Tryd.prog (wr.setCell ⟨w.heap.size, 65 - D.length - 1, none⟩ (.int .u8 ((hx v).toNat : Int))) = .ok (.string ⟨(hx v :: D).toArray⟩) (wr.setCell ⟨w.heap.size, 65 - D.length - 1, none⟩ (.int .u8 ((hx v).toNat : Int))) :=
        run_convert_bytes_back (P := Tryd.prog) _ 22 9 5 ⟨w.heap.size, 65 - D.length - 1, none⟩ (D.length + 1) (hx v :: D) Tryd.underlying22 Tryd.underlying5 Tryd.underlying9 (fun j hj => by
          have ea : ((⟨w.heap.size, 65 - D.length - 1, none⟩ : Addr).add j) = ⟨w.heap.size, 65 - D.length - 1 + j, none⟩ := by simp [Addr.add]
          rw [ea]
          cases j with
          | zero => exact World.cell?_setCell_same _ _ _ hx0
          | succ j =>
            simp only [List.length_cons] at hj
            rw [show 65 - D.length - 1 + (j + 1) = 65 - D.length + j by omega]
            exact (World.cell?_setCell_other _ _ _ _ (by simp <;> omega)).trans (HS.out.cells j (by omega)))
      clear hix hv4 hal
      go_wp2_with fail
      refine bodyPost_ret (v := .tuple #[.slice none 0 0, .string ⟨(hx v :: D).toArray⟩]) (by simp [results, Tryd.results70, go_sem]) rfl ⟨?_, HS.out.below.setCell (Nat.le_refl _) _⟩
      rw [HS.out.digits, hexL_small hv16]
      rfl

set_option maxHeartbeats 400000 in
theorem formatUint16i (u : Nat) (hu : u < 18446744073709551616) (w : World) (hT : w.cell? ⟨6, 15, none⟩ = some (.int .u8 4)) :
    Calls Tryd.prog 55 #[.int .u64 u, .int .i64 16] w fun e w' => e = .returned (.string ⟨(hexL u).toArray⟩) ∧ Below w.heap.size w w' := by
  have HT := Lib.hid hT
  clear hT
  go_enter Tryd.func55, Tryd.ntmps55
  go_wp2_with fail
  refine (formatBits16 u hu _ HT.out).mono ?_
  rintro e w1 ⟨rfl, hB⟩
  go_wp2_with fail
  go_ret
  exact ⟨rfl, hB⟩
set_option maxHeartbeats 400000 in
theorem formatUint16 (u : Nat) (hu : u < 18446744073709551616) (w : World) (hT : w.cell? ⟨6, 15, none⟩ = some (.int .u8 4)) :
    Calls Tryd.prog 43 #[.int .u64 u, .int .i64 16] w fun e w' => e = .returned (.string ⟨(hexL u).toArray⟩) ∧ Below w.heap.size w w' := by
  have HT := Lib.hid hT
  clear hT
  go_enter Tryd.func43, Tryd.ntmps43
  go_wp2_with fail
  refine (formatUint16i u hu _ HT.out).mono ?_
  rintro e w1 ⟨rfl, hB⟩
  go_wp2_with fail
  go_ret
  exact ⟨rfl, hB⟩
end Go.Proofs.YtnjcmonlfngjcaaDoor
