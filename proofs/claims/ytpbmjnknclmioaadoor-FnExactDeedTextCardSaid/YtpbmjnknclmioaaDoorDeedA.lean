/- The walks of the small functions of deeds: what each returns, in memory that stays as it was. -/
import Derived.Test.YtpbmjnknclmioaaDoorProg
import Derived.WalkKit
import Derived.WalkSpells
import Derived.WalkLawsBesides
import Derived.Deep.QuietTactic
import Derived.BigQuiet
import Derived.Lib.Hide
namespace Go.Proofs.YtpbmjnknclmioaaDoor
open Go.RowKit

def inB (x a b : Int) : Bool := decide (a ≤ x) && decide (x ≤ b)
theorem ret_bool {a b : Bool} (h : a = b) : Ending.returned (.bool a) = .returned (.bool b) := by rw [h]
theorem ret_int {k : IntKind} {a b : Int} (h : a = b) : Ending.returned (.int k a) = .returned (.int k b) := by rw [h]

set_option maxHeartbeats 400000 in
theorem in_any (x a b : Int) (w : World) :
    Calls Tryd.prog 12 #[.int .i64 x, .int .i64 a, .int .i64 b] w fun e w' => e = .returned (.bool (inB x a b)) ∧ w = w' := by
  go_enter Tryd.func12, Tryd.ntmps12
  go_wp2
  all_goals (go_ret; exact ⟨ret_bool (by simp [inB]; omega), rfl⟩)

set_option maxHeartbeats 400000 in
theorem l00In_any (x a b : Int) (w : World) :
    Calls Tryd.prog 10 #[.int .i64 x, .int .i64 a, .int .i64 b] w fun e w' => e = .returned (.bool (inB x a b)) ∧ w = w' := by
  go_enter Tryd.func10, Tryd.ntmps10
  go_wp2
  all_goals (go_ret; exact ⟨ret_bool (by simp [inB]; omega), rfl⟩)

set_option maxHeartbeats 400000 in
theorem isNumber_any (x : Int) (w : World) :
    Calls Tryd.prog 14 #[.int .i64 x] w fun e w' => e = .returned (.bool (inB x 0 999)) ∧ w = w' := by
  go_enter Tryd.func14, Tryd.ntmps14
  go_wp2_with (go_at_call 12; refine (in_any _ _ _ _).mono ?_; rintro e w' ⟨rfl, rfl⟩)
  go_ret
  exact ⟨rfl, rfl⟩

/-- How many numbers the text of a kind mentions, as the reference tells it. -/
def numsOf (k : Int) : Int := if k = 1 ∨ k = 2 then 3 else if k = 6 then 2 else 1

set_option maxHeartbeats 400000 in
theorem l09Numbers_any (k : Int) (w : World) :
    Calls Tryd.prog 11 #[.int .i64 k] w fun e w' => e = .returned (.int .i64 (numsOf k)) ∧ w = w' := by
  go_enter Tryd.func11, Tryd.ntmps11
  go_wp2
  all_goals (go_ret; refine ⟨ret_int ?_, rfl⟩; simp_all [numsOf])



theorem in_t (x a b : Int) (w : World) (h : inB x a b = true) :
    Calls Tryd.prog 12 #[.int .i64 x, .int .i64 a, .int .i64 b] w fun e w' => e = .returned (.bool true) ∧ w' = w :=
  (in_any x a b w).mono fun _ _ ⟨he, hw⟩ => ⟨by rw [he, h], hw.symm⟩
theorem in_f (x a b : Int) (w : World) (h : inB x a b = false) :
    Calls Tryd.prog 12 #[.int .i64 x, .int .i64 a, .int .i64 b] w fun e w' => e = .returned (.bool false) ∧ w' = w :=
  (in_any x a b w).mono fun _ _ ⟨he, hw⟩ => ⟨by rw [he, h], hw.symm⟩
theorem l00In_t (x a b : Int) (w : World) (h : inB x a b = true) :
    Calls Tryd.prog 10 #[.int .i64 x, .int .i64 a, .int .i64 b] w fun e w' => e = .returned (.bool true) ∧ w' = w :=
  (l00In_any x a b w).mono fun _ _ ⟨he, hw⟩ => ⟨by rw [he, h], hw.symm⟩
theorem l00In_f (x a b : Int) (w : World) (h : inB x a b = false) :
    Calls Tryd.prog 10 #[.int .i64 x, .int .i64 a, .int .i64 b] w fun e w' => e = .returned (.bool false) ∧ w' = w :=
  (l00In_any x a b w).mono fun _ _ ⟨he, hw⟩ => ⟨by rw [he, h], hw.symm⟩
theorem isNumber_t (x : Int) (w : World) (h : inB x 0 999 = true) :
    Calls Tryd.prog 14 #[.int .i64 x] w fun e w' => e = .returned (.bool true) ∧ w' = w :=
  (isNumber_any x w).mono fun _ _ ⟨he, hw⟩ => ⟨by rw [he, h], hw.symm⟩
theorem isNumber_f (x : Int) (w : World) (h : inB x 0 999 = false) :
    Calls Tryd.prog 14 #[.int .i64 x] w fun e w' => e = .returned (.bool false) ∧ w' = w :=
  (isNumber_any x w).mono fun _ _ ⟨he, hw⟩ => ⟨by rw [he, h], hw.symm⟩
theorem l09Numbers_at (k n : Int) (w : World) (h : numsOf k = n) :
    Calls Tryd.prog 11 #[.int .i64 k] w fun e w' => e = .returned (.int .i64 n) ∧ w' = w :=
  (l09Numbers_any k w).mono fun _ _ ⟨he, hw⟩ => ⟨by rw [he, h], hw.symm⟩

/-- A deed that is valid. -/
def vDeed (k a b c : Int) : Bool := inB k 1 8 && inB a 0 999 && inB b 0 999 && inB c 0 999 && (decide (1 < numsOf k) || b == 0) && (decide (2 < numsOf k) || c == 0)

set_option maxHeartbeats 1000000 in
theorem specValidDeed_any (k a b c : Int) (w : World) :
    Calls Tryd.prog 5 #[.agg #[.int .i64 k, .int .i64 a, .int .i64 b, .int .i64 c]] w fun e w' => e = .returned (.bool (vDeed k a b c)) ∧ Below w.heap.size w w' := by
  go_enter Tryd.func5, Tryd.ntmps5
  go_wp2_with (first | (go_at_call 10; refine (l00In_any _ _ _ _).mono ?_; rintro e w' ⟨rfl, rfl⟩) | (go_at_call 11; refine (l09Numbers_any _ _).mono ?_; rintro e w' ⟨rfl, rfl⟩))
  all_goals (go_ret; refine ⟨ret_bool ?_, (Below.refl _ _).alloc (Nat.le_refl _) _⟩)
  all_goals (first | (simp_all [vDeed]; done) | (simp_all [vDeed]; omega))

set_option maxHeartbeats 400000 in
theorem numbers_any (k a b c : Int) (w : World) :
    Calls Tryd.prog 13 #[.agg #[.int .i64 k, .int .i64 a, .int .i64 b, .int .i64 c]] w fun e w' => e = .returned (.slice (some ⟨w.heap.size + 1, 0, none⟩) 3 3) ∧ (w.alloc (.cells #[.int .i64 k, .int .i64 a, .int .i64 b, .int .i64 c] 25)).alloc (.cells #[.int .i64 a, .int .i64 b, .int .i64 c] 2) = w' := by
  go_enter Tryd.func13, Tryd.ntmps13
  go_wp2
  go_ret
  exact ⟨rfl, rfl⟩

set_option maxHeartbeats 400000 in
theorem toDeed_any (k a b c : Int) (w : World) :
    Calls Tryd.prog 6 #[.agg #[.int .i64 k, .int .i64 a, .int .i64 b, .int .i64 c]] w fun e w' => e = .returned (.agg #[.int .i64 k, .int .i64 a, .int .i64 b, .int .i64 c]) ∧ Below w.heap.size w w' := by
  go_enter Tryd.func6, Tryd.ntmps6
  go_wp2
  refine bodyPost_ret (v := .agg #[.int .i64 k, .int .i64 a, .int .i64 b, .int .i64 c]) (by simp [results, Tryd.results6, go_sem]) rfl ⟨rfl, ?_⟩
  exact ((((((((Below.refl _ _).alloc (Nat.le_refl _) _).alloc (by simp) _).alloc (by simp; omega) _)))))

/-- The table of forms: where it lies, how many numbers the kind kk mentions. -/
structure ManyAt (w : World) (tb toff kk : Nat) (m : Int) : Prop where
  head : w.cell? ⟨0, 0, none⟩ = some (.slice (some ⟨tb, toff, none⟩) 9 9)
  h0 : 0 < w.heap.size
  hb : tb < w.heap.size
  many : w.cell? ⟨tb, toff + kk * 2 + 1, none⟩ = some (.int .i64 m)

/-- What the loop over the numbers of a deed has seen behind j rounds. -/
def Acc (m a b c : Int) (j : Nat) : Prop := (0 < j → 0 ≤ a ∧ a ≤ 999) ∧ (1 < j → 0 ≤ b ∧ b ≤ 999 ∧ (1 < m ∨ b = 0)) ∧ (2 < j → 0 ≤ c ∧ c ≤ 999 ∧ (2 < m ∨ c = 0))
theorem Acc.zero (m a b c : Int) : Acc m a b c 0 := ⟨fun h => absurd h (by omega), fun h => absurd h (by omega), fun h => absurd h (by omega)⟩
theorem numsOf_pos (k : Int) : 1 ≤ numsOf k := by unfold numsOf; split <;> (try split) <;> omega

set_option maxHeartbeats 1000000 in
theorem implValidDeed_in (kk : Nat) (tb toff : Nat) (a b c m : Int) (w : World) (H1 : Hid (inB kk 1 8 = true)) (H2 : Hid (numsOf kk = m)) (hT : ManyAt w tb toff kk m) :
    Calls Tryd.prog 7 #[.agg #[.int .i64 kk, .int .i64 a, .int .i64 b, .int .i64 c]] w fun e w' => e = .returned (.bool (vDeed kk a b c)) ∧ Below w.heap.size w w' := by
  obtain ⟨hh, h0, hb, hm⟩ := hT
  have hk : kk < 9 := by have := H1.out; simp [inB] at this; omega
  have hp : 1 ≤ m := by have := numsOf_pos kk; have := H2.out; omega
  have fin : ∀ x : Bool, (x = true ↔ (0 ≤ a ∧ a ≤ 999) ∧ (0 ≤ b ∧ b ≤ 999 ∧ (1 < m ∨ b = 0)) ∧ (0 ≤ c ∧ c ≤ 999 ∧ (2 < m ∨ c = 0))) → x = vDeed kk a b c := by
    intro x hx
    unfold vDeed
    rw [H1.out, H2.out, Bool.eq_iff_iff, hx]
    simp [inB]
    omega
  have Hfin := Lib.hid fin
  clear fin
  go_enter Tryd.func7, Tryd.ntmps7
  go_wp2_with (first | (go_at_call 12; refine (in_t _ _ _ _ H1.out).mono ?_; rintro e w' ⟨rfl, rfl⟩) | (go_at_call 13; refine (numbers_any _ _ _ _ _).mono ?_; rintro e w' ⟨rfl, rfl⟩))
  have hb1 : tb < w.heap.size + 1 := by omega
  have hb2 : tb < w.heap.size + 1 + 1 := by omega
  go_loop [3, 4, 12] (fun _ _ i => ∃ j : Nat, j ≤ 3 ∧ i = .int .i64 j ∧ Acc m a b c j) (fun _ _ i => 3 - (intOf i).toNat)
  case atStart => exact ⟨0, by omega, rfl, Acc.zero _ _ _ _⟩
  case round =>
    obtain ⟨j, hj, rfl, hacc⟩ := hrel
    by_cases e0 : j = 0
    · subst e0
      clear hacc
      go_wp2
      case roundEnd => exact ⟨⟨1, by omega, rfl, ⟨fun _ => ⟨‹_›, ‹_›⟩, fun h => absurd h (by omega), fun h => absurd h (by omega)⟩⟩, by simp [intOf]⟩
      all_goals (go_ret; exact ⟨ret_bool (Hfin.out _ (by simp; omega)), ((((Below.refl _ _).alloc (Nat.le_refl _) _).alloc (by simp) _).alloc (by simp; omega) _)⟩)
    by_cases e1 : j = 1
    · subst e1
      have ha := hacc.1 (by omega)
      clear hacc e0
      cases hb0 : (b != 0)
      all_goals
        have Hb := Lib.hid hb0
        go_wp2
        clear hb0
        all_goals (have hb0 := Hb.out; simp at hb0)
        all_goals (first | ((refine ⟨⟨2, ?_, rfl, ⟨fun _ => ha, fun _ => ?_, fun h => absurd h ?_⟩⟩, ?_⟩) <;> first | omega | (simp [intOf]; done)) | (go_ret; exact ⟨ret_bool (Hfin.out _ (by simp; omega)), ((((Below.refl _ _).alloc (Nat.le_refl _) _).alloc (by simp) _).alloc (by simp; omega) _)⟩))
    by_cases e2 : j = 2
    · subst e2
      have ha := hacc.1 (by omega)
      have hb := hacc.2.1 (by omega)
      clear hacc e0 e1
      cases hc0 : (c != 0)
      all_goals
        have Hc := Lib.hid hc0
        go_wp2
        clear hc0
        all_goals (have hc0 := Hc.out; simp at hc0)
        all_goals (first | ((refine ⟨⟨3, ?_, rfl, ⟨fun _ => ha, fun _ => hb, fun _ => ?_⟩⟩, ?_⟩) <;> first | omega | (simp [intOf]; done)) | (go_ret; exact ⟨ret_bool (Hfin.out _ (by simp; omega)), ((((Below.refl _ _).alloc (Nat.le_refl _) _).alloc (by simp) _).alloc (by simp; omega) _)⟩))
    obtain rfl : j = 3 := by omega
    have ha := hacc.1 (by omega)
    have hb := hacc.2.1 (by omega)
    have hc := hacc.2.2 (by omega)
    clear hacc e0 e1 e2
    go_wp2
    go_ret
    exact ⟨ret_bool (Hfin.out _ (by simp; omega)), ((((Below.refl _ _).alloc (Nat.le_refl _) _).alloc (by simp) _).alloc (by simp; omega) _)⟩

end Go.Proofs.YtpbmjnknclmioaaDoor
