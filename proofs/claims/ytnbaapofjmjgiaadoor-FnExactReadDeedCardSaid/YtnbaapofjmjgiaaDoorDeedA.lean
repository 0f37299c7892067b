/- The walks of the small functions of deeds: what each returns, in memory that stays as it was. -/
import Derived.Test.YtnbaapofjmjgiaaDoorProg
import Derived.Test.YtnbaapofjmjgiaaDoorBase
namespace Go.Proofs.YtnbaapofjmjgiaaDoor
open Go.RowKit

def inB (x a b : Int) : Bool := decide (a ≤ x) && decide (x ≤ b)
set_option maxHeartbeats 400000 in
theorem in_any (x a b : Int) (w : World) :
    Calls Tryd.prog 24 #[.int .i64 x, .int .i64 a, .int .i64 b] w fun e w' => e = .returned (.bool (inB x a b)) ∧ w = w' := by
  go_enter Tryd.func24, Tryd.ntmps24
  go_wp2
  all_goals (go_ret; exact ⟨ret_bool (by simp [inB]; omega), rfl⟩)

set_option maxHeartbeats 400000 in
theorem l00In_any (x a b : Int) (w : World) :
    Calls Tryd.prog 27 #[.int .i64 x, .int .i64 a, .int .i64 b] w fun e w' => e = .returned (.bool (inB x a b)) ∧ w = w' := by
  go_enter Tryd.func27, Tryd.ntmps27
  go_wp2
  all_goals (go_ret; exact ⟨ret_bool (by simp [inB]; omega), rfl⟩)

set_option maxHeartbeats 400000 in
theorem isNumber_any (x : Int) (w : World) :
    Calls Tryd.prog 26 #[.int .i64 x] w fun e w' => e = .returned (.bool (inB x 0 999)) ∧ w = w' := by
  go_enter Tryd.func26, Tryd.ntmps26
  go_wp2_with (go_at_call 24; refine (in_any _ _ _ _).mono ?_; rintro e w' ⟨rfl, rfl⟩)
  go_ret
  exact ⟨rfl, rfl⟩

/-- How many numbers the text of a kind mentions, as the reference tells it. -/
def numsOf (k : Int) : Int := if k = 1 ∨ k = 2 then 3 else if k = 6 then 2 else 1

set_option maxHeartbeats 400000 in
theorem l09Numbers_any (k : Int) (w : World) :
    Calls Tryd.prog 10 #[.int .i64 k] w fun e w' => e = .returned (.int .i64 (numsOf k)) ∧ w = w' := by
  go_enter Tryd.func10, Tryd.ntmps10
  go_wp2
  all_goals (go_ret; refine ⟨ret_int ?_, rfl⟩; simp_all [numsOf])



theorem in_t (x a b : Int) (w : World) (h : inB x a b = true) :
    Calls Tryd.prog 24 #[.int .i64 x, .int .i64 a, .int .i64 b] w fun e w' => e = .returned (.bool true) ∧ w' = w :=
  (in_any x a b w).mono fun _ _ ⟨he, hw⟩ => ⟨by rw [he, h], hw.symm⟩
theorem in_f (x a b : Int) (w : World) (h : inB x a b = false) :
    Calls Tryd.prog 24 #[.int .i64 x, .int .i64 a, .int .i64 b] w fun e w' => e = .returned (.bool false) ∧ w' = w :=
  (in_any x a b w).mono fun _ _ ⟨he, hw⟩ => ⟨by rw [he, h], hw.symm⟩
theorem l00In_t (x a b : Int) (w : World) (h : inB x a b = true) :
    Calls Tryd.prog 27 #[.int .i64 x, .int .i64 a, .int .i64 b] w fun e w' => e = .returned (.bool true) ∧ w' = w :=
  (l00In_any x a b w).mono fun _ _ ⟨he, hw⟩ => ⟨by rw [he, h], hw.symm⟩
theorem l00In_f (x a b : Int) (w : World) (h : inB x a b = false) :
    Calls Tryd.prog 27 #[.int .i64 x, .int .i64 a, .int .i64 b] w fun e w' => e = .returned (.bool false) ∧ w' = w :=
  (l00In_any x a b w).mono fun _ _ ⟨he, hw⟩ => ⟨by rw [he, h], hw.symm⟩
theorem isNumber_t (x : Int) (w : World) (h : inB x 0 999 = true) :
    Calls Tryd.prog 26 #[.int .i64 x] w fun e w' => e = .returned (.bool true) ∧ w' = w :=
  (isNumber_any x w).mono fun _ _ ⟨he, hw⟩ => ⟨by rw [he, h], hw.symm⟩
theorem isNumber_f (x : Int) (w : World) (h : inB x 0 999 = false) :
    Calls Tryd.prog 26 #[.int .i64 x] w fun e w' => e = .returned (.bool false) ∧ w' = w :=
  (isNumber_any x w).mono fun _ _ ⟨he, hw⟩ => ⟨by rw [he, h], hw.symm⟩
theorem l09Numbers_at (k n : Int) (w : World) (h : numsOf k = n) :
    Calls Tryd.prog 10 #[.int .i64 k] w fun e w' => e = .returned (.int .i64 n) ∧ w' = w :=
  (l09Numbers_any k w).mono fun _ _ ⟨he, hw⟩ => ⟨by rw [he, h], hw.symm⟩

/-- A deed that is valid. -/
def vDeed (k a b c : Int) : Bool := inB k 1 8 && inB a 0 999 && inB b 0 999 && inB c 0 999 && (decide (1 < numsOf k) || b == 0) && (decide (2 < numsOf k) || c == 0)

set_option maxHeartbeats 1000000 in
theorem specValidDeed_any (k a b c : Int) (w : World) :
    Calls Tryd.prog 18 #[.agg #[.int .i64 k, .int .i64 a, .int .i64 b, .int .i64 c]] w fun e w' => e = .returned (.bool (vDeed k a b c)) ∧ Below w.heap.size w w' := by
  go_enter Tryd.func18, Tryd.ntmps18
  go_wp2_with (first | (go_at_call 27; refine (l00In_any _ _ _ _).mono ?_; rintro e w' ⟨rfl, rfl⟩) | (go_at_call 10; refine (l09Numbers_any _ _).mono ?_; rintro e w' ⟨rfl, rfl⟩))
  all_goals (go_ret; refine ⟨ret_bool ?_, (Below.refl _ _).alloc (Nat.le_refl _) _⟩)
  all_goals (first | (simp_all [vDeed]; done) | (simp_all [vDeed]; omega))

set_option maxHeartbeats 400000 in
theorem numbers_any (k a b c : Int) (w : World) :
    Calls Tryd.prog 25 #[.agg #[.int .i64 k, .int .i64 a, .int .i64 b, .int .i64 c]] w fun e w' => e = .returned (.slice (some ⟨w.heap.size + 1, 0, none⟩) 3 3) ∧ (w.alloc (.cells #[.int .i64 k, .int .i64 a, .int .i64 b, .int .i64 c] 23)).alloc (.cells #[.int .i64 a, .int .i64 b, .int .i64 c] 2) = w' := by
  go_enter Tryd.func25, Tryd.ntmps25
  go_wp2
  go_ret
  exact ⟨rfl, rfl⟩

/-- The table of forms: where it lies, how many numbers the kind kk mentions. -/
structure ManyAt (w : World) (tb toff kk : Nat) (m : Int) : Prop where
  head : w.cell? ⟨0, 0, none⟩ = some (.slice (some ⟨tb, toff, none⟩) 9 9)
  h0 : 0 < w.heap.size
  hb : tb < w.heap.size
  many : w.cell? ⟨tb, toff + kk * 2 + 1, none⟩ = some (.int .i64 m)

/-- What the loop over the numbers of a deed has seen behind j rounds. -/
def Acc (m a b c : Int) (j : Nat) : Prop := (0 < j → 0 ≤ a ∧ a ≤ 999) ∧ (1 < j → 0 ≤ b ∧ b ≤ 999 ∧ (1 < m ∨ b = 0)) ∧ (2 < j → 0 ≤ c ∧ c ≤ 999 ∧ (2 < m ∨ c = 0))
theorem Acc.zero (m a b c : Int) : Acc m a b c 0 := ⟨fun h => absurd h (by omega), fun h => absurd h (by omega), fun h => absurd h (by omega)⟩
theorem numsOf_pos (k : Int) : 1 ≤ numsOf k := by unfold numsOf; split <;> (try split) <;> omega

set_option maxHeartbeats 1000000 in
theorem implValidDeed_in (kk : Nat) (tb toff : Nat) (a b c m : Int) (w : World) (H1 : Hid (inB kk 1 8 = true)) (H2 : Hid (numsOf kk = m)) (hT : ManyAt w tb toff kk m) :
    Calls Tryd.prog 16 #[.agg #[.int .i64 kk, .int .i64 a, .int .i64 b, .int .i64 c]] w fun e w' => e = .returned (.bool (vDeed kk a b c)) ∧ Below w.heap.size w w' := by
  obtain ⟨hh, h0, hb, hm⟩ := hT
  have hk : kk < 9 := by have := H1.out; simp [inB] at this; omega
  have hp : 1 ≤ m := by have := numsOf_pos kk; have := H2.out; omega
  have fin : ∀ x : Bool, (x = true ↔ (0 ≤ a ∧ a ≤ 999) ∧ (0 ≤ b ∧ b ≤ 999 ∧ (1 < m ∨ b = 0)) ∧ (0 ≤ c ∧ c ≤ 999 ∧ (2 < m ∨ c = 0))) → x = vDeed kk a b c := by
    intro x hx
    unfold vDeed
    rw [H1.out, H2.out, Bool.eq_iff_iff, hx]
    simp [inB]
    omega
  have Hfin := Lib.hid fin
  clear fin
  go_enter Tryd.func16, Tryd.ntmps16
  go_wp2_with (first | (go_at_call 24; refine (in_t _ _ _ _ H1.out).mono ?_; rintro e w' ⟨rfl, rfl⟩) | (go_at_call 25; refine (numbers_any _ _ _ _ _).mono ?_; rintro e w' ⟨rfl, rfl⟩))
  have hb1 : tb < w.heap.size + 1 := by omega
  have hb2 : tb < w.heap.size + 1 + 1 := by omega
  go_loop [3, 4, 12] (fun _ _ i => ∃ j : Nat, j ≤ 3 ∧ i = .int .i64 j ∧ Acc m a b c j) (fun _ _ i => 3 - (intOf i).toNat)
  case atStart => exact ⟨0, by omega, rfl, Acc.zero _ _ _ _⟩
  case round =>
    obtain ⟨j, hj, rfl, hacc⟩ := hrel
    by_cases e0 : j = 0
    · subst e0
      clear hacc
      go_wp2
      case roundEnd => exact ⟨⟨1, by omega, rfl, ⟨fun _ => ⟨‹_›, ‹_›⟩, fun h => absurd h (by omega), fun h => absurd h (by omega)⟩⟩, by simp [intOf]⟩
      all_goals (go_ret; exact ⟨ret_bool (Hfin.out _ (by simp; omega)), ((((Below.refl _ _).alloc (Nat.le_refl _) _).alloc (by simp) _).alloc (by simp; omega) _)⟩)
    by_cases e1 : j = 1
    · subst e1
      have ha := hacc.1 (by omega)
      clear hacc e0
      cases hb0 : (b != 0)
      all_goals
        have Hb := Lib.hid hb0
        go_wp2
        clear hb0
        all_goals (have hb0 := Hb.out; simp at hb0)
        all_goals (first | ((refine ⟨⟨2, ?_, rfl, ⟨fun _ => ha, fun _ => ?_, fun h => absurd h ?_⟩⟩, ?_⟩) <;> first | omega | (simp [intOf]; done)) | (go_ret; exact ⟨ret_bool (Hfin.out _ (by simp; omega)), ((((Below.refl _ _).alloc (Nat.le_refl _) _).alloc (by simp) _).alloc (by simp; omega) _)⟩))
    by_cases e2 : j = 2
    · subst e2
      have ha := hacc.1 (by omega)
      have hb := hacc.2.1 (by omega)
      clear hacc e0 e1
      cases hc0 : (c != 0)
      all_goals
        have Hc := Lib.hid hc0
        go_wp2
        clear hc0
        all_goals (have hc0 := Hc.out; simp at hc0)
        all_goals (first | ((refine ⟨⟨3, ?_, rfl, ⟨fun _ => ha, fun _ => hb, fun _ => ?_⟩⟩, ?_⟩) <;> first | omega | (simp [intOf]; done)) | (go_ret; exact ⟨ret_bool (Hfin.out _ (by simp; omega)), ((((Below.refl _ _).alloc (Nat.le_refl _) _).alloc (by simp) _).alloc (by simp; omega) _)⟩))
    obtain rfl : j = 3 := by omega
    have ha := hacc.1 (by omega)
    have hb := hacc.2.1 (by omega)
    have hc := hacc.2.2 (by omega)
    clear hacc e0 e1 e2
    go_wp2
    go_ret
    exact ⟨ret_bool (Hfin.out _ (by simp; omega)), ((((Below.refl _ _).alloc (Nat.le_refl _) _).alloc (by simp) _).alloc (by simp; omega) _)⟩

theorem ManyAt.below {w w1 : World} {tb toff kk : Nat} {m : Int} (h : ManyAt w tb toff kk m) (hb : Below w.heap.size w w1) : ManyAt w1 tb toff kk m := by
  have hz := hb.size
  exact ⟨(hb.cell (p := ⟨_, 0, none⟩) h.h0).trans h.head, by have := h.h0; omega, by have := h.hb; omega, (hb.cell (p := ⟨tb, _, none⟩) h.hb).trans h.many⟩
theorem ManyAt.alloc {w : World} {tb toff kk : Nat} {m : Int} (h : ManyAt w tb toff kk m) (o : Obj) : ManyAt (w.alloc o) tb toff kk m :=
  h.below ((Below.refl _ _).alloc (Nat.le_refl _) _)

/-- Whatever deed: the two answers are one. -/
theorem implValidDeed_any (tb toff : Nat) (k a b c : Int) (w : World) (hT : ∀ kk : Nat, 1 ≤ kk → kk ≤ 8 → ManyAt w tb toff kk (numsOf kk)) :
    Calls Tryd.prog 16 #[.agg #[.int .i64 k, .int .i64 a, .int .i64 b, .int .i64 c]] w fun e w' => e = .returned (.bool (vDeed k a b c)) ∧ Below w.heap.size w w' := by
  cases h1 : inB k 1 8
  · have H1 := Lib.hid h1
    clear h1
    go_enter Tryd.func16, Tryd.ntmps16
    go_wp2_with (go_at_call 24; refine (in_f _ _ _ _ H1.out).mono ?_; rintro e w' ⟨rfl, rfl⟩)
    go_ret
    exact ⟨ret_bool (by simp [vDeed, H1.out]), (Below.refl _ _).alloc (Nat.le_refl _) _⟩
  · have h2 := h1
    simp [inB] at h2
    obtain ⟨kk, rfl⟩ := Int.eq_ofNat_of_zero_le (show 0 ≤ k by omega)
    exact implValidDeed_in kk tb toff a b c _ w (Lib.hid h1) (Lib.hid rfl) (hT kk (by omega) (by omega))

end Go.Proofs.YtnbaapofjmjgiaaDoor
