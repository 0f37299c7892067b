/- The program's ValidStep. -/
import Derived.Test.YtdleofaikjkndaaDoorPlanVS
namespace Go.Proofs.YtdleofaikjkndaaDoor
open Go.RowKit Go.Proofs.YtdleofaikjkndaaDoorW.PrintWords Go.Proofs.YtdleofaikjkndaaDoor.PFnExactJoinPlans

theorem blk4_below {w w' : World} (h : Below w.heap.size w w') : Below w.heap.size w w' := h

set_option maxRecDepth 100000 in
set_option maxHeartbeats 8000000 in
theorem validStep_in (tb toff : Nat) (k : Nat) (n m : Int) (A : Option Addr) (c : Nat) (l : List Int) (w : World) (hk1 : 1 ≤ k) (hk2 : k ≤ 13) (HT : Hid (FormTab w tb toff)) (HR : Hid (Kd.C (Kd.int .i64) w A l.length l)) :
    Calls Tryd.prog 42 #[.agg #[.int .i64 k, .int .i64 n, .int .i64 m, .slice A l.length c]] w fun e w' => e = .returned (.bool (vStep4 k n m l)) ∧ Below w.heap.size w w' := by
  have hh := HT.out.head
  obtain ⟨s, r0, r1, r2, r3⟩ := HT.out.row k hk2
  have hg := lt_of_cell hh
  have ht := lt_of_cell r0
  simp only at hg ht
  have hk14 : (k : Int) < 14 := by omega
  have hk1I : (1 : Int) ≤ k := by omega
  have hk2I : (k : Int) ≤ 13 := by omega
  have HI : Hid (inB k 1 13 = true) := by unfold Hid; simp [inB]; omega
  have HB2 : Hid (∀ o o' : Obj, Below w.heap.size w ((w.alloc o).alloc o')) := fun o o' => below_alloc (below_alloc (Below.refl _ _) _) _
  have cn : (formN k = true) ∨ (formN k = false ∧ n = 0) ∨ (formN k = false ∧ Hid (n ≠ 0) ∧ (n == 0) = false) := by
    cases formN k
    · by_cases h : n = 0
      · exact .inr (.inl ⟨rfl, h⟩)
      · exact .inr (.inr ⟨rfl, h, by simpa using h⟩)
    · exact .inl rfl
  have cm : (formK k = true) ∨ (formK k = false ∧ m = 0) ∨ (formK k = false ∧ Hid (m ≠ 0) ∧ (m == 0) = false) := by
    cases formK k
    · by_cases h : m = 0
      · exact .inr (.inl ⟨rfl, h⟩)
      · exact .inr (.inr ⟨rfl, h, by simpa using h⟩)
    · exact .inl rfl
  have cl : (formT k = true) ∨ (formT k = false ∧ Hid (l.length = 0) ∧ ((l.length : Int) == 0) = true) ∨ (formT k = false ∧ Hid (l.length ≠ 0) ∧ ((l.length : Int) == 0) = false) := by
    cases formT k
    · by_cases h : l.length = 0
      · exact .inr (.inl ⟨rfl, h, by simpa using h⟩)
      · exact .inr (.inr ⟨rfl, h, by simpa using h⟩)
    · exact .inl rfl
  rcases cn with hn | ⟨hn, rfl⟩ | ⟨hn, HN0, hnb⟩ <;> rcases cm with hm | ⟨hm, rfl⟩ | ⟨hm, HM0, hmb⟩ <;> rcases cl with hl | ⟨hl, HL0, hlb⟩ | ⟨hl, HL0, hlb⟩
  all_goals
    rw [hn] at r1
    rw [hm] at r2
    rw [hl] at r3
    have HN := Lib.hid hn
    have HM := Lib.hid hm
    have HL := Lib.hid hl
    clear hn hm hl
    go_enter Tryd.func42, Tryd.ntmps42
    go_wp2_with (first | (go_at_call 67; refine (in_any _ _ _ _).mono ?_; rintro e w' ⟨he, rfl⟩; rw [HI.out] at he; subst he) | (go_at_call 68; refine (numbersOk_any _ _ _ _ _ _ _ hk1I hk2I (Lib.hid (Kd.C_alloc (Kd.C_alloc HR.out _) _))).mono ?_; rintro e w' ⟨rfl, hb⟩; have HB := Lib.hid (Below.trans (HB2.out _ _) (hb.mono (by simp; omega))); clear hb))
    go_ret
    first
      | exact ⟨ret_bool (vStep4_of hk1 hk2 (by first | exact .inl HN.out | exact .inr rfl) (by first | exact .inl HM.out | exact .inr rfl) (by first | exact .inl HL.out | exact .inr HL0.out)).symm, HB.out⟩
      | exact ⟨ret_bool (vStep4_N HN.out HN0.out).symm, HB2.out _ _⟩
      | exact ⟨ret_bool (vStep4_K HM.out HM0.out).symm, HB2.out _ _⟩
      | exact ⟨ret_bool (vStep4_T HL.out HL0.out).symm, HB2.out _ _⟩

set_option maxHeartbeats 400000 in
theorem validStep_any (tb toff : Nat) (k n m : Int) (A : Option Addr) (c : Nat) (l : List Int) (w : World) (HT : Hid (FormTab w tb toff)) (HR : Hid (Kd.C (Kd.int .i64) w A l.length l)) :
    Calls Tryd.prog 42 #[.agg #[.int .i64 k, .int .i64 n, .int .i64 m, .slice A l.length c]] w fun e w' => e = .returned (.bool (vStep4 k n m l)) ∧ Below w.heap.size w w' := by
  cases h1 : inB k 1 13
  · have H1 := Lib.hid h1
    clear h1
    go_enter Tryd.func42, Tryd.ntmps42
    go_wp2_with (go_at_call 67; refine (in_any _ _ _ _).mono ?_; rintro e w' ⟨he, rfl⟩; rw [H1.out] at he; subst he)
    go_ret
    exact ⟨ret_bool (by simp [vStep4, H1.out]), below_alloc (Below.refl _ _) _⟩
  · have h2 := h1
    simp [inB] at h2
    obtain ⟨kk, rfl⟩ := Int.eq_ofNat_of_zero_le (show 0 ≤ k by omega)
    exact validStep_in tb toff kk n m A c l w (by omega) (by omega) HT HR
end Go.Proofs.YtdleofaikjkndaaDoor
