/- The program's validity of a step. -/
import Derived.Test.YtdleofaikjkndaaDoorPlanV
namespace Go.Proofs.YtdleofaikjkndaaDoor
open Go.RowKit Go.Proofs.YtdleofaikjkndaaDoorW.PrintWords Go.Proofs.YtdleofaikjkndaaDoor.PFnExactJoinPlans

/-- Whether the numbers that a kind mentions may be. -/
def vNums (k n m : Int) (l : List Int) : Bool :=
  if k = 1 then pieceB n && pieceB m
  else if k = 2 then inB n 0 300
  else if k = 3 then inB l.length 1 8 && l.all pieceB
  else if k = 4 then inB n 1 1024 && inB m 0 (n - 1)
  else if k = 5 ∨ k = 6 then inB n 1 64
  else if 7 ≤ k ∧ k ≤ 10 then inB n 1 16
  else true

set_option maxHeartbeats 4000000 in
theorem numbersOk_any (k n m : Int) (A : Option Addr) (c : Nat) (l : List Int) (w : World) (hk1 : 1 ≤ k) (hk2 : k ≤ 13) (HR : Hid (Kd.C (Kd.int .i64) w A l.length l)) :
    Calls Tryd.prog 68 #[.agg #[.int .i64 k, .int .i64 n, .int .i64 m, .slice A l.length c]] w fun e w' => e = .returned (.bool (vNums k n m l)) ∧ Below w.heap.size w w' := by
  have hcase : k = 1 ∨ k = 2 ∨ k = 3 ∨ k = 4 ∨ k = 5 ∨ k = 6 ∨ k = 7 ∨ k = 8 ∨ k = 9 ∨ k = 10 ∨ k = 11 ∨ k = 12 ∨ k = 13 := by omega
  clear hk1 hk2
  have HB0 : Hid (∀ o : Obj, Below w.heap.size w (w.alloc o)) := fun o => below_alloc (Below.refl _ _) o
  rcases hcase with rfl | rfl | rfl | rfl | rfl | rfl | rfl | rfl | rfl | rfl | rfl | rfl | rfl
  · cases hp : pieceB n with
    | true =>
      have HP := Lib.hid hp
      clear hp
      go_enter Tryd.func68, Tryd.ntmps68
      go_wp2_with fail
      refine (isPiece_any _ _).mono ?_
      rintro e w' ⟨he, rfl⟩
      rw [HP.out] at he
      subst he
      go_wp2_with fail
      refine (isPiece_any _ _).mono ?_
      rintro e w' ⟨rfl, rfl⟩
      go_wp2_with fail
      go_ret
      exact ⟨ret_bool (by simp [vNums, HP.out]), HB0.out _⟩
    | false =>
      have HP := Lib.hid hp
      clear hp
      go_enter Tryd.func68, Tryd.ntmps68
      go_wp2_with fail
      refine (isPiece_any _ _).mono ?_
      rintro e w' ⟨he, rfl⟩
      rw [HP.out] at he
      subst he
      go_wp2_with fail
      go_ret
      exact ⟨ret_bool (by simp [vNums, HP.out]), HB0.out _⟩
  · go_enter Tryd.func68, Tryd.ntmps68
    go_wp2_with fail
    refine (in_any _ _ _ _).mono ?_
    rintro e w' ⟨rfl, rfl⟩
    go_wp2_with fail
    go_ret
    exact ⟨ret_bool (by simp [vNums]), HB0.out _⟩
  · cases hp : inB l.length 1 8 with
    | true =>
      have HP := Lib.hid hp
      clear hp
      go_enter Tryd.func68, Tryd.ntmps68
      go_wp2_with fail
      refine (anyPiece_any _ _ _ _ (Lib.hid (Kd.C_alloc HR.out _))).mono ?_
      rintro e w' ⟨rfl, rfl⟩
      go_wp2_with fail
      refine (in_any _ _ _ _).mono ?_
      rintro e w' ⟨he, rfl⟩
      rw [HP.out] at he
      subst he
      go_wp2_with fail
      go_ret
      exact ⟨ret_bool (by simp [vNums, HP.out]), HB0.out _⟩
    | false =>
      have HP := Lib.hid hp
      clear hp
      go_enter Tryd.func68, Tryd.ntmps68
      go_wp2_with fail
      refine (anyPiece_any _ _ _ _ (Lib.hid (Kd.C_alloc HR.out _))).mono ?_
      rintro e w' ⟨rfl, rfl⟩
      go_wp2_with fail
      refine (in_any _ _ _ _).mono ?_
      rintro e w' ⟨he, rfl⟩
      rw [HP.out] at he
      subst he
      go_wp2_with fail
      go_ret
      exact ⟨ret_bool (by simp [vNums, HP.out]), HB0.out _⟩
  · cases hp : inB n 1 1024 with
    | true =>
      have HP := Lib.hid hp
      have h1 : 1 ≤ n ∧ n ≤ 1024 := by simpa [inB] using hp
      clear hp
      have h2 := h1.2
      have h3 := h1.1
      clear h1
      go_enter Tryd.func68, Tryd.ntmps68
      go_wp2_with fail
      refine (in_any _ _ _ _).mono ?_
      rintro e w' ⟨he, rfl⟩
      rw [HP.out] at he
      subst he
      go_wp2_with fail
      refine (in_any _ _ _ _).mono ?_
      rintro e w' ⟨rfl, rfl⟩
      go_wp2_with fail
      go_ret
      exact ⟨ret_bool (by simp [vNums, HP.out]), HB0.out _⟩
    | false =>
      have HP := Lib.hid hp
      clear hp
      go_enter Tryd.func68, Tryd.ntmps68
      go_wp2_with fail
      refine (in_any _ _ _ _).mono ?_
      rintro e w' ⟨he, rfl⟩
      rw [HP.out] at he
      subst he
      go_wp2_with fail
      go_ret
      exact ⟨ret_bool (by simp [vNums, HP.out]), HB0.out _⟩
  all_goals
    go_enter Tryd.func68, Tryd.ntmps68
    go_wp2_with (go_at_call 67; refine (in_any _ _ _ _).mono ?_; rintro e w' ⟨rfl, rfl⟩)
    go_ret
    exact ⟨ret_bool (by simp [vNums]), HB0.out _⟩

def formN (k : Int) : Bool := decide (k = 1) || decide (k = 2) || (decide (4 ≤ k) && decide (k ≤ 10))
def formK (k : Int) : Bool := decide (k = 1) || decide (k = 4)
def formT (k : Int) : Bool := decide (k = 3)
/-- A step that is valid. -/
def vStep4 (k n m : Int) (l : List Int) : Bool := inB k 1 13 && (formN k || decide (n = 0)) && (formK k || decide (m = 0)) && (formT k || decide (l.length = 0)) && vNums k n m l
def vStep (s : S53) : Bool := vStep4 s.f0 s.f1 s.f2 s.f3

/-- The table of the forms of steps: where it lies, and what its rows say of numbers and taps. -/
structure FormTab (w : World) (tb toff : Nat) : Prop where
  head : w.cell? ⟨0, 0, none⟩ = some (.slice (some ⟨tb, toff, none⟩) 14 14)
  row : ∀ k : Nat, k ≤ 13 → ∃ s, w.cell? ⟨tb, toff + k * 4, none⟩ = some (.string s) ∧ w.cell? ⟨tb, toff + k * 4 + 1, none⟩ = some (.bool (formN k)) ∧ w.cell? ⟨tb, toff + k * 4 + 2, none⟩ = some (.bool (formK k)) ∧ w.cell? ⟨tb, toff + k * 4 + 3, none⟩ = some (.bool (formT k))
theorem FormTab.below {w w1 : World} {tb toff : Nat} (h : FormTab w tb toff) (hb : Below w.heap.size w w1) : FormTab w1 tb toff := by
  refine ⟨cell_below h.head hb, fun k hk => ?_⟩
  obtain ⟨s, h0, h1, h2, h3⟩ := h.row k hk
  exact ⟨s, cell_below h0 hb, cell_below h1 hb, cell_below h2 hb, cell_below h3 hb⟩

theorem vStep4_N {k : Nat} {n m : Int} {l : List Int} (h1 : formN k = false) (h2 : n ≠ 0) : vStep4 k n m l = false := by simp [vStep4, h1, h2]
theorem vStep4_K {k : Nat} {n m : Int} {l : List Int} (h1 : formK k = false) (h2 : m ≠ 0) : vStep4 k n m l = false := by simp [vStep4, h1, h2]
theorem vStep4_T {k : Nat} {n m : Int} {l : List Int} (h1 : formT k = false) (h2 : l.length ≠ 0) : vStep4 k n m l = false := by simp [vStep4, h1, h2]
theorem vStep4_of {k : Nat} {n m : Int} {l : List Int} (h0 : 1 ≤ k) (h9 : k ≤ 13) (h1 : formN k = true ∨ n = 0) (h2 : formK k = true ∨ m = 0) (h3 : formT k = true ∨ l.length = 0) : vStep4 k n m l = vNums k n m l := by
  have e1 : (formN k || decide (n = 0)) = true := by rcases h1 with h | h <;> simp [h]
  have e2 : (formK k || decide (m = 0)) = true := by rcases h2 with h | h <;> simp [h]
  have e3 : (formT k || decide (l.length = 0)) = true := by rcases h3 with h | h <;> simp [h]
  have e0 : inB k 1 13 = true := by simp [inB]; omega
  unfold vStep4
  rw [e0, e1, e2, e3]
  simp
end Go.Proofs.YtdleofaikjkndaaDoor
