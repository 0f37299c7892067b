/- The program's validity of numbers of steps: what each small function returns; nothing is written. -/
import Derived.Test.YtdleofaikjkndaaDoorBase
import Derived.Test.YtdleofaikjkndaaDoorPFnExactJoinPlansx0
namespace Go.Proofs.YtdleofaikjkndaaDoor
open Go.RowKit Go.Proofs.YtdleofaikjkndaaDoorW.PrintWords Go.Proofs.YtdleofaikjkndaaDoor.PFnExactJoinPlans

def inB (x a b : Int) : Bool := decide (a ≤ x) && decide (x ≤ b)
def pieceB (n : Int) : Bool := inB n (-256) 256

set_option maxHeartbeats 400000 in
theorem in_any (x a b : Int) (w : World) :
    Calls Tryd.prog 67 #[.int .i64 x, .int .i64 a, .int .i64 b] w fun e w' => e = .returned (.bool (inB x a b)) ∧ w = w' := by
  go_enter Tryd.func67, Tryd.ntmps67
  go_wp2
  all_goals (go_ret; exact ⟨ret_bool (by simp [inB]; omega), rfl⟩)

set_option maxHeartbeats 400000 in
theorem isPiece_any (n : Int) (w : World) :
    Calls Tryd.prog 71 #[.int .i64 n] w fun e w' => e = .returned (.bool (pieceB n)) ∧ w = w' := by
  go_enter Tryd.func71, Tryd.ntmps71
  go_wp2_with (go_at_call 67; refine (in_any _ _ _ _).mono ?_; rintro e w' ⟨rfl, rfl⟩)
  go_ret
  exact ⟨rfl, rfl⟩

set_option maxHeartbeats 400000 in
theorem notPiece_any (n : Int) (w : World) :
    Calls Tryd.prog 73 #[.int .i64 n] w fun e w' => e = .returned (.bool (!pieceB n)) ∧ w = w' := by
  go_enter Tryd.func73, Tryd.ntmps73
  go_wp2_with (go_at_call 71; refine (isPiece_any _ _).mono ?_; rintro e w' ⟨rfl, rfl⟩)
  go_ret
  exact ⟨rfl, rfl⟩

theorem ints_at {w : World} {A : Option Addr} {l : List Int} (h : Kd.C (Kd.int .i64) w A l.length l) {k : Nat} (hk : k < l.length) :
    ∃ ad, A = some ad ∧ w.cell? (ad.add k) = some (.int .i64 l[k]) := by
  obtain ⟨ad, c, e, _, hK, hc⟩ := Kd.C_get h (0 : Int) k (by omega) (by omega)
  have hK' : c = [.int .i64 (l.getD (k : Int).toNat 0)] := hK
  refine ⟨ad, e, ?_⟩
  have := hc 0 _ (by rw [hK']; rfl)
  have e2 : l.getD (k : Int).toNat 0 = l[k] := by simp [List.getD_eq_getElem?_getD, List.getElem?_eq_getElem hk]
  rw [e2] at this
  simpa [Kd.int, Kd.scalar] using this

/-- What a search leaves: a place, or -1. -/
def FoundPost (b : Bool) (w : World) (e : Ending) (w' : World) : Prop := ∃ z : Int, e = .returned (.int .i64 z) ∧ decide (0 ≤ z) = b ∧ w = w'

set_option maxHeartbeats 1000000 in
theorem indexPiece_any (A : Option Addr) (c : Nat) (l : List Int) (w : World) (HR : Hid (Kd.C (Kd.int .i64) w A l.length l)) :
    Calls Tryd.prog 75 #[.slice A l.length c, .func (.func 73) #[] #[]] w (FoundPost (!l.all pieceB) w) := by
  have hmax : l.length ≤ 9223372036854775807 := Kd.C_max HR.out
  go_enter Tryd.func75, Tryd.ntmps75
  go_wp2_with fail
  go_loop [5, 8] (fun _ i => ∃ k : Nat, k ≤ l.length ∧ i = .int .i64 k ∧ Hid ((l.take k).all pieceB = true)) (fun _ i => l.length - (intOf i).toNat)
  case atStart => exact ⟨0, by omega, rfl, by simp [Hid]⟩
  case round =>
    obtain ⟨k, hk, rfl, HJ⟩ := hrel
    by_cases hlt : k < l.length
    · obtain ⟨ad, rfl, hc⟩ := ints_at HR.out hlt
      cases hp : pieceB l[k] with
      | true =>
        have HP := Lib.hid hp
        clear hp
        go_wp2_with fail
        refine (notPiece_any _ _).mono ?_
        rintro e w' ⟨he1, rfl⟩
        rw [HP.out] at he1
        subst he1
        go_wp2_with fail
        go_round
        case rel =>
          refine ⟨k + 1, by omega, by go_num, ?_⟩
          unfold Hid
          rw [List.take_succ_eq_append_getElem hlt, List.all_append, HJ.out]
          simp [HP.out]
        case measure => simp [intOf]; omega
      | false =>
        have HP := Lib.hid hp
        clear hp
        have hfin : l.all pieceB = false := by
          rw [List.all_eq_false]
          exact ⟨l[k], List.getElem_mem _, by rw [HP.out]; simp⟩
        have HF := Lib.hid hfin
        clear hfin
        go_wp2_with fail
        refine (notPiece_any _ _).mono ?_
        rintro e w' ⟨he1, rfl⟩
        rw [HP.out] at he1
        subst he1
        go_wp2_with fail
        go_ret
        exact ⟨k, rfl, by rw [HF.out]; simp, rfl⟩
    · obtain rfl : k = l.length := by omega
      go_wp2_with fail
      go_ret
      refine ⟨-1, rfl, ?_, rfl⟩
      have := HJ.out
      rw [List.take_length] at this
      rw [this]
      rfl

set_option maxHeartbeats 400000 in
theorem anyPiece_any (A : Option Addr) (c : Nat) (l : List Int) (w : World) (HR : Hid (Kd.C (Kd.int .i64) w A l.length l)) :
    Calls Tryd.prog 72 #[.slice A l.length c, .func (.func 73) #[] #[]] w fun e w' => e = .returned (.bool (!l.all pieceB)) ∧ w = w' := by
  go_enter Tryd.func72, Tryd.ntmps72
  go_wp2_with fail
  refine (indexPiece_any _ _ _ _ HR).mono ?_
  rintro e w' ⟨z, rfl, hz, rfl⟩
  have HZ := Lib.hid hz
  clear hz
  go_wp2_with fail
  go_ret
  exact ⟨ret_bool HZ.out, rfl⟩
end Go.Proofs.YtdleofaikjkndaaDoor
