/- The walk of the reference's l09Small. -/
import Derived.Test.YtnbaapofjmjgiaaDoorProg
import Derived.Test.YtnbaapofjmjgiaaDoorBase
import Derived.Test.YtnbaapofjmjgiaaDoorSmallP
import Derived.Lib.Strings
namespace Go.Proofs.YtnbaapofjmjgiaaDoor
open Go.RowKit

theorem numL_take (s : ByteArray) (k : Nat) (h : k < s.size) : numL (s.data.toList.take (k + 1)) = numL (s.data.toList.take k) * 10 + ((s[k].toNat : Int) - 48) := by
  rw [List.take_succ_eq_append_getElem (by simpa using h), numL_snoc]
  rfl
theorem all_take (s : ByteArray) (k : Nat) (h : k < s.size) : (s.data.toList.take (k + 1)).all digB = ((s.data.toList.take k).all digB && digB s[k]) := by
  rw [List.take_succ_eq_append_getElem (by simpa using h), List.all_append]
  simp
  rfl
theorem all_no (s : ByteArray) (k : Nat) (h : k < s.size) (hd : digB s[k] = false) : s.data.toList.all digB = false := by
  rw [List.all_eq_false]
  exact ⟨s.data.toList[k]'(by simpa using h), List.getElem_mem _, by show ¬ (digB s[k] = true); rw [hd]; simp⟩

set_option maxHeartbeats 400000 in
theorem l09Small_any (s : ByteArray) (w : World) :
    Calls Tryd.prog 9 #[.string s] w fun e w' => e = .returned (.int .i64 (smallOf s.data.toList)) ∧ w = w' := by
  by_cases hbad : s.size < 1 ∨ 3 < s.size
  · have Hfin : Hid (smallOf s.data.toList = -1) := by unfold Hid smallOf; rw [if_pos (by rw [← Lib.size_eq]; exact hbad)]
    go_enter Tryd.func9, Tryd.ntmps9
    rcases hbad with h | h
    · have h0 : ((s.size : Int) < 1) := by omega
      go_wp2
      go_ret
      exact ⟨ret_int Hfin.out.symm, rfl⟩
    · have h0 : ¬ ((s.size : Int) < 1) := by omega
      have h3 : (3 : Int) < s.size := by omega
      go_wp2
      go_ret
      exact ⟨ret_int Hfin.out.symm, rfl⟩
  · have h1 : 1 ≤ s.size := by omega
    have h3 : s.size ≤ 3 := by omega
    have Hfin : Hid (smallOf s.data.toList = if s.data.toList.all digB then numL s.data.toList else -1) := by unfold Hid smallOf; rw [if_neg (by rw [← Lib.size_eq]; exact hbad)]
    clear hbad
    go_enter Tryd.func9, Tryd.ntmps9
    go_wp2
    go_loop [3, 4] (fun n i => ∃ k : Nat, k ≤ s.size ∧ i = .int .i64 k ∧ n = .int .i64 (numL (s.data.toList.take k)) ∧ Hid ((s.data.toList.take k).all digB = true)) (fun _ i => s.size - (intOf i).toNat)
    case atStart => exact ⟨0, by omega, rfl, rfl, rfl⟩
    case round =>
      obtain ⟨k, hk, rfl, rfl, Hall⟩ := hrel
      by_cases hlt : k < s.size
      · have hbd : 0 ≤ numL (s.data.toList.take k) ∧ numL (s.data.toList.take k) ≤ 999 := by
          have := numL_bounds _ Hall.out
          have hl : (s.data.toList.take k).length ≤ 2 := by rw [List.length_take]; omega
          have : (10 : Int) ^ (s.data.toList.take k).length ≤ 10 ^ 2 := by
            have : (s.data.toList.take k).length = 0 ∨ (s.data.toList.take k).length = 1 ∨ (s.data.toList.take k).length = 2 := by omega
            rcases this with e | e | e <;> rw [e] <;> decide
          omega
        have HN := Lib.hid (numL_take s k hlt)
        have HA := Lib.hid (all_take s k hlt)
        have Hno := Lib.hid (all_no s k hlt)
        by_cases hd : digB s[k] = true
        · have hd' := hd
          simp [digB] at hd'
          have d1 : (48 : Int) ≤ s[k].toNat := by omega
          have d2 : (s[k].toNat : Int) ≤ 57 := by omega
          have HD := Lib.hid hd
          clear hd hd'
          go_wp2
          go_round
          case rel => exact ⟨k + 1, by omega, by go_num, by rw [HN.out], by unfold Hid; rw [HA.out, Hall.out, HD.out]; rfl⟩
          case measure => simp [intOf]; omega
        · have hd' : digB s[k] = false := by simpa using hd
          have Hall0 := Hno.out hd'
          have hd2 := hd'
          simp [digB] at hd2
          have HF := Lib.hid Hall0
          clear hd hd' Hall0
          by_cases hl48 : (s[k].toNat : Int) < 48
          · clear hd2
            go_wp2
            go_ret
            exact ⟨ret_int (by rw [Hfin.out, HF.out]; rfl), rfl⟩
          · have hg57 : (57 : Int) < s[k].toNat := by omega
            clear hd2
            go_wp2
            go_ret
            exact ⟨ret_int (by rw [Hfin.out, HF.out]; rfl), rfl⟩
      · obtain rfl : k = s.size := by omega
        have e : s.data.toList.take s.size = s.data.toList := List.take_of_length_le (by rw [← Lib.size_eq]; omega)
        have HE := Lib.hid e
        clear e
        go_wp2
        go_ret
        have hall := Hall.out
        rw [HE.out] at hall
        exact ⟨ret_int (by rw [HE.out, Hfin.out, hall]; rfl), rfl⟩

end Go.Proofs.YtnbaapofjmjgiaaDoor
