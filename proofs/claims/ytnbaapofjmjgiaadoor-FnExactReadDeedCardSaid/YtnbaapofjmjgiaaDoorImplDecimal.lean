/- The program's decimal gives the decimal numeral. -/
import Derived.Test.YtnbaapofjmjgiaaDoorShelf
import Derived.Test.YtnbaapofjmjgiaaDoorDecimal
namespace Go.Proofs.YtnbaapofjmjgiaaDoor
open Go.RowKit

set_option maxHeartbeats 400000 in
theorem implDecimal_any (n : Int) (h0 : -9223372036854775808 ≤ n) (h1 : n ≤ 9223372036854775807) (w : World) (htab : Lib.TabIs Tryd.prog w "internal/strconv.uint64pow10" .u64 Lib.pow10Tab) :
    Calls Tryd.prog 23 #[.int .i64 n] w fun e w' => e = .returned (.string ⟨(Lib.itoa n).toArray⟩) ∧ Below w.heap.size w w' := by
  have HT := Lib.hid htab
  clear htab
  go_enter Tryd.func23, Tryd.ntmps23
  go_wp2_with fail
  refine (Tryd.strconv_FormatInt_10 n h0 h1 _ HT.out).mono ?_
  rintro e w' ⟨rfl, k, os, rfl⟩
  go_wp2
  go_ret
  exact ⟨rfl, below_grow (below_drewN (Below.refl _ _) _) (Nat.le_refl _) _⟩
end Go.Proofs.YtnbaapofjmjgiaaDoor
