/- The walk of the reference's DeedText. -/
import Derived.Test.YtnbaapofjmjgiaaDoorDeedA
import Derived.Test.YtnbaapofjmjgiaaDoorDecimal
namespace Go.Proofs.YtnbaapofjmjgiaaDoor
open Go.RowKit

def wordOf (kk : Nat) : ByteArray := ⟨#[(#[] : Array UInt8), #[115, 101, 110, 100], #[112, 97, 115, 115], #[100, 101, 108, 105, 118, 101, 114], #[99, 111, 112, 121], #[100, 114, 111, 112], #[115, 112, 111, 105, 108], #[115, 121, 110, 99], #[99, 114, 97, 115, 104]].getD kk #[]⟩
theorem wordOf_size (kk : Nat) (h : kk < 9) : (wordOf kk).size ≤ 7 := by
  have : kk = 0 ∨ kk = 1 ∨ kk = 2 ∨ kk = 3 ∨ kk = 4 ∨ kk = 5 ∨ kk = 6 ∨ kk = 7 ∨ kk = 8 := by omega
  rcases this with rfl | rfl | rfl | rfl | rfl | rfl | rfl | rfl | rfl <;> decide

def sp : ByteArray := ⟨#[32]⟩

set_option maxHeartbeats 400000 in
theorem l09Names_at (kk : Nat) (h : kk < 9) (w : World) :
    Calls Tryd.prog 8 #[] w fun e w' => e = .returned (.slice (some ⟨w.heap.size, 0, none⟩) 9 9) ∧ Below w.heap.size w w' ∧ w.heap.size < w'.heap.size ∧ w'.cell? ⟨w.heap.size, kk, none⟩ = some (.string (wordOf kk)) := by
  have Hk := Lib.hid h
  clear h
  go_enter Tryd.func8, Tryd.ntmps8
  go_wp2
  go_ret
  refine ⟨rfl, (Below.refl _ _).alloc (Nat.le_refl _) _, by simp, ?_⟩
  have h := Hk.out
  have : kk = 0 ∨ kk = 1 ∨ kk = 2 ∨ kk = 3 ∨ kk = 4 ∨ kk = 5 ∨ kk = 6 ∨ kk = 7 ∨ kk = 8 := by omega
  rcases this with rfl | rfl | rfl | rfl | rfl | rfl | rfl | rfl | rfl <;> simp [wordOf]

def dText1 (kk : Nat) (a : Int) : ByteArray := wordOf kk ++ sp ++ decS a
def dText (kk : Nat) (a b c : Int) : ByteArray :=
  if 2 < numsOf kk then dText1 kk a ++ (sp ++ decS b) ++ (sp ++ decS c) else if 1 < numsOf kk then dText1 kk a ++ (sp ++ decS b) else dText1 kk a

theorem dText1_size (kk : Nat) (a : Int) (hk : kk < 9) (ha : a ≤ 9223372036854775807) : (dText1 kk a).size ≤ 40 := by
  unfold dText1
  have := wordOf_size kk hk
  have := decS_size a ha
  have h1 : sp.size = 1 := rfl
  rw [ByteArray.size_append, ByteArray.size_append]
  omega

set_option maxHeartbeats 4000000 in
theorem specDeedText_in (kk : Nat) (a b c : Int) (w : World) (HV : Hid (vDeed kk a b c = true)) :
    Calls Tryd.prog 11 #[.agg #[.int .i64 kk, .int .i64 a, .int .i64 b, .int .i64 c]] w fun e w' => e = .returned (.string (dText kk a b c)) ∧ Below w.heap.size w w' := by
  have hv := HV.out
  simp [vDeed, inB] at hv
  have hk : kk < 9 := by omega
  have ha0 : 0 ≤ a := by omega
  have ha1 : a ≤ 9223372036854775807 := by omega
  have hb0 : 0 ≤ b := by omega
  have hb1 : b ≤ 9223372036854775807 := by omega
  have hc0 : 0 ≤ c := by omega
  have hc1 : c ≤ 9223372036854775807 := by omega
  have za := decS_size a ha1
  have zb := decS_size b hb1
  have zc := decS_size c hc1
  have zw := wordOf_size kk hk
  have hkI : (kk : Int) < 9 := by omega
  clear hv
  go_enter Tryd.func11, Tryd.ntmps11
  go_wp2_with fail
  refine (specValidDeed_any _ _ _ _ _).mono ?_
  rintro e w1 ⟨rfl, hB1⟩
  rw [HV.out]
  obtain ⟨hx1, hf1⟩ := bcell hB1
  simp only [World.size_alloc] at hx1 hf1
  have hz1 := hB1.size
  simp only [World.size_alloc] at hz1
  have hz1 : w.heap.size < w1.heap.size := hz1
  go_upto_region 3 with fail
  go_cut [3] (fun s3 wx => s3 = .string (dText1 kk a) ∧ Below w1.heap.size w1 wx)
  case first =>
    go_region_with (first | (go_at_call 8; refine (l09Names_at kk hk _).mono ?_; rintro e w2 ⟨rfl, hB2, hs2, hc2⟩; (try replace hB2 := undrew hB2); have hx2 := (bcell hB2).1; have hz2 : w.heap.size < w2.heap.size := lt_call (by assumption) hB2; (try replace hc2 := uncell hc2); (try replace hs2 := unsize hs2)) | (go_at_call 19; refine (specDecimal a _ ha0 ha1).mono ?_; rintro e w3 ⟨rfl, hB3⟩; (try replace hB3 := undrew hB3); have hx3 := (bcell hB3).1; have hz3 : w.heap.size < w3.heap.size := lt_call (by assumption) hB3))
    all_goals (go_wp2_with fail; go_meet; refine ⟨rfl, ?_⟩)
    all_goals first | exact hB2.trans (hB3.mono hB2.size) | exact hB3.trans (hB2.mono hB3.size)
  case rest =>
    obtain ⟨rfl, hBc⟩ := hcut
    have hxc := (bcell hBc).1
    have hzc : w.heap.size < wc.heap.size := lt_call hz1 hBc
    have hC : Below w.heap.size w wc := ((Below.refl w.heap.size w).alloc (Nat.le_refl _) (.cells #[.int .i64 kk, .int .i64 a, .int .i64 b, .int .i64 c] 23)).trans ((hB1.trans (hBc.mono hB1.size)).mono (by simp))
    have z1 := dText1_size kk a hk ha1
    go_wp2_with (first | (go_at_call 10; refine (l09Numbers_any _ _).mono ?_; rintro e w' ⟨rfl, rfl⟩) | (go_at_call_of 19 (Value.int IntKind.i64 b); refine (specDecimal b _ hb0 hb1).mono ?_; rintro e w4 ⟨rfl, hB4⟩; (try replace hB4 := undrew hB4); have hx4 := (bcell hB4).1; have hz4 : w.heap.size < w4.heap.size := lt_call (by assumption) hB4) | (go_at_call_of 19 (Value.int IntKind.i64 c); refine (specDecimal c _ hc0 hc1).mono ?_; rintro e w5 ⟨rfl, hB5⟩; (try replace hB5 := undrew hB5)))
    all_goals go_ret
    · exact ⟨ret_str (by unfold dText; rw [if_pos (by omega)]; rfl), below_call (below_call hC hB4) hB5⟩
    · exact ⟨ret_str (by unfold dText; rw [if_neg (by omega), if_pos (by omega)]; rfl), below_call hC hB4⟩
    · exact ⟨ret_str (by unfold dText; rw [if_neg (by omega), if_neg (by omega)]), hC⟩

end Go.Proofs.YtnbaapofjmjgiaaDoor
