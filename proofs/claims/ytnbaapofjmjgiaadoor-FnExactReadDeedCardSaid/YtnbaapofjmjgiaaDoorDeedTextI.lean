/- The walk of the program's DeedText. -/
import Derived.Test.YtnbaapofjmjgiaaDoorDeedA
import Derived.Test.YtnbaapofjmjgiaaDoorDeedForms
import Derived.Test.YtnbaapofjmjgiaaDoorImplDecimal
import Derived.Test.YtnbaapofjmjgiaaDoorDeedTextS
namespace Go.Proofs.YtnbaapofjmjgiaaDoor
open Go.RowKit

theorem DeedTab.below {w w1 : World} {tb toff : Nat} (h : DeedTab w tb toff) (hb : Below w.heap.size w w1) : DeedTab w1 tb toff := by
  have hz := hb.size
  refine ⟨(hb.cell (p := ⟨_, 0, none⟩) h.h0).trans h.head, by have := h.h0; omega, by have := h.hb; omega, fun i r hr => ?_⟩
  have := h.cells i r hr
  exact ⟨(hb.cell (p := ⟨tb, _, none⟩) h.hb).trans this.1, (hb.cell (p := ⟨tb, _, none⟩) h.hb).trans this.2⟩
theorem DeedTab.many {w : World} {tb toff : Nat} (h : DeedTab w tb toff) (kk : Nat) (h1 : 1 ≤ kk) (h8 : kk ≤ 8) : w.cell? ⟨tb, toff + kk * 2 + 1, none⟩ = some (.int .i64 (numsOf kk)) := by
  have : kk = 1 ∨ kk = 2 ∨ kk = 3 ∨ kk = 4 ∨ kk = 5 ∨ kk = 6 ∨ kk = 7 ∨ kk = 8 := by omega
  rcases this with rfl | rfl | rfl | rfl | rfl | rfl | rfl | rfl
  · exact (h.cells 1 _ rfl).2
  · exact (h.cells 2 _ rfl).2
  · exact (h.cells 3 _ rfl).2
  · exact (h.cells 4 _ rfl).2
  · exact (h.cells 5 _ rfl).2
  · exact (h.cells 6 _ rfl).2
  · exact (h.cells 7 _ rfl).2
  · exact (h.cells 8 _ rfl).2
theorem DeedTab.word {w : World} {tb toff : Nat} (h : DeedTab w tb toff) (kk : Nat) (h1 : 1 ≤ kk) (h8 : kk ≤ 8) : w.cell? ⟨tb, toff + kk * 2, none⟩ = some (.string (wordOf kk)) := by
  have : kk = 1 ∨ kk = 2 ∨ kk = 3 ∨ kk = 4 ∨ kk = 5 ∨ kk = 6 ∨ kk = 7 ∨ kk = 8 := by omega
  rcases this with rfl | rfl | rfl | rfl | rfl | rfl | rfl | rfl
  · exact (h.cells 1 _ rfl).1
  · exact (h.cells 2 _ rfl).1
  · exact (h.cells 3 _ rfl).1
  · exact (h.cells 4 _ rfl).1
  · exact (h.cells 5 _ rfl).1
  · exact (h.cells 6 _ rfl).1
  · exact (h.cells 7 _ rfl).1
  · exact (h.cells 8 _ rfl).1
theorem DeedTab.manyAt {w : World} {tb toff : Nat} (h : DeedTab w tb toff) (kk : Nat) (h1 : 1 ≤ kk) (h8 : kk ≤ 8) : ManyAt w tb toff kk (numsOf kk) :=
  ⟨h.head, h.h0, h.hb, h.many kk h1 h8⟩

/-- The text behind j numbers. -/
def tAt (kk : Nat) (a b c : Int) : Nat → ByteArray
  | 0 => wordOf kk
  | 1 => wordOf kk ++ (sp ++ decS a)
  | 2 => wordOf kk ++ (sp ++ decS a) ++ (sp ++ decS b)
  | _ => wordOf kk ++ (sp ++ decS a) ++ (sp ++ decS b) ++ (sp ++ decS c)
theorem tAt_text (kk : Nat) (a b c : Int) : tAt kk a b c (numsOf kk).toNat = dText kk a b c := by
  unfold dText dText1
  by_cases h2 : 2 < numsOf kk
  · have : (numsOf kk).toNat = 3 := by unfold numsOf at *; split at h2 <;> (try split at h2) <;> simp_all
    rw [this, if_pos h2]
    simp only [tAt, ByteArray.append_assoc]
  · by_cases h1 : 1 < numsOf kk
    · have : (numsOf kk).toNat = 2 := by omega
      rw [this, if_neg h2, if_pos h1]
      simp only [tAt, ByteArray.append_assoc]
    · have := numsOf_pos kk
      have : (numsOf kk).toNat = 1 := by omega
      rw [this, if_neg h2, if_neg h1]
      simp only [tAt, ByteArray.append_assoc]

theorem itoa_decS (n : Int) (h : 0 ≤ n) : (⟨(Lib.itoa n).toArray⟩ : ByteArray) = decS n := by
  unfold Lib.itoa decS
  rw [if_neg (by omega)]

/-- What the loop over the numbers keeps: the old memory, and the row of the numbers. -/
structure NumRow (w wr : World) (g : Nat) (a b c : Int) : Prop where
  below : Below w.heap.size w wr
  size : g < wr.heap.size
  r0 : wr.cell? ⟨g, 0, none⟩ = some (.int .i64 a)
  r1 : wr.cell? ⟨g, 1, none⟩ = some (.int .i64 b)
  r2 : wr.cell? ⟨g, 2, none⟩ = some (.int .i64 c)
theorem NumRow.step {w wr w3 : World} {g : Nat} {a b c : Int} (h : NumRow w wr g a b c) (hb : Below wr.heap.size wr w3) : NumRow w w3 g a b c :=
  ⟨below_call h.below hb, Nat.lt_of_lt_of_le h.size hb.size, (hb.cell (p := ⟨g, 0, none⟩) h.size).trans h.r0, (hb.cell (p := ⟨g, 1, none⟩) h.size).trans h.r1, (hb.cell (p := ⟨g, 2, none⟩) h.size).trans h.r2⟩

theorem tAt_size (kk : Nat) (a b c : Int) (j : Nat) (hk : kk < 9) (hv : vDeed kk a b c = true) : (tAt kk a b c j).size ≤ 100 := by
  simp [vDeed, inB] at hv
  have zw := wordOf_size kk hk
  have za := decS_size a (by omega)
  have zb := decS_size b (by omega)
  have zc := decS_size c (by omega)
  have h1 : sp.size = 1 := rfl
  match j with
  | 0 => simp only [tAt]; omega
  | 1 => simp only [tAt, ByteArray.size_append]; omega
  | 2 => simp only [tAt, ByteArray.size_append]; omega
  | _ + 3 => simp only [tAt, ByteArray.size_append]; omega

set_option maxHeartbeats 1000000 in
theorem implDeedText_in (kk m : Nat) (tb toff : Nat) (a b c : Int) (w : World) (HV : Hid (vDeed kk a b c = true)) (HM : Hid (numsOf kk = m)) (HT : Hid (DeedTab w tb toff)) (HP : Hid (Lib.TabIs Tryd.prog w "internal/strconv.uint64pow10" .u64 Lib.pow10Tab)) :
    Calls Tryd.prog 17 #[.agg #[.int .i64 kk, .int .i64 a, .int .i64 b, .int .i64 c]] w fun e w' => e = .returned (.string (dText kk a b c)) ∧ Below w.heap.size w w' := by
  have hv := HV.out
  simp [vDeed, inB] at hv
  have hk : kk < 9 := by omega
  have hk1 : 1 ≤ kk := by omega
  have hkI : (kk : Int) < 9 := by omega
  have hm1 : 1 ≤ m := by have := numsOf_pos kk; have := HM.out; omega
  have hm3 : m ≤ 3 := by have := HM.out; unfold numsOf at this; split at this <;> (try split at this) <;> omega
  have ha0 : 0 ≤ a := by omega
  have ha1 : a ≤ 999 := by omega
  have hb0 : 0 ≤ b := by omega
  have hb1 : b ≤ 999 := by omega
  have hc0 : 0 ≤ c := by omega
  have hc1 : c ≤ 999 := by omega
  have hm0I : (0 : Int) ≤ m := by omega
  have hm3I : (m : Int) ≤ 3 := by omega
  have zw := wordOf_size kk hk
  clear hv
  go_enter Tryd.func17, Tryd.ntmps17
  go_wp2_with fail
  refine (implValidDeed_any tb toff _ _ _ _ _ ?hT).mono ?_
  case hT =>
    intro j h1 h2
    exact (HT.out.manyAt j h1 h2).alloc _
  rintro e w1 ⟨rfl, hB1⟩
  rw [HV.out]
  have hx1 := (bcell hB1).1
  have c0 := hx1 w.heap.size 0 (by simp)
  have c1 := hx1 w.heap.size 1 (by simp)
  have c2 := hx1 w.heap.size 2 (by simp)
  have c3 := hx1 w.heap.size 3 (by simp)
  simp at c0 c1 c2 c3
  clear hx1
  have hz1 := hB1.size
  simp only [World.size_alloc] at hz1
  have hz1 : w.heap.size < w1.heap.size := hz1
  have hD : DeedTab w1 tb toff := (HT.out.below ((Below.refl _ _).alloc (Nat.le_refl _) _)).below hB1
  have hh := hD.head
  have h0 := hD.h0
  have hb := hD.hb
  have hw := hD.word kk hk1 (by omega)
  have hm := hD.many kk hk1 (by omega)
  rw [HM.out] at hm
  clear hD
  go_wp2_with fail
  go_region_held3 (fun w' => w'.cell? ⟨w.heap.size, 0, none⟩ = some (.int .i64 kk) ∧ w'.cell? ⟨w.heap.size, 1, none⟩ = some (.int .i64 a) ∧ w'.cell? ⟨w.heap.size, 2, none⟩ = some (.int .i64 b) ∧ w'.cell? ⟨w.heap.size, 3, none⟩ = some (.int .i64 c) ∧ w'.cell? ⟨0, 0, none⟩ = some (.slice (some ⟨tb, toff, none⟩) 9 9) ∧ w'.cell? ⟨tb, toff + kk * 2 + 1, none⟩ = some (.int .i64 m)) (first | go_keep | (simp [*]; done)) ((go_at_call 25; refine (numbers_any _ _ _ _ _).mono ?_; rintro e w2 ⟨rfl, rfl⟩))
  go_wp2_with fail
  go_loopw [3, 5, 25] (fun t _ i wr => ∃ j : Nat, j ≤ m ∧ i = .int .i64 j ∧ t = .string (tAt kk a b c j) ∧ NumRow w wr (w1.heap.size + 1) a b c) (fun _ _ i _ => m - (intOf i).toNat)
  case atStart =>
    refine ⟨0, by omega, rfl, rfl, ?_, by simp, by simp, by simp, by simp⟩
    have h1 : Below w.heap.size w w1 := ((Below.refl _ _).alloc (Nat.le_refl _) _).trans (hB1.mono (by simp))
    exact ((h1.alloc h1.size _).alloc (by simp; omega) _).drew
  case round =>
    obtain ⟨j, hj, rfl, rfl, hN⟩ := hrel
    by_cases hlt : j < m
    · obtain ⟨hBr, hs, r0, r1, r2⟩ := hN
      have hP : Lib.TabIs Tryd.prog wr "internal/strconv.uint64pow10" .u64 Lib.pow10Tab := tabIs_below HP.out hBr
      have HPr := Lib.hid hP
      clear hP
      have HN := Lib.hid (show NumRow w wr (w1.heap.size + 1) a b c from ⟨hBr, hs, r0, r1, r2⟩)
      clear hBr
      have : j = 0 ∨ j = 1 ∨ j = 2 := by omega
      rcases this with rfl | rfl | rfl
      · have zt := tAt_size kk a b c 0 hk HV.out
        have zn := decS_size a (by omega)
        go_wp2_with (go_at_call 23; refine (implDecimal_any a (by omega) (by omega) _ HPr.out).mono ?_; rw [itoa_decS a ha0]; rintro e w3 ⟨rfl, hB3⟩)
        go_roundw
        case rel => exact ⟨1, by omega, rfl, rfl, HN.out.step hB3⟩
        case measure => simp [intOf]; omega
      · have zt := tAt_size kk a b c 1 hk HV.out
        have zn := decS_size b (by omega)
        go_wp2_with (go_at_call 23; refine (implDecimal_any b (by omega) (by omega) _ HPr.out).mono ?_; rw [itoa_decS b hb0]; rintro e w3 ⟨rfl, hB3⟩)
        go_roundw
        case rel => exact ⟨2, by omega, rfl, rfl, HN.out.step hB3⟩
        case measure => simp [intOf]; omega
      · have zt := tAt_size kk a b c 2 hk HV.out
        have zn := decS_size c (by omega)
        go_wp2_with (go_at_call 23; refine (implDecimal_any c (by omega) (by omega) _ HPr.out).mono ?_; rw [itoa_decS c hc0]; rintro e w3 ⟨rfl, hB3⟩)
        go_roundw
        case rel => exact ⟨3, by omega, rfl, rfl, HN.out.step hB3⟩
        case measure => simp [intOf]; omega
    · have hB := hN.below
      have HB := Lib.hid hB
      clear hN hB
      obtain rfl : j = m := by omega
      go_wp2
      go_ret
      refine ⟨ret_str ?_, HB.out⟩
      have := tAt_text kk a b c
      rw [HM.out, Int.toNat_natCast] at this
      exact this

end Go.Proofs.YtnbaapofjmjgiaaDoor
