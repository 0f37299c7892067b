/- The walk of the law FnExactValidDeed: it returns true. -/
import Derived.Test.YtpbmjnknclmioaaDoorDeedA
namespace Go.Proofs.YtpbmjnknclmioaaDoor
open Go.RowKit

theorem bcell {W w1 : World} {B : Nat} (hb : Below B W w1) : (∀ b o, b < B → w1.cell? ⟨b, o, none⟩ = W.cell? ⟨b, o, none⟩) ∧ (∀ b o, b < B → w1.frozen? ⟨b, o, none⟩ = W.frozen? ⟨b, o, none⟩) :=
  ⟨fun b o h => hb.cell (p := ⟨b, o, none⟩) h, fun b o h => hb.frozen (p := ⟨b, o, none⟩) h⟩

theorem ManyAt.below {w w1 : World} {tb toff kk : Nat} {m : Int} (h : ManyAt w tb toff kk m) (hb : Below w.heap.size w w1) : ManyAt w1 tb toff kk m := by
  have hz := hb.size
  exact ⟨(hb.cell (p := ⟨_, 0, none⟩) h.h0).trans h.head, by have := h.h0; omega, by have := h.hb; omega, (hb.cell (p := ⟨tb, _, none⟩) h.hb).trans h.many⟩
theorem ManyAt.alloc {w : World} {tb toff kk : Nat} {m : Int} (h : ManyAt w tb toff kk m) (o : Obj) : ManyAt (w.alloc o) tb toff kk m :=
  h.below ((Below.refl _ _).alloc (Nat.le_refl _) _)

/-- Whatever deed: the two answers are one. -/
theorem implValidDeed_any (tb toff : Nat) (k a b c : Int) (w : World) (hT : ∀ kk : Nat, 1 ≤ kk → kk ≤ 8 → ManyAt w tb toff kk (numsOf kk)) :
    Calls Tryd.prog 7 #[.agg #[.int .i64 k, .int .i64 a, .int .i64 b, .int .i64 c]] w fun e w' => e = .returned (.bool (vDeed k a b c)) ∧ Below w.heap.size w w' := by
  cases h1 : inB k 1 8
  · have H1 := Lib.hid h1
    clear h1
    go_enter Tryd.func7, Tryd.ntmps7
    go_wp2_with (go_at_call 12; refine (in_f _ _ _ _ H1.out).mono ?_; rintro e w' ⟨rfl, rfl⟩)
    go_ret
    exact ⟨ret_bool (by simp [vDeed, H1.out]), (Below.refl _ _).alloc (Nat.le_refl _) _⟩
  · have h2 := h1
    simp [inB] at h2
    obtain ⟨kk, rfl⟩ := Int.eq_ofNat_of_zero_le (show 0 ≤ k by omega)
    exact implValidDeed_in kk tb toff a b c _ w (Lib.hid h1) (Lib.hid rfl) (hT kk (by omega) (by omega))

set_option maxHeartbeats 400000 in
theorem lawValidDeed_any (tb toff : Nat) (k a b c : Int) (w : World) (HT : Hid (∀ kk : Nat, 1 ≤ kk → kk ≤ 8 → ManyAt w tb toff kk (numsOf kk))) :
    Calls Tryd.prog 3 #[.agg #[.int .i64 k, .int .i64 a, .int .i64 b, .int .i64 c]] w fun e w' => e = .returned (.bool true) ∧ Below w.heap.size w w' := by
  go_enter Tryd.func3, Tryd.ntmps3
  go_wp2_with fail
  refine (toDeed_any _ _ _ _ _).mono ?_
  rintro e w1 ⟨rfl, hb1⟩
  go_wp2_with fail
  refine (specValidDeed_any _ _ _ _ _).mono ?_
  rintro e w2 ⟨rfl, hb2⟩
  have hz1 := hb1.size
  have hz2 := hb2.size
  simp only [World.size_alloc] at hz1 hz2 hb1
  have hB : Below (w.heap.size + 1) (w.alloc (.cells #[.int .i64 k, .int .i64 a, .int .i64 b, .int .i64 c] 23)) w2 := hb1.trans (hb2.mono hz1)
  clear hb1 hb2
  obtain ⟨hc, hf⟩ := bcell hB
  go_wp2_with fail
  refine (toDeed_any _ _ _ _ _).mono ?_
  rintro e w3 ⟨rfl, hb3⟩
  go_wp2_with fail
  refine (implValidDeed_any tb toff _ _ _ _ _ ?hT).mono ?_
  case hT =>
    intro kk h1 h2
    exact (((((HT.out kk h1 h2).alloc _).below (by simpa using hB))).below hb3)
  rintro e w4 ⟨rfl, hb4⟩
  go_wp2
  go_ret
  refine ⟨rfl, ?_⟩
  have hz3 := hb3.size
  exact ((Below.refl _ _).alloc (Nat.le_refl _) _).trans ((hB.mono (by omega)).trans ((hb3.mono (by omega)).trans (hb4.mono (by omega))))

end Go.Proofs.YtpbmjnknclmioaaDoor
