/- The walk of the law FnBits: it returns true. -/
import Derived.Test.YtnjcmonlfngjcaaDoorGen
import Derived.Test.YtnjcmonlfngjcaaDoorPair
namespace Go.Proofs.YtnjcmonlfngjcaaDoor
open Go.RowKit

set_option maxHeartbeats 400000 in
theorem a2LongC (n1 n2 : Nat) (c1 c2 : Value) (h1 : c1 = .slice none 0 0 ∧ n1 = 0 ∨ ∃ b o cap, c1 = .slice (some ⟨b, o, none⟩) n1 cap) (h2 : c2 = .slice none 0 0 ∧ n2 = 0 ∨ ∃ b o cap, c2 = .slice (some ⟨b, o, none⟩) n2 cap) (w : World) :
    Calls Tryd.prog 4 #[c1, c2] w fun e w' => e = .returned (.bool (decide (3000 < n1) || decide (3000 < n2))) ∧ w = w' := by
  by_cases g1 : 3000 < n1
  · have g1I : (3000 : Int) < n1 := by omega
    rcases h1 with ⟨rfl, rfl⟩ | ⟨b, o, cap, rfl⟩
    · omega
    · have hd : (decide (3000 < n1) || decide (3000 < n2)) = true := by simp [g1]
      have HD := Lib.hid hd
      clear hd g1 h2
      go_enter Tryd.func4, Tryd.ntmps4
      go_wp2_with fail
      go_ret
      exact ⟨ret_bool (by rw [HD.out]), rfl⟩
  · have g1I : ¬ ((3000 : Int) < n1) := by omega
    rcases h1 with ⟨rfl, rfl⟩ | ⟨b, o, cap, rfl⟩ <;> rcases h2 with ⟨rfl, rfl⟩ | ⟨b2, o2, cap2, rfl⟩
    all_goals
      go_enter Tryd.func4, Tryd.ntmps4
      go_wp2_with fail
      go_ret
      exact ⟨ret_bool (by simp; try omega), rfl⟩

set_option maxHeartbeats 400000 in
theorem a2AtC (cv : Value) (n : Nat) (w : World) (hb : BytesAt w cv n w.heap.size) :
    Calls Tryd.prog 6 #[cv, .int .i64 0, .int .i64 3] w fun e w' => ∃ x : Nat, x ≤ 2 ∧ e = .returned (.int .i64 x) ∧ Below w.heap.size w w' := by
  rcases hb with ⟨rfl, rfl⟩ | ⟨b, o, cap, rfl, hne, hc⟩
  · go_enter Tryd.func6, Tryd.ntmps6
    go_wp2_with fail
    go_ret
    exact ⟨0, by omega, rfl, Below.refl _ _⟩
  · rcases Nat.eq_zero_or_pos n with rfl | hn
    · clear hc
      go_enter Tryd.func6, Tryd.ntmps6
      go_wp2_with fail
      go_ret
      exact ⟨0, by omega, rfl, Below.refl _ _⟩
    · obtain ⟨x, hx, h0⟩ := hc 0 hn
      have h0' : w.cell? ⟨b, o, none⟩ = some (.int .u8 x) := h0
      have hnI : ¬ ((n : Int) ≤ 0) := by omega
      clear hc h0
      go_enter Tryd.func6, Tryd.ntmps6
      go_wp2_with fail
      go_ret
      exact ⟨x % 3, by omega, by go_num, Below.refl _ _⟩

theorem cat1 (A B : List UInt8) : (⟨(A ++ 32 :: B).toArray⟩ : ByteArray) ++ ⟨#[32]⟩ = ⟨(A ++ 32 :: (B ++ [32])).toArray⟩ := by
  apply ByteArray.ext
  simp

set_option maxHeartbeats 400000 in
theorem readBitsC (A C : List UInt8) (hA : (32 : UInt8) ∉ A) (hAl : A.length ≤ 100) (hCl : C.length ≤ 100) (R1 R2 : Nat → Bool → Prop) (h1 : PartOf ⟨A.toArray⟩ false R1) (h2 : PartOf ⟨C.toArray⟩ false R2) (w : World) (HE : Hid (BEnv w)) :
    Calls Tryd.prog 8 #[.string ⟨(A ++ 32 :: C).toArray⟩] w fun e w' => ∃ a p b q, R1 a p ∧ R2 b q ∧ e = .returned (pairRes a p b q) ∧ Below w.heap.size w w' := by
  have HC := Lib.hid (readPair_of A C false hA hAl hCl R1 R2 h1 h2 w HE)
  clear hA h1 h2
  go_enter Tryd.func8, Tryd.ntmps8
  go_wp2_with fail
  refine HC.out.mono ?_
  rintro e w1 ⟨a, p, b, q, r1, r2, rfl, hB⟩
  have HR := Lib.hid (And.intro r1 (And.intro r2 hB))
  clear r1 r2 hB
  cases p <;> cases q
  · unfold pairRes
    simp only [Bool.false_and, Bool.false_eq_true, if_false]
    go_wp2_with fail
    refine bodyPost_ret (v := .tuple #[.complex .f64 0 0, .int .i64 5]) (by simp [results, Tryd.results8, go_sem]) rfl ⟨a, _, b, _, HR.out.1, HR.out.2.1, rfl, HR.out.2.2⟩
  · unfold pairRes
    simp only [Bool.false_and, Bool.false_eq_true, if_false]
    go_wp2_with fail
    refine bodyPost_ret (v := .tuple #[.complex .f64 0 0, .int .i64 5]) (by simp [results, Tryd.results8, go_sem]) rfl ⟨a, _, b, _, HR.out.1, HR.out.2.1, rfl, HR.out.2.2⟩
  · unfold pairRes
    simp only [Bool.and_false, Bool.false_eq_true, if_false]
    go_wp2_with fail
    refine bodyPost_ret (v := .tuple #[.complex .f64 0 0, .int .i64 5]) (by simp [results, Tryd.results8, go_sem]) rfl ⟨a, _, b, _, HR.out.1, HR.out.2.1, rfl, HR.out.2.2⟩
  · unfold pairRes
    simp only [Bool.and_true, if_true]
    go_wp2_with fail
    refine bodyPost_ret (v := .tuple #[.complex .f64 a b, .int .i64 0]) (by simp [results, Tryd.results8, go_sem]) rfl ⟨a, _, b, _, HR.out.1, HR.out.2.1, rfl, HR.out.2.2⟩

set_option maxHeartbeats 400000 in
theorem readNarrowC (a b : Nat) (ha : a < 4294967296) (hb : b < 4294967296) (w : World) (HE : Hid (BEnv w)) :
    Calls Tryd.prog 10 #[.string ⟨(narL a ++ 32 :: narL b).toArray⟩] w fun e w' => ∃ c d, (c < 4294967296 ∧ same32 a c) ∧ (d < 4294967296 ∧ same32 b d) ∧ e = .returned (.tuple #[.complex .f32 c d, .int .i64 0]) ∧ Below w.heap.size w w' := by
  have hla := narL_len a ha
  have hlb := narL_len b hb
  have HC := Lib.hid (readPair_of (narL a) (narL b) true (narL_no32 a) (by omega) (by omega) _ _ (partN a ha) (partN b hb) w HE)
  clear hla hlb ha hb
  go_enter Tryd.func10, Tryd.ntmps10
  go_wp2_with fail
  refine HC.out.mono ?_
  rintro e w1 ⟨A, p, B, q, ⟨rfl, r1⟩, ⟨rfl, r2⟩, rfl, hB⟩
  have HR := Lib.hid (And.intro r1 (And.intro r2 hB))
  clear r1 r2 hB
  unfold pairRes
  simp only [Bool.and_true, if_true]
  go_wp2_with fail
  refine (narrowOf_any A B _).mono ?_
  rintro e w2 ⟨c, d, ⟨hc, hc1, hc2⟩, ⟨hd, hd1, hd2⟩, rfl, hB2⟩
  have k1 : same32 a c := by
    cases hn : isN .f32 a with
    | true => exact .inl ⟨hn, hc2 (HR.out.1.2 hn)⟩
    | false => exact .inr (hc1 a (HR.out.1.1 hn)).symm
  have k2 : same32 b d := by
    cases hn : isN .f32 b with
    | true => exact .inl ⟨hn, hd2 (HR.out.2.1.2 hn)⟩
    | false => exact .inr (hd1 b (HR.out.2.1.1 hn)).symm
  have HK := Lib.hid (And.intro (And.intro hc k1) (And.intro hd k2))
  clear hc hc1 hc2 hd hd1 hd2 k1 k2
  go_wp2_with fail
  refine bodyPost_ret (v := .tuple #[.complex .f32 c d, .int .i64 0]) (by simp [results, Tryd.results10, go_sem]) rfl ⟨c, d, HK.out.1, HK.out.2, rfl, below_call HR.out.2.2 hB2⟩

def nanNan : List UInt8 := [110, 97, 110, 32, 110, 97, 110]

/-- A slice of bytes in the memory at hand. -/
def BytesIn (w : World) (cv : Value) (n : Nat) : Prop :=
  (cv = .slice none 0 0 ∧ n = 0) ∨ ∃ b o cap, cv = .slice (some ⟨b, o, none⟩) n cap ∧ ∀ j, j < n → ∃ x : Nat, x < 256 ∧ w.cell? ⟨b, o + j, none⟩ = some (.int .u8 x)
theorem BytesIn.at_ {w w1 : World} {cv : Value} {n : Nat} (h : BytesIn w cv n) (hb : Below w.heap.size w w1) : BytesAt w1 cv n w1.heap.size := by
  rcases h with h | ⟨b, o, cap, h, hc⟩
  · exact .inl h
  · refine .inr ⟨b, o, cap, h, fun hn => ?_, fun j hj => ?_⟩
    · obtain ⟨x, _, hxc⟩ := hc 0 hn
      have := lt_of_cell hxc
      have := hb.size
      simp only at *
      omega
    · obtain ⟨x, hx, hxc⟩ := hc j hj
      exact ⟨x, hx, cell_below hxc hb⟩

set_option maxRecDepth 100000 in
set_option maxHeartbeats 2000000 in
theorem lawBits_any (n1 n2 : Nat) (c1 c2 : Value) (w : World) (h1 : BytesIn w c1 n1) (h2 : BytesIn w c2 n2) (HE : Hid (BEnv w)) :
    Calls Tryd.prog 3 #[c1, c2] w fun e w' => e = .returned (.bool true) ∧ Below w.heap.size w w' := by
  have s1 : c1 = .slice none 0 0 ∧ n1 = 0 ∨ ∃ b o cap, c1 = .slice (some ⟨b, o, none⟩) n1 cap := by
    rcases h1 with h | ⟨b, o, cap, h, _⟩
    · exact .inl h
    · exact .inr ⟨b, o, cap, h⟩
  have s2 : c2 = .slice none 0 0 ∧ n2 = 0 ∨ ∃ b o cap, c2 = .slice (some ⟨b, o, none⟩) n2 cap := by
    rcases h2 with h | ⟨b, o, cap, h, _⟩
    · exact .inl h
    · exact .inr ⟨b, o, cap, h⟩
  have HL := Lib.hid (a2LongC n1 n2 c1 c2 s1 s2 w)
  have HA := Lib.hid (a2AtC c2 n2 w (h2.at_ (Below.refl _ _)))
  have H1 := Lib.hid h1
  clear s1 s2 h1 h2
  go_enter Tryd.func3, Tryd.ntmps3
  go_wp2_with fail
  refine HL.out.mono ?_
  rintro e wz ⟨rfl, rfl⟩
  cases hlong : (decide (3000 < n1) || decide (3000 < n2)) with
  | true =>
    go_wp2_with fail
    go_ret
    exact ⟨rfl, Below.refl _ _⟩
  | false =>
    go_wp2_with fail
    refine HA.out.mono ?_
    rintro e w1 ⟨m, hm, rfl, hB1⟩
    have HB1 := Lib.hid hB1
    clear hB1 hlong
    go_wp2_with fail
    refine (a2any c1 n1 m _ (by omega) (H1.out.at_ HB1.out)).mono ?_
    rintro e w2 ⟨x, y, hx, hy, rfl, hB2⟩
    have HB2 := Lib.hid (below_call HB1.out hB2)
    have HXY := Lib.hid (And.intro hx hy)
    clear hB2 hx hy
    go_wp2_with fail
    refine (narrowOf_any x y _).mono ?_
    rintro e w3 ⟨a, b, ⟨ha, _, _⟩, ⟨hb, _, _⟩, rfl, hB3⟩
    have HB3 := Lib.hid (below_call HB2.out hB3)
    have HAB := Lib.hid (And.intro ha hb)
    clear hB3 ha hb
    go_wp2_with fail
    refine (bitsTextC x y HXY.out.1 HXY.out.2 _ (Lib.hid (HE.out.below HB3.out))).mono ?_
    rintro e w4 ⟨rfl, hB4⟩
    have HB4 := Lib.hid (below_call HB3.out hB4)
    clear hB4
    have hl1 := bitsL_len x HXY.out.1
    have hl2 := bitsL_len y HXY.out.2
    have hl3 := narL_len a HAB.out.1
    have hl4 := narL_len b HAB.out.2
    have HLen := Lib.hid (And.intro hl1 (And.intro hl2 (And.intro hl3 hl4)))
    clear hl1 hl2 hl3 hl4
    go_wp2_with fail
    refine (readBitsC (bitsL x) (bitsL y) (bitsL_no32 x) (by have := HLen.out; omega) (by have := HLen.out; omega) _ _ (partW x HXY.out.1) (partW y HXY.out.2) _ (Lib.hid (HE.out.below HB4.out))).mono ?_
    rintro e w5 ⟨X, p, Y, q, ⟨rfl, hx1⟩, ⟨rfl, hy1⟩, rfl, hB5⟩
    have HB5 := Lib.hid (below_call HB4.out hB5)
    have HS1 := Lib.hid (And.intro hx1 hy1)
    clear hB5 hx1 hy1
    unfold pairRes
    simp only [Bool.and_true, if_true]
    go_wp2_with fail
    refine (narrowBitsTextC a b HAB.out.1 HAB.out.2 _ (Lib.hid (HE.out.below HB5.out))).mono ?_
    rintro e w6 ⟨rfl, hB6⟩
    have HB6 := Lib.hid (below_call HB5.out hB6)
    clear hB6
    go_wp2_with fail
    refine (readNarrowC a b HAB.out.1 HAB.out.2 _ (Lib.hid (HE.out.below HB6.out))).mono ?_
    rintro e w7 ⟨c, d, ⟨hc, hsc⟩, ⟨hd, hsd⟩, rfl, hB7⟩
    have HB7 := Lib.hid (below_call HB6.out hB7)
    have HCD := Lib.hid (And.intro (And.intro hc hsc) (And.intro hd hsd))
    clear hB7 hc hsc hd hsd
    go_wp2_with fail
    refine (sameNumber_any x y X Y _).mono ?_
    rintro e wz ⟨he, rfl⟩
    rw [HS1.out.1, HS1.out.2] at he
    subst he
    simp only [Bool.and_self]
    go_wp2_with fail
    refine (sameNarrow_any a b c d HAB.out.1 HAB.out.2 HCD.out.1.1 HCD.out.2.1 HCD.out.1.2 HCD.out.2.2 _).mono ?_
    rintro e w8 ⟨rfl, hB8⟩
    have HB8 := Lib.hid (below_call HB7.out hB8)
    clear hB8
    go_wp2_with fail
    refine (bitsTextC x y HXY.out.1 HXY.out.2 _ (Lib.hid (HE.out.below HB8.out))).mono ?_
    rintro e w9 ⟨rfl, hB9⟩
    have HB9 := Lib.hid (below_call HB8.out hB9)
    clear hB9
    have hcat : ¬ (9223372036854775807 < (bitsL x).length + ((bitsL y).length + 1) + 1) := by have := HLen.out; omega
    go_wp2_with fail
    rw [cat1]
    refine (readBitsC (bitsL x) (bitsL y ++ [32]) (bitsL_no32 x) (by have := HLen.out; omega) (by have := HLen.out; rw [List.length_append]; simp; omega) _ _ (partW x HXY.out.1) (partBad y HXY.out.2) _ (Lib.hid (HE.out.below HB9.out))).mono ?_
    rintro e w10 ⟨X2, p2, Y2, q2, ⟨rfl, _⟩, rfl, rfl, hB10⟩
    have HB10 := Lib.hid (below_call HB9.out hB10)
    clear hB10
    unfold pairRes
    simp only [Bool.and_false, Bool.false_eq_true, if_false]
    go_wp2_with fail
    refine (narrowBitsTextC a b HAB.out.1 HAB.out.2 _ (Lib.hid (HE.out.below HB10.out))).mono ?_
    rintro e w11 ⟨rfl, hB11⟩
    have HB11 := Lib.hid (below_call HB10.out hB11)
    clear hB11
    go_wp2_with fail
    refine (readBitsC (narL a) (narL b) (narL_no32 a) (by have := HLen.out; omega) (by have := HLen.out; omega) _ _ (part8 a HAB.out.1) (part8 b HAB.out.2) _ (Lib.hid (HE.out.below HB11.out))).mono ?_
    rintro e w12 ⟨X3, p3, Y3, q3, rfl, rfl, rfl, hB12⟩
    have HB12 := Lib.hid (below_call HB11.out hB12)
    clear hB12
    cases hna : isN .f32 a <;> cases hnb : isN .f32 b
    · unfold pairRes
      simp only [Bool.and_false, Bool.false_eq_true, if_false]
      go_wp2_with fail
      go_ret
      exact ⟨rfl, HB12.out⟩
    · unfold pairRes
      simp only [Bool.false_and, Bool.false_eq_true, if_false]
      go_wp2_with fail
      go_ret
      exact ⟨rfl, HB12.out⟩
    · unfold pairRes
      simp only [Bool.and_false, Bool.false_eq_true, if_false]
      go_wp2_with fail
      go_ret
      exact ⟨rfl, HB12.out⟩
    · have hna' : narL a = [110, 97, 110] := by unfold narL; rw [hna]; rfl
      have hnb' : narL b = [110, 97, 110] := by unfold narL; rw [hnb]; rfl
      have HN := Lib.hid (And.intro hna' hnb')
      unfold pairRes
      simp only [Bool.and_self, if_true]
      clear hna hnb hna' hnb'
      go_wp2_with fail
      refine (narrowBitsTextC a b HAB.out.1 HAB.out.2 _ (Lib.hid (HE.out.below HB12.out))).mono ?_
      rintro e w13 ⟨rfl, hB13⟩
      rw [HN.out.1, HN.out.2]
      have HB13 := Lib.hid (below_call HB12.out hB13)
      clear hB13
      go_wp2_with fail
      go_ret
      exact ⟨rfl, HB13.out⟩
end Go.Proofs.YtnjcmonlfngjcaaDoor
