/- Pairs of numbers: their texts, and the texts read. -/
import Derived.Test.YtnjcmonlfngjcaaDoorReadBits
import Derived.Test.YtnjcmonlfngjcaaDoorSplitP
namespace Go.Proofs.YtnjcmonlfngjcaaDoor
open Go.RowKit

theorem cut_at (A C : List UInt8) (h : (32 : UInt8) ∉ A) : Lib.cut (A ++ 32 :: C) [32] = (A, C, true) := by
  have hi := index_one_at 32 A C h
  unfold Lib.cut
  simp only [hi]
  simp

theorem pad_no32 (k u : Nat) : (32 : UInt8) ∉ hexPad k u := by
  intro h
  have := pad_digits k u 32 h
  revert this
  decide

/-- What reading a part says. -/
def PartOf (s : ByteArray) (narrow : Bool) (R : Nat → Bool → Prop) : Prop := ∀ w, BEnv w → Calls Tryd.prog 24 #[.string s, .bool narrow] w fun e w' => ∃ a p, R a p ∧ e = .returned (.tuple #[.float .f64 a, .bool p]) ∧ Below w.heap.size w w'

def pairRes (a : Nat) (p : Bool) (b : Nat) (q : Bool) : Value := if p && q then .tuple #[.complex .f64 a b, .int .i64 0] else .tuple #[.complex .f64 0 0, .int .i64 5]

set_option maxRecDepth 100000 in
set_option maxHeartbeats 1000000 in
theorem readPair_of (A C : List UInt8) (narrow : Bool) (hA : (32 : UInt8) ∉ A) (hAl : A.length ≤ 100) (hCl : C.length ≤ 100) (R1 R2 : Nat → Bool → Prop) (h1 : PartOf ⟨A.toArray⟩ narrow R1) (h2 : PartOf ⟨C.toArray⟩ narrow R2) (w : World) (HE : Hid (BEnv w)) :
    Calls Tryd.prog 16 #[.string ⟨(A ++ 32 :: C).toArray⟩, .bool narrow] w fun e w' => ∃ a p b q, R1 a p ∧ R2 b q ∧ e = .returned (pairRes a p b q) ∧ Below w.heap.size w w' := by
  obtain ⟨m, hm⟩ := HE.out.max
  have hcut := cut_at A C hA
  have hC := Tryd.strings_Cut ⟨(A ++ 32 :: C).toArray⟩ ⟨#[32]⟩ m w (by rw [size_mk]; simp; omega) hm
  have e1 : (⟨(A ++ 32 :: C).toArray⟩ : ByteArray).data.toList = A ++ 32 :: C := by simp
  have e2 : (⟨#[32]⟩ : ByteArray).data.toList = [32] := rfl
  rw [e1, e2, hcut] at hC
  have HC := Lib.hid hC
  have H1 := Lib.hid h1
  have H2 := Lib.hid h2
  clear hC h1 h2 hm e1 e2 hcut hA
  go_enter Tryd.func16, Tryd.ntmps16
  go_wp2_with fail
  refine HC.out.mono ?_
  rintro e w1 ⟨rfl, k, rfl⟩
  have HB0 : Hid (Below w.heap.size w (w.drewN k)) := below_drewN (Below.refl _ _) _
  go_wp2_with fail
  refine (H1.out _ (HE.out.below HB0.out)).mono ?_
  rintro e w2 ⟨a, p, hr1, rfl, hB2⟩
  have HR1 := Lib.hid hr1
  have HB2 := Lib.hid (below_call HB0.out hB2)
  clear hr1 hB2
  go_wp2_with fail
  refine (H2.out _ (HE.out.below HB2.out)).mono ?_
  rintro e w3 ⟨b, q, hr2, rfl, hB3⟩
  have HR2 := Lib.hid hr2
  have HB3 := Lib.hid (below_call HB2.out hB3)
  clear hr2 hB3
  cases p <;> cases q
  · go_wp2_with fail
    refine bodyPost_ret (v := .tuple #[.complex .f64 0 0, .int .i64 5]) (by simp [results, Tryd.results16, go_sem]) rfl ⟨a, _, b, _, HR1.out, HR2.out, rfl, HB3.out⟩
  · go_wp2_with fail
    refine bodyPost_ret (v := .tuple #[.complex .f64 0 0, .int .i64 5]) (by simp [results, Tryd.results16, go_sem]) rfl ⟨a, _, b, _, HR1.out, HR2.out, rfl, HB3.out⟩
  · go_wp2_with fail
    refine bodyPost_ret (v := .tuple #[.complex .f64 0 0, .int .i64 5]) (by simp [results, Tryd.results16, go_sem]) rfl ⟨a, _, b, _, HR1.out, HR2.out, rfl, HB3.out⟩
  · go_wp2_with fail
    refine bodyPost_ret (v := .tuple #[.complex .f64 a b, .int .i64 0]) (by simp [results, Tryd.results16, go_sem]) rfl ⟨a, _, b, _, HR1.out, HR2.out, rfl, HB3.out⟩

def bitsL (a : Nat) : List UInt8 := if isN .f64 a then [110, 97, 110] else hexPad 16 a
def narL (a : Nat) : List UInt8 := if isN .f32 a then [110, 97, 110] else hexPad 8 a
theorem bitsW_L (a : Nat) : bitsW a = ⟨(bitsL a).toArray⟩ := by
  unfold bitsW bitsL
  split <;> rfl
theorem h16 : (16 : Nat) ^ (15 + 1) = 18446744073709551616 := by decide
theorem h8 : (16 : Nat) ^ (7 + 1) = 4294967296 := by decide
theorem bitsL_len (a : Nat) (ha : a < 18446744073709551616) : (bitsL a).length = 3 ∨ (bitsL a).length = 16 := by
  unfold bitsL
  split
  · exact .inl rfl
  · exact .inr (pad_len 15 a (by rw [h16]; exact ha))
theorem bitsL_no32 (a : Nat) : (32 : UInt8) ∉ bitsL a := by
  unfold bitsL
  split
  · decide
  · exact pad_no32 16 a
theorem narL_len (a : Nat) (ha : a < 4294967296) : (narL a).length = 3 ∨ (narL a).length = 8 := by
  unfold narL
  split
  · exact .inl rfl
  · exact .inr (pad_len 7 a (by rw [h8]; exact ha))
theorem narL_no32 (a : Nat) : (32 : UInt8) ∉ narL a := by
  unfold narL
  split
  · decide
  · exact pad_no32 8 a

theorem nanBits_nan : isN .f64 nanBits = true := by decide

theorem partNaN (narrow : Bool) : PartOf ⟨#[110, 97, 110]⟩ narrow (fun b p => p = true ∧ b = nanBits) := fun w _ =>
  (readNaN narrow w).mono fun e w' ⟨h1, h2⟩ => ⟨nanBits, true, ⟨rfl, rfl⟩, h1, by rw [h2]; exact Below.refl _ _⟩

theorem partW (a : Nat) (ha : a < 18446744073709551616) : PartOf ⟨(bitsL a).toArray⟩ false (fun b p => p = true ∧ sameF a b = true) := by
  intro w hE
  cases hn : isN .f64 a with
  | true =>
    have e : bitsL a = [110, 97, 110] := by unfold bitsL; rw [hn]; rfl
    rw [e]
    refine (partNaN false w hE).mono fun e w' ⟨b, p, ⟨h1, h2⟩, h3⟩ => ⟨b, p, ⟨h1, ?_⟩, h3⟩
    subst h2
    simp [sameF, hn, nanBits_nan]
  | false =>
    have e : bitsL a = hexPad 16 a := by unfold bitsL; rw [hn]; rfl
    have hl : (hexPad 16 a).length = 16 := pad_len 15 a (by rw [h16]; exact ha)
    have hs : (⟨(hexPad 16 a).toArray⟩ : ByteArray).size = 16 := by rw [size_mk]; exact hl
    rw [e]
    refine (readGoodW ⟨(hexPad 16 a).toArray⟩ (by omega) (by omega) (by omega) (hexPad 16 a) (by simp) (pad_digits 16 a) (by omega) a (valX_pad 16 a) ha w (Lib.hid hE)).mono fun e w' ⟨h1, h2⟩ => ⟨a, true, ⟨rfl, by simp [sameF, hn]⟩, ?_, h2⟩
    rw [h1]
    have : bitsW a = ⟨(hexPad 16 a).toArray⟩ := by unfold bitsW; rw [hn]; rfl
    rw [this]
    simp

set_option maxRecDepth 100000 in
theorem partBad (a : Nat) (ha : a < 18446744073709551616) : PartOf ⟨(bitsL a ++ [32]).toArray⟩ false (fun _ p => p = false) := by
  intro w hE
  cases hn : isN .f64 a with
  | true =>
    have e : bitsL a = [110, 97, 110] := by unfold bitsL; rw [hn]; rfl
    rw [e]
    exact (readBad ⟨#[110, 97, 110, 32]⟩ (by decide) (by decide) (by decide) [] [110, 97, 110, 32] rfl (by simp) (by simp) ⟨110, _, rfl, .inr rfl⟩ w (Lib.hid hE)).mono fun e w' ⟨b, h1, h2⟩ => ⟨b, false, rfl, h1, h2⟩
  | false =>
    have e : bitsL a = hexPad 16 a := by unfold bitsL; rw [hn]; rfl
    have hl : (hexPad 16 a).length = 16 := pad_len 15 a (by rw [h16]; exact ha)
    rw [e]
    obtain ⟨S, hS⟩ : ∃ S : ByteArray, S = ⟨(hexPad 16 a ++ [32]).toArray⟩ := ⟨_, rfl⟩
    have hs : S.size = 17 := by rw [hS, size_mk, List.length_append, hl]; rfl
    have hd : S.data.toList = hexPad 16 a ++ [32] := by rw [hS]
    rw [← hS]
    have hp := pad_digits 16 a
    generalize hexPad 16 a = D at *
    exact (readBad S (by omega) (by omega) (by omega) D [32] hd hp (by omega) ⟨32, [], rfl, .inl rfl⟩ w (Lib.hid hE)).mono fun e w' ⟨b, h1, h2⟩ => ⟨b, false, rfl, h1, h2⟩

/-- A narrow number's text is no wide number's, but for NaN's. -/
theorem part8 (a : Nat) (ha : a < 4294967296) : PartOf ⟨(narL a).toArray⟩ false (fun _ p => p = isN .f32 a) := by
  intro w hE
  cases hn : isN .f32 a with
  | true =>
    have e : narL a = [110, 97, 110] := by unfold narL; rw [hn]; rfl
    rw [e]
    exact (partNaN false w hE).mono fun e w' ⟨b, p, ⟨h1, h2⟩, h3⟩ => ⟨b, p, h1, h3⟩
  | false =>
    have e : narL a = hexPad 8 a := by unfold narL; rw [hn]; rfl
    have hl : (hexPad 8 a).length = 8 := pad_len 7 a (by rw [h8]; exact ha)
    have hs : (⟨(hexPad 8 a).toArray⟩ : ByteArray).size = 8 := by rw [size_mk]; exact hl
    rw [e]
    refine (readGoodW ⟨(hexPad 8 a).toArray⟩ (by omega) (by omega) (by omega) (hexPad 8 a) (by simp) (pad_digits 8 a) (by omega) a (valX_pad 8 a) (by omega) w (Lib.hid hE)).mono fun e w' ⟨h1, h2⟩ => ⟨a, false, rfl, ?_, h2⟩
    rw [h1, toList_ne_len]
    rw [hs, bitsW_L, size_mk]
    have := bitsL_len a (by omega)
    omega

/-- A wide number that a narrow one was. -/
def Back (a B : Nat) : Prop := (isN .f32 a = false → floatToFloatBits .f64 B .f32 = some a) ∧ (isN .f32 a = true → isN .f64 B = true)
theorem partN (a : Nat) (ha : a < 4294967296) : PartOf ⟨(narL a).toArray⟩ true (fun B p => p = true ∧ Back a B) := by
  intro w hE
  cases hn : isN .f32 a with
  | true =>
    have e : narL a = [110, 97, 110] := by unfold narL; rw [hn]; rfl
    rw [e]
    refine (partNaN true w hE).mono fun e w' ⟨b, p, ⟨h1, h2⟩, h3⟩ => ⟨b, p, ⟨h1, fun h => ?_, fun _ => ?_⟩, h3⟩
    · rw [hn] at h; cases h
    · rw [h2]; exact nanBits_nan
  | false =>
    have e : narL a = hexPad 8 a := by unfold narL; rw [hn]; rfl
    rw [e]
    refine (readGoodN a ha hn w (Lib.hid hE)).mono fun e w' ⟨B, ⟨g1, g2, g3⟩, h1, h2⟩ => ⟨B, true, ⟨rfl, fun _ => g2, fun h => ?_⟩, h1, h2⟩
    rw [hn] at h; cases h

theorem cat3 (A B : List UInt8) : (⟨A.toArray⟩ : ByteArray) ++ ⟨#[32]⟩ ++ ⟨B.toArray⟩ = ⟨(A ++ 32 :: B).toArray⟩ := by
  apply ByteArray.ext
  simp

set_option maxRecDepth 100000 in
set_option maxHeartbeats 400000 in
theorem pairText_wide (a b : Nat) (ha : a < 18446744073709551616) (hb : b < 18446744073709551616) (w : World) (HE : Hid (BEnv w)) :
    Calls Tryd.prog 17 #[.complex .f64 a b, .bool false] w fun e w' => e = .returned (.string ⟨(bitsL a ++ 32 :: bitsL b).toArray⟩) ∧ Below w.heap.size w w' := by
  have hla := bitsL_len a ha
  have hlb := bitsL_len b hb
  have hc1 : ¬ (9223372036854775807 < (bitsL a).length + 1) := by omega
  have hc2 : ¬ (9223372036854775807 < (bitsL a).length + 1 + (bitsL b).length) := by omega
  clear hla hlb
  go_enter Tryd.func17, Tryd.ntmps17
  go_wp2_with fail
  refine (bitsText_wide a ha _ HE.out.tz).mono ?_
  rintro e w1 ⟨rfl, hB1⟩
  rw [bitsW_L]
  have HB1 := Lib.hid hB1
  clear hB1
  go_wp2_with fail
  refine (bitsText_wide b hb _ (HE.out.below HB1.out).tz).mono ?_
  rintro e w2 ⟨rfl, hB2⟩
  rw [bitsW_L]
  have HB2 := Lib.hid (below_call HB1.out hB2)
  clear hB2
  go_wp2_with fail
  go_ret
  exact ⟨ret_str (by rw [← cat3]), HB2.out⟩

/-- The wide number's text in the narrow spelling, where it was narrow. -/
theorem bitsText_N (a B : Nat) (ha : a < 4294967296) (hB : Back a B) (w : World) (hE : BEnv w) :
    Calls Tryd.prog 25 #[.float .f64 B, .bool true] w fun e w' => e = .returned (.string ⟨(narL a).toArray⟩) ∧ Below w.heap.size w w' := by
  cases hn : isN .f32 a with
  | true =>
    have e : narL a = [110, 97, 110] := by unfold narL; rw [hn]; rfl
    rw [e]
    exact (bitsText_nan B (hB.2 hn) w).mono fun e w' ⟨h1, h2⟩ => ⟨h1, by rw [h2]; exact Below.refl _ _⟩
  | false =>
    have e : narL a = hexPad 8 a := by unfold narL; rw [hn]; rfl
    rw [e]
    have h := hB.1 hn
    have hnB : isN .f64 B = false := by
      cases hb : isN .f64 B with
      | false => rfl
      | true =>
        unfold isN at hb
        unfold floatToFloatBits at h
        rw [if_neg (by decide)] at h
        cases hd : FloatKind.f64.decode B with
        | nan s t => rw [hd] at h; cases h
        | infinity s => rw [hd] at hb; cases hb
        | number s m i => rw [hd] at hb; cases hb
    exact bitsText_narrow B a ha h hnB w hE.tz

set_option maxRecDepth 100000 in
set_option maxHeartbeats 400000 in
theorem pairText_narrow (a b A B : Nat) (ha : a < 4294967296) (hb : b < 4294967296) (hA : Back a A) (hB : Back b B) (w : World) (HE : Hid (BEnv w)) :
    Calls Tryd.prog 17 #[.complex .f64 A B, .bool true] w fun e w' => e = .returned (.string ⟨(narL a ++ 32 :: narL b).toArray⟩) ∧ Below w.heap.size w w' := by
  have hla := narL_len a ha
  have hlb := narL_len b hb
  have hc1 : ¬ (9223372036854775807 < (narL a).length + 1) := by omega
  have hc2 : ¬ (9223372036854775807 < (narL a).length + 1 + (narL b).length) := by omega
  have H1 := Lib.hid (fun w hE => bitsText_N a A ha hA w hE)
  have H2 := Lib.hid (fun w hE => bitsText_N b B hb hB w hE)
  clear hla hlb hA hB
  go_enter Tryd.func17, Tryd.ntmps17
  go_wp2_with fail
  refine (H1.out _ HE.out).mono ?_
  rintro e w1 ⟨rfl, hB1⟩
  have HB1 := Lib.hid hB1
  clear hB1
  go_wp2_with fail
  refine (H2.out _ (HE.out.below HB1.out)).mono ?_
  rintro e w2 ⟨rfl, hB2⟩
  have HB2 := Lib.hid (below_call HB1.out hB2)
  clear hB2
  go_wp2_with fail
  go_ret
  exact ⟨ret_str (by rw [← cat3]), HB2.out⟩

theorem wide_Back {a A : Nat} (ha : a < 4294967296) (h : a < 4294967296 → (∀ r, floatToFloatBits .f32 a .f64 = some r → A = r) ∧ (isN .f32 a = true → isN .f64 A = true)) : Back a A := by
  obtain ⟨h1, h2⟩ := h ha
  refine ⟨fun hn => ?_, h2⟩
  obtain ⟨B, g1, g2, _⟩ := wide_back a ha hn
  rw [h1 B g1]; exact g2

set_option maxHeartbeats 400000 in
theorem bitsTextC (a b : Nat) (ha : a < 18446744073709551616) (hb : b < 18446744073709551616) (w : World) (HE : Hid (BEnv w)) :
    Calls Tryd.prog 9 #[.complex .f64 a b] w fun e w' => e = .returned (.string ⟨(bitsL a ++ 32 :: bitsL b).toArray⟩) ∧ Below w.heap.size w w' := by
  have H1 := Lib.hid (fun w HE => pairText_wide a b ha hb w HE)
  clear ha hb
  go_enter Tryd.func9, Tryd.ntmps9
  go_wp2_with fail
  refine (H1.out _ HE).mono ?_
  rintro e w1 ⟨rfl, hB1⟩
  go_wp2_with fail
  go_ret
  exact ⟨rfl, hB1⟩
set_option maxHeartbeats 400000 in
theorem narrowBitsTextC (a b : Nat) (ha : a < 4294967296) (hb : b < 4294967296) (w : World) (HE : Hid (BEnv w)) :
    Calls Tryd.prog 11 #[.complex .f32 a b] w fun e w' => e = .returned (.string ⟨(narL a ++ 32 :: narL b).toArray⟩) ∧ Below w.heap.size w w' := by
  have HA := Lib.hid (And.intro ha hb)
  clear ha hb
  go_enter Tryd.func11, Tryd.ntmps11
  go_wp2_with fail
  refine (wideOf_any a b HA.out.1 HA.out.2 _).mono ?_
  rintro e w1 ⟨A, B, ⟨_, hA1, hA2⟩, ⟨_, hB1, hB2⟩, rfl, hw1⟩
  have K1 := Lib.hid (wide_Back HA.out.1 (fun _ => ⟨hA1, hA2⟩))
  have K2 := Lib.hid (wide_Back HA.out.2 (fun _ => ⟨hB1, hB2⟩))
  have HW := Lib.hid hw1
  clear hA1 hA2 hB1 hB2 hw1
  go_wp2_with fail
  refine (pairText_narrow a b A B HA.out.1 HA.out.2 K1.out K2.out _ (Lib.hid (HE.out.below HW.out))).mono ?_
  rintro e w2 ⟨rfl, h2⟩
  go_wp2_with fail
  go_ret
  exact ⟨rfl, below_call HW.out h2⟩
end Go.Proofs.YtnjcmonlfngjcaaDoor
