/- Numbers read from the texts of their bits. -/
import Derived.Test.YtnjcmonlfngjcaaDoorBitsT
import Derived.Test.YtnjcmonlfngjcaaDoorParse16
namespace Go.Proofs.YtnjcmonlfngjcaaDoor
open Go.RowKit

/-- What reading rests on: a cell of a table, a sentinel. -/
structure BEnv (w : World) : Prop where
  tz : w.cell? ⟨6, 15, none⟩ = some (.int .u8 4)
  syn : ∃ ev, w.cell? ⟨2, 0, none⟩ = some ev ∧ (ev = .nilIface ∨ ∃ te pe, ev = .iface te pe)
  max : ∃ m, w.cell? ⟨1, 0, none⟩ = some (.int .i64 m)
theorem BEnv.below {w w1 : World} (h : BEnv w) (hb : Below w.heap.size w w1) : BEnv w1 := by
  obtain ⟨h1, ⟨e1, h3, h4⟩, ⟨m, h7⟩⟩ := h
  exact ⟨cell_below h1 hb, ⟨e1, cell_below h3 hb, h4⟩, ⟨m, cell_below h7 hb⟩⟩

theorem toList_ne_len {a b : ByteArray} (h : a.size ≠ b.size) : (a.toList == b.toList) = false := by
  rw [beq_eq_false_iff_ne]
  intro e
  rw [ByteArray.toList_eq, ByteArray.toList_eq] at e
  have := congrArg List.length e
  rw [← Lib.size_eq, ← Lib.size_eq] at this
  exact h this
theorem ne_nan {s : ByteArray} (h : s.size ≠ 3) : (s.toList == [110, 97, 110]) = false := by
  rw [beq_eq_false_iff_ne]
  intro e
  rw [ByteArray.toList_eq] at e
  have := congrArg List.length e
  rw [← Lib.size_eq] at this
  exact h this
theorem size_mk (l : List UInt8) : (⟨l.toArray⟩ : ByteArray).size = l.length := by simp [ByteArray.size]

def nanBits : Nat := 9221120237041090561

set_option maxRecDepth 100000 in
set_option maxHeartbeats 400000 in
theorem mathNaN (w : World) : Calls Tryd.prog 29 #[] w fun e w' => e = .returned (.float .f64 nanBits) ∧ w = w' := by
  have h2 := ofBits64
  go_enter Tryd.func29, Tryd.ntmps29
  go_wp2_with fail
  go_ret
  exact ⟨rfl, rfl⟩

set_option maxRecDepth 100000 in
set_option maxHeartbeats 400000 in
theorem readNaN (narrow : Bool) (w : World) :
    Calls Tryd.prog 24 #[.string nanT, .bool narrow] w fun e w' => e = .returned (.tuple #[.float .f64 nanBits, .bool true]) ∧ w = w' := by
  have h1 : (nanT.toList == nanT.toList) = true := by simp
  have h2 := ofBits64
  unfold nanT at h1 ⊢
  go_enter Tryd.func24, Tryd.ntmps24
  go_wp2_with fail
  refine (mathNaN _).mono ?_
  rintro e w1 ⟨rfl, rfl⟩
  go_wp2_with fail
  refine bodyPost_ret (v := .tuple #[.float .f64 nanBits, .bool true]) (by simp [results, Tryd.results24, go_sem]) rfl ⟨rfl, rfl⟩

set_option maxRecDepth 100000 in
set_option maxHeartbeats 1000000 in
theorem readBad (s : ByteArray) (hs : s.size ≠ 0) (hs2 : s.size ≤ 100) (hs3 : s.size ≠ 3) (D r : List UInt8) (hl : s.data.toList = D ++ r) (hD : ∀ c ∈ D, (unhx c).isSome = true) (hD16 : D.length ≤ 16) (hr : ∃ c t, r = c :: t ∧ badC c) (w : World) (HE : Hid (BEnv w)) :
    Calls Tryd.prog 24 #[.string s, .bool false] w fun e w' => ∃ a : Nat, e = .returned (.tuple #[.float .f64 a, .bool false]) ∧ Below w.heap.size w w' := by
  have hne := ne_nan hs3
  have h2 := ofBits64
  obtain ⟨ev, hv, hev⟩ := HE.out.syn
  have HP := Lib.hid (parse16 s hs hs2 D r hl hD hD16 (.inr hr) w ev hv hev)
  have hrn : r ≠ [] := by obtain ⟨c, t, h, _⟩ := hr; rw [h]; simp
  clear hv hev hl hD hr hs hs3
  go_enter Tryd.func24, Tryd.ntmps24
  go_wp2_with fail
  refine HP.out.mono ?_
  rintro e w1 ⟨hB, ⟨h, _⟩ | ⟨_, t, p, rfl⟩⟩
  · exact absurd h hrn
  · have HB := Lib.hid hB
    clear hB
    go_wp2_with fail
    refine bodyPost_ret (v := .tuple #[.float .f64 0, .bool false]) (by simp [results, Tryd.results24, go_sem]) rfl ⟨0, rfl, HB.out⟩

set_option maxRecDepth 100000 in
set_option maxHeartbeats 1000000 in
theorem readGoodW (s : ByteArray) (hs : s.size ≠ 0) (hs2 : s.size ≤ 100) (hs3 : s.size ≠ 3) (D : List UInt8) (hl : s.data.toList = D) (hD : ∀ c ∈ D, (unhx c).isSome = true) (hD16 : D.length ≤ 16) (n : Nat) (hn : valX 0 D = n) (hn64 : n < 18446744073709551616) (w : World) (HE : Hid (BEnv w)) :
    Calls Tryd.prog 24 #[.string s, .bool false] w fun e w' => e = .returned (.tuple #[.float .f64 n, .bool ((bitsW n).toList == s.toList)]) ∧ Below w.heap.size w w' := by
  have hne := ne_nan hs3
  have h2 := ofBits64
  obtain ⟨ev, hv, hev⟩ := HE.out.syn
  have HP := Lib.hid (parse16 s hs hs2 D [] (by rw [hl]; simp) hD hD16 (.inl rfl) w ev hv hev)
  clear hv hev hl hD hs hs3
  go_enter Tryd.func24, Tryd.ntmps24
  go_wp2_with fail
  refine HP.out.mono ?_
  rintro e w1 ⟨hB, ⟨_, rfl⟩ | ⟨h, _⟩⟩
  · rw [hn]
    have HB := Lib.hid hB
    clear hB
    go_wp2_with fail
    refine (bitsText_wide n hn64 _ (HE.out.below HB.out).tz).mono ?_
    rintro e w2 ⟨rfl, hB2⟩
    go_wp2_with fail
    refine bodyPost_ret (v := .tuple #[.float .f64 n, .bool ((bitsW n).toList == s.toList)]) (by simp [results, Tryd.results24, go_sem]) rfl ⟨rfl, below_call HB.out hB2⟩
  · exact absurd rfl h

set_option maxRecDepth 100000 in
set_option maxHeartbeats 1000000 in
theorem readGoodN (b : Nat) (hb : b < 4294967296) (hnn : isN .f32 b = false) (w : World) (HE : Hid (BEnv w)) :
    Calls Tryd.prog 24 #[.string ⟨(hexPad 8 b).toArray⟩, .bool true] w fun e w' => ∃ B, (floatToFloatBits .f32 b .f64 = some B ∧ floatToFloatBits .f64 B .f32 = some b ∧ isN .f64 B = false) ∧ e = .returned (.tuple #[.float .f64 B, .bool true]) ∧ Below w.heap.size w w' := by
  have h8 : (16 : Nat) ^ (7 + 1) = 4294967296 := by decide
  have hlen := pad_len 7 b (by rw [h8]; exact hb)
  have hsz : (⟨(hexPad 8 b).toArray⟩ : ByteArray).size = 8 := by rw [size_mk]; exact hlen
  have hne := ne_nan (s := ⟨(hexPad 8 b).toArray⟩) (by rw [hsz]; decide)
  have h2 := ofBits64
  have h3 := ofBits32
  obtain ⟨B, g1, g2, g3⟩ := wide_back b hb hnn
  have hcv : ∀ W, (convert 40 41 (.float .f32 b)).run Tryd.prog W = .ok (.float .f64 B) W := fun W => run_convert_float_float W 40 41 .f32 .f64 b B rfl Tryd.underlying41 g1
  obtain ⟨ev, hv, hev⟩ := HE.out.syn
  have HP := Lib.hid (parse16 ⟨(hexPad 8 b).toArray⟩ (by rw [hsz]; decide) (by rw [hsz]; decide) (hexPad 8 b) [] (by simp) (pad_digits 8 b) (by rw [hlen]; decide) (.inl rfl) w ev hv hev)
  have HG := Lib.hid (And.intro g1 (And.intro g2 g3))
  have hwr : IntKind.u32.wrap (b : Int) = b := by rw [IntKind.wrap_u32]; omega
  clear hv hev g1 g2 g3 hnn h8 hlen hsz
  generalize hS : (⟨(hexPad 8 b).toArray⟩ : ByteArray) = S at *
  have HS := Lib.hid hS
  clear hS
  go_enter Tryd.func24, Tryd.ntmps24
  go_wp2_with fail
  refine HP.out.mono ?_
  rintro e w1 ⟨hB, ⟨_, rfl⟩ | ⟨h, _⟩⟩
  · rw [valX_pad]
    have HB := Lib.hid hB
    clear hB
    go_wp2_with fail
    refine (bitsText_narrow B b hb HG.out.2.1 HG.out.2.2 _ (HE.out.below HB.out).tz).mono ?_
    rintro e w2 ⟨rfl, hB2⟩
    rw [HS.out]
    have heq : (S.toList == S.toList) = true := by simp
    go_wp2_with fail
    refine bodyPost_ret (v := .tuple #[.float .f64 B, .bool true]) (by simp [results, Tryd.results24, go_sem]) rfl ⟨B, HG.out, rfl, below_call HB.out hB2⟩
  · exact absurd rfl h
end Go.Proofs.YtnjcmonlfngjcaaDoor
