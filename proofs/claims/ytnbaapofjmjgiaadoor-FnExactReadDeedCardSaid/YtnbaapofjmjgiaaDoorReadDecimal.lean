/- The program's readDecimal: it reads small numerals; what else it says is of no matter. -/
import Derived.Test.YtnbaapofjmjgiaaDoorParseP
import Derived.Test.YtnbaapofjmjgiaaDoorImplDecimal
namespace Go.Proofs.YtnbaapofjmjgiaaDoor
open Go.RowKit

theorem decS_of {s : ByteArray} {u : Nat} (h : s.data.toList = Lib.decDigits u) : (⟨(Lib.itoa (u : Int)).toArray⟩ : ByteArray) = s := by
  rw [Lib.itoa_nonneg, ← h]

def RDPost (s : ByteArray) (w : World) (e : Ending) (w' : World) : Prop := ∃ n b, e = .returned (.tuple #[.int .i64 n, .bool b]) ∧ Below w.heap.size w w' ∧ ∀ u : Nat, u ≤ 999 → s.data.toList = Lib.decDigits u → n = u ∧ b = true

set_option maxHeartbeats 400000 in
theorem readDecimal_any (s : ByteArray) (hs : s.size ≤ 1048576) (w : World) (htab : Lib.TabIs Tryd.prog w "internal/strconv.uint64pow10" .u64 Lib.pow10Tab)
    (ev : Value) (hv : w.cell? ⟨2, 0, none⟩ = some ev) (hev : ev = .nilIface ∨ ∃ te pe, ev = .iface te pe)
    (er : Value) (hr : w.cell? ⟨3, 0, none⟩ = some er) (her : er = .nilIface ∨ ∃ te pe, er = .iface te pe) :
    Calls Tryd.prog 15 #[.string s] w (RDPost s w) := by
  have HT := Lib.hid htab
  have HE := Lib.hid hev
  have HR := Lib.hid her
  have HV := Lib.hid hv
  have HVR := Lib.hid hr
  clear htab hev her hv hr
  go_enter Tryd.func15, Tryd.ntmps15
  go_wp2_with fail
  rcases hp : Lib.parseIntB 64 s.data.toList with v | _ | _
  rotate_left
  · have HP := Lib.hid hp
    clear hp
    refine (Any.strconv_ParseInt_10_at64_syntax Tryd.laysC174 s (by omega) HP.out ev _ HV.out HE.out).mono ?_
    rintro e w1 ⟨N, rfl, _, _, hB⟩
    go_wp2_with fail
    refine bodyPost_ret (v := .tuple #[.int .i64 0, .bool false]) (by simp [results, Tryd.results15, go_sem]) rfl ⟨_, _, rfl, hB, fun u hu he => ?_⟩
    have := HP.out
    rw [he, parse_dec u (by omega)] at this
    cases this
  · have HP := Lib.hid hp
    clear hp
    refine (Tryd.strconv_ParseInt_10_at64_range s (by omega) HP.out er _ HVR.out HR.out).mono ?_
    rintro e w1 ⟨N, rfl, _, _, hB⟩
    go_wp2_with fail
    refine bodyPost_ret (v := .tuple #[.int .i64 (Lib.intSat 64 s.data.toList), .bool false]) (by simp [results, Tryd.results15, go_sem]) rfl ⟨_, _, rfl, hB, fun u hu he => ?_⟩
    have := HP.out
    rw [he, parse_dec u (by omega)] at this
    cases this
  · have HP := Lib.hid hp
    clear hp
    have hvb := Lib.hid (parse_bounds HP.out)
    refine (Tryd.strconv_ParseInt_10_at64_ok s (by omega) v HP.out _).mono ?_
    rintro e w1 ⟨rfl, hw⟩
    have hB : Below w.heap.size w w1 := by
      rcases hw with rfl | ⟨t, rfl⟩
      · exact Below.refl _ _
      · exact Lib.bytesWorld_below _ _ _
    have HB := Lib.hid hB
    clear hw hB
    go_wp2_with fail
    refine (Tryd.strings_TrimPrefix s _ _).mono ?_
    rintro e w2 ⟨rfl, rfl⟩
    rcases Classical.em (((Lib.trimPrefix s.data.toList [45]).length : Int) ≤ 18) with hl | hl
    rotate_left
    · have HL := Lib.hid hl
      go_wp2_with fail
      refine bodyPost_ret (v := .tuple #[.int .i64 v, .bool false]) (by simp [results, Tryd.results15, go_sem]) rfl ⟨_, _, rfl, HB.out, fun u hu he => ?_⟩
      have := HL.out
      rw [he, trim_dec] at this
      have h3 := dec_len3 u hu
      omega
    · have HL := Lib.hid hl
      go_wp2_with fail
      refine (implDecimal_any v hvb.out.1 hvb.out.2 _ (tabIs_below HT.out (HB.out))).mono ?_
      rintro e w3 ⟨rfl, hB3⟩
      go_wp2_with fail
      refine bodyPost_ret (v := .tuple #[.int .i64 v, .bool (Lib.itoa v == s.toList)]) (by simp [results, Tryd.results15, go_sem]) rfl ⟨_, _, rfl, below_call HB.out hB3, fun u hu he => ?_⟩
      have := HP.out
      rw [he, parse_dec u (by omega)] at this
      simp only [Lib.NumEnd.ok.injEq] at this
      subst this
      refine ⟨rfl, ?_⟩
      rw [Lib.itoa_nonneg, ByteArray.toList_eq, he]
      simp
end Go.Proofs.YtnbaapofjmjgiaaDoor
