/- The small functions over numbers. -/
import Derived.Test.YtnjcmonlfngjcaaDoorFloatP
import Derived.Test.YtnjcmonlfngjcaaDoorSrc
namespace Go.Proofs.YtnjcmonlfngjcaaDoor
open Go.RowKit

/-- A word that reads as a NaN. -/
def isN (k : FloatKind) (x : Nat) : Bool := (k.decode x).isNaN

theorem nan_cut (k : FloatKind) (x t : Nat) : isN k ((Question.nanConv k x).cut t) = true ∧ (Lit.float k ((Question.nanConv k x).cut t)).wf = true := by
  cases k with
  | f32 =>
    have hb : (t / 2) % (2 ^ 23 - 1) < 2 ^ 23 - 1 := Nat.mod_lt _ (by decide)
    have hw : (Question.nanConv .f32 x).cut t = Ieee.single.word (t % 2 == 1) (0x7f800000 + 1 + (t / 2) % (2 ^ 23 - 1)) := by
      unfold Question.cut Ieee.Format.word
      have : t % 2 = 0 ∨ t % 2 = 1 := by omega
      have hsw : Ieee.single.signWeight = 2 ^ 31 := by decide
      rcases this with h | h <;> rw [h, hsw] <;> simp <;> omega
    have hsw : Ieee.single.signWeight = 2 ^ 31 := by decide
    have hin : Ieee.single.infRung = 0x7f800000 := by decide
    have hlt : 0x7f800000 + 1 + (t / 2) % (2 ^ 23 - 1) < Ieee.single.signWeight := by rw [hsw]; omega
    refine ⟨?_, ?_⟩
    · unfold isN FloatKind.decode FloatKind.format
      rw [hw, read_word _ _ _ hlt]
      unfold rd
      have hbin : Ieee.single.binade = 8388608 := by decide
      rw [hin, hbin, if_neg (by omega), if_neg (by omega), if_neg (by omega)]
      rfl
    · rw [hw]
      exact wf_of_lt .f32 _ (Ieee.single.word_lt _ hlt)
  | f64 =>
    have hb : (t / 2) % (2 ^ 52 - 1) < 2 ^ 52 - 1 := Nat.mod_lt _ (by decide)
    have hw : (Question.nanConv .f64 x).cut t = Ieee.double.word (t % 2 == 1) (0x7ff0000000000000 + 1 + (t / 2) % (2 ^ 52 - 1)) := by
      unfold Question.cut Ieee.Format.word
      have : t % 2 = 0 ∨ t % 2 = 1 := by omega
      have hsw : Ieee.double.signWeight = 2 ^ 63 := by decide
      rcases this with h | h <;> rw [h, hsw] <;> simp <;> omega
    have hsw : Ieee.double.signWeight = 2 ^ 63 := by decide
    have hin : Ieee.double.infRung = 0x7ff0000000000000 := by decide
    have hlt : 0x7ff0000000000000 + 1 + (t / 2) % (2 ^ 52 - 1) < Ieee.double.signWeight := by rw [hsw]; omega
    refine ⟨?_, ?_⟩
    · unfold isN FloatKind.decode FloatKind.format
      rw [hw, read_word _ _ _ hlt]
      unfold rd
      have hbin : Ieee.double.binade = 4503599627370496 := by decide
      rw [hin, hbin, if_neg (by omega), if_neg (by omega), if_neg (by omega)]
      rfl
    · rw [hw]
      exact wf_of_lt .f64 _ (Ieee.double.word_lt _ hlt)

/-- A conversion between the widths: a word of the kind, the told one where one is told, a NaN of a NaN. -/
theorem ftf_any (P : Program) (s k : FloatKind) (hsk : s ≠ k) (x : Nat) (hk : k = .f32 ∨ (isN s x = false → (floatToFloatBits s x k).isSome = true)) (w : World) :
    ∃ r q : Nat, (Lit.float k r).wf = true ∧ (∀ b, floatToFloatBits s x k = some b → r = b) ∧ (isN s x = true → isN k r = true) ∧ Sem.run P (Conv.floatToFloat s x k) w = .ok (.float k r) (w.drewN q) := by
  cases h : s.decode x with
  | nan a b =>
    have h1 := nan_cut k x (w.tape w.drawn (.nanConv k x))
    refine ⟨_, 1, h1.2, fun b hb => ?_, fun _ => h1.1, ?_⟩
    · unfold floatToFloatBits at hb
      rw [if_neg hsk, h] at hb
      cases hb
    · simp [Conv.floatToFloat, hsk, h, Question.forced]
      rfl
  | infinity a =>
    have hn : isN s x = false := by unfold isN; rw [h]; rfl
    refine ⟨k.encode (.infinity a), 0, encode_wf _ _, fun b hb => ?_, fun h2 => absurd (hn.symm.trans h2) (by simp), ?_⟩
    · unfold floatToFloatBits at hb
      rw [if_neg hsk, h] at hb
      exact Option.some.inj hb
    · simp [Conv.floatToFloat, hsk, h]
      rfl
  | number a m e =>
    have hn : isN s x = false := by unfold isN; rw [h]; rfl
    by_cases hi : (k.decode (k.encode (.number a m e))).isInfinity = true
    · have hf : floatToFloatBits s x k = none := by
        unfold floatToFloatBits
        rw [if_neg hsk, h]
        simp [hi]
      have hk32 : k = .f32 := by
        rcases hk with hk | hk
        · exact hk
        · have := hk hn
          rw [hf] at this
          cases this
      subst hk32
      refine ⟨(Question.floatToFloat x).cut (w.tape w.drawn (.floatToFloat x)), 1, wf_of_lt .f32 _ (Nat.mod_lt _ (by decide)), fun b hb => absurd (hf.symm.trans hb) (by simp), fun h2 => absurd (hn.symm.trans h2) (by simp), ?_⟩
      simp [Conv.floatToFloat, hsk, h, hi, Question.forced]
      rfl
    · refine ⟨k.encode (.number a m e), 0, encode_wf _ _, fun b hb => ?_, fun h2 => absurd (hn.symm.trans h2) (by simp), ?_⟩
      · unfold floatToFloatBits at hb
        rw [if_neg hsk, h] at hb
        simpa [hi] using hb
      · simp [Conv.floatToFloat, hsk, h, hi]
        rfl

/-- What is narrow is wide, exactly, and narrow again; no narrow number is lost. -/
theorem wide_back (b : Nat) (hb : b < 4294967296) (hn : isN .f32 b = false) : ∃ B, floatToFloatBits .f32 b .f64 = some B ∧ floatToFloatBits .f64 B .f32 = some b ∧ isN .f64 B = false := by
  have hsw : Ieee.single.signWeight = 2 ^ 31 := by decide
  have hsw2 : Ieee.double.signWeight = 2 ^ 63 := by decide
  obtain ⟨neg, rung, e, hlt⟩ : ∃ neg rung, b = Ieee.single.word neg rung ∧ rung < Ieee.single.signWeight := by
    refine ⟨decide (2 ^ 31 ≤ b), b % 2 ^ 31, ?_, by rw [hsw]; exact Nat.mod_lt _ (by decide)⟩
    unfold Ieee.Format.word
    rw [hsw]
    by_cases h : 2 ^ 31 ≤ b
    · rw [decide_eq_true h]; simp; omega
    · rw [decide_eq_false h]; simp; omega
  have hr := read_word Ieee.single neg rung hlt
  rw [← e] at hr
  have hd : FloatKind.f32.decode b = rd Ieee.single neg rung := hr
  rcases Nat.lt_trichotomy rung Ieee.single.infRung with h | h | h
  · obtain ⟨r, h1, h2, h3⟩ := widen_exact neg rung h
    have hr2 := read_word Ieee.double neg r (Nat.lt_trans h1 (by decide))
    have hd2 : FloatKind.f64.decode (Ieee.double.word neg r) = rd Ieee.double neg r := hr2
    obtain ⟨m, k, e1, _⟩ := rd_val Ieee.single neg rung h
    obtain ⟨m', k', e2, _⟩ := rd_val Ieee.double neg r h1
    refine ⟨Ieee.double.word neg r, ?_, ?_, ?_⟩
    · unfold floatToFloatBits
      rw [if_neg (by decide), hd, e1]
      rw [e1] at h2
      have h2' : FloatKind.f64.encode (.number neg m (Ieee.single.leastPlace + k)) = Ieee.double.word neg r := h2
      have hi := rd_inf Ieee.double neg r h1
      simp only [h2', hd2, hi]
      rfl
    · unfold floatToFloatBits
      rw [if_neg (by decide), hd2, e2]
      rw [e2] at h3
      have h3' : FloatKind.f32.encode (.number neg m' (Ieee.double.leastPlace + k')) = Ieee.single.word neg rung := h3
      have hi := rd_inf Ieee.single neg rung h
      rw [← e] at h3'
      simp only [h3', hd, hi]
      rfl
    · unfold isN
      rw [hd2]
      exact rd_noNaN _ _ _ (Nat.le_of_lt h1)
  · have hd' : FloatKind.f32.decode b = .infinity neg := by
      rw [hd, h]
      cases neg <;> decide
    refine ⟨FloatKind.f64.encode (.infinity neg), ?_, ?_, ?_⟩
    · unfold floatToFloatBits
      rw [if_neg (by decide), hd']
    · rw [e, h]
      cases neg <;> decide
    · cases neg <;> decide
  · exfalso
    unfold isN at hn
    rw [hd] at hn
    unfold rd at hn
    have hbin : Ieee.single.binade < Ieee.single.infRung := by decide
    rw [if_neg (by omega), if_neg (by omega), if_neg (by omega)] at hn
    cases hn

theorem wide_some (x : Nat) (hx : x < 4294967296) (hn : isN .f32 x = false) : (floatToFloatBits .f32 x .f64).isSome = true := by
  obtain ⟨B, h, _⟩ := wide_back x hx hn
  rw [h]; rfl

theorem conv_narrow (P : Program) (src dst : TypeId) (hs : (P.underlying src).isSome = true) (hd : P.underlying dst = some (.float .f32)) (x : Nat) (w : World) :
    ∃ r q : Nat, r < 4294967296 ∧ (∀ b, floatToFloatBits .f64 x .f32 = some b → r = b) ∧ (isN .f64 x = true → isN .f32 r = true) ∧ Sem.run P (convert src dst (.float .f64 x)) w = .ok (.float .f32 r) (w.drewN q) := by
  obtain ⟨r, q, h1, h2, h3, h4⟩ := ftf_any P .f64 .f32 (by decide) x (.inl rfl) w
  refine ⟨r, q, by simpa [Lit.wf] using h1, h2, h3, ?_⟩
  obtain ⟨u, hs'⟩ := Option.isSome_iff_exists.1 hs
  rw [← h4]
  cases u <;> simp [convert, run_underlying hs', run_underlying hd]
theorem conv_wide (P : Program) (src dst : TypeId) (hs : (P.underlying src).isSome = true) (hd : P.underlying dst = some (.float .f64)) (x : Nat) (hx : x < 4294967296) (w : World) :
    ∃ r q : Nat, r < 18446744073709551616 ∧ (∀ b, floatToFloatBits .f32 x .f64 = some b → r = b) ∧ (isN .f32 x = true → isN .f64 r = true) ∧ Sem.run P (convert src dst (.float .f32 x)) w = .ok (.float .f64 r) (w.drewN q) := by
  obtain ⟨r, q, h1, h2, h3, h4⟩ := ftf_any P .f32 .f64 (by decide) x (.inr (wide_some x hx)) w
  refine ⟨r, q, by simpa [Lit.wf] using h1, h2, h3, ?_⟩
  obtain ⟨u, hs'⟩ := Option.isSome_iff_exists.1 hs
  rw [← h4]
  cases u <;> simp [convert, run_underlying hs', run_underlying hd]

set_option maxRecDepth 100000 in
set_option maxHeartbeats 400000 in
theorem narrowOf_any (re im : Nat) (w : World) :
    Calls Tryd.prog 7 #[.complex .f64 re im] w fun e w' => ∃ a b : Nat, (a < 4294967296 ∧ (∀ r, floatToFloatBits .f64 re .f32 = some r → a = r) ∧ (isN .f64 re = true → isN .f32 a = true)) ∧ (b < 4294967296 ∧ (∀ r, floatToFloatBits .f64 im .f32 = some r → b = r) ∧ (isN .f64 im = true → isN .f32 b = true)) ∧ e = .returned (.complex .f32 a b) ∧ Below w.heap.size w w' := by
  obtain ⟨r1, q1, h1, h1', h1'', e1⟩ := conv_narrow Tryd.prog 41 40 rfl Tryd.underlying40 re w
  obtain ⟨r2, q2, h2, h2', h2'', e2⟩ := conv_narrow Tryd.prog 41 40 rfl Tryd.underlying40 im (w.drewN q1)
  have H1 := Lib.hid (And.intro h1 (And.intro h1' h1''))
  have H2 := Lib.hid (And.intro h2 (And.intro h2' h2''))
  clear h1 h1' h1'' h2 h2' h2''
  go_enter Tryd.func7, Tryd.ntmps7
  go_wp2_with fail
  go_ret
  exact ⟨r1, r2, H1.out, H2.out, rfl, below_drewN (Below.refl _ _) _⟩

set_option maxRecDepth 100000 in
set_option maxHeartbeats 400000 in
theorem wideOf_any (re im : Nat) (hre : re < 4294967296) (him : im < 4294967296) (w : World) :
    Calls Tryd.prog 18 #[.complex .f32 re im] w fun e w' => ∃ a b : Nat, (a < 18446744073709551616 ∧ (∀ r, floatToFloatBits .f32 re .f64 = some r → a = r) ∧ (isN .f32 re = true → isN .f64 a = true)) ∧ (b < 18446744073709551616 ∧ (∀ r, floatToFloatBits .f32 im .f64 = some r → b = r) ∧ (isN .f32 im = true → isN .f64 b = true)) ∧ e = .returned (.complex .f64 a b) ∧ Below w.heap.size w w' := by
  obtain ⟨r1, q1, h1, h1', h1'', e1⟩ := conv_wide Tryd.prog 40 41 rfl Tryd.underlying41 re hre w
  obtain ⟨r2, q2, h2, h2', h2'', e2⟩ := conv_wide Tryd.prog 40 41 rfl Tryd.underlying41 im him (w.drewN q1)
  have H1 := Lib.hid (And.intro h1 (And.intro h1' h1''))
  have H2 := Lib.hid (And.intro h2 (And.intro h2' h2''))
  clear h1 h1' h1'' h2 h2' h2''
  go_enter Tryd.func18, Tryd.ntmps18
  go_wp2_with fail
  go_ret
  exact ⟨r1, r2, H1.out, H2.out, rfl, below_drewN (Below.refl _ _) _⟩

theorem toBits64 (a : Nat) (w : World) : Sem.run Tryd.prog (callFunc 37 #[.float .f64 a]) w = .ok (.value (.int .u64 a)) w := by
  rw [run_callFunc_extern Tryd.func37 (by kernel_rfl) (by kernel_rfl) (by kernel_rfl) (e := Extern.MathFloatBits.float64bits) (by kernel_rfl)]; rfl
theorem toBits32 (a : Nat) (w : World) : Sem.run Tryd.prog (callFunc 36 #[.float .f32 a]) w = .ok (.value (.int .u32 a)) w := by
  rw [run_callFunc_extern Tryd.func36 (by kernel_rfl) (by kernel_rfl) (by kernel_rfl) (e := Extern.MathFloatBits.float32bits) (by kernel_rfl)]; rfl
theorem ofBits64 (n : Int) (w : World) : Sem.run Tryd.prog (callFunc 31 #[.int .u64 n]) w = .ok (.value (.float .f64 n.toNat)) w := by
  rw [run_callFunc_extern Tryd.func31 (by kernel_rfl) (by kernel_rfl) (by kernel_rfl) (e := Extern.MathFloatBits.float64frombits) (by kernel_rfl)]; rfl
theorem ofBits32 (n : Int) (w : World) : Sem.run Tryd.prog (callFunc 34 #[.int .u32 n]) w = .ok (.value (.float .f32 n.toNat)) w := by
  rw [run_callFunc_extern Tryd.func34 (by kernel_rfl) (by kernel_rfl) (by kernel_rfl) (e := Extern.MathFloatBits.float32frombits) (by kernel_rfl)]; rfl

/-- Two numbers are the same: NaN is NaN, else the same bits. -/
def sameF (a b : Nat) : Bool := if isN .f64 a || isN .f64 b then isN .f64 a && isN .f64 b else a == b

theorem cast_beq (a b : Nat) : ((a : Int) == (b : Int)) = (a == b) := by
  rw [Bool.eq_iff_iff]; simp; omega
theorem neq_self (a : Nat) : (FloatKind.f64.format.order a a != some Ordering.eq) = isN .f64 a := by
  show ((FloatKind.f64.decode a).order (FloatKind.f64.decode a) != some Ordering.eq) = (FloatKind.f64.decode a).isNaN
  cases FloatKind.f64.decode a with
  | nan s t => rfl
  | infinity s => cases s <;> rfl
  | number s m i =>
    simp [Ieee.Datum.order, Ieee.Datum.isNaN]
set_option maxHeartbeats 400000 in
theorem isNaN_any (a : Nat) (w : World) :
    Calls Tryd.prog 38 #[.float .f64 a] w fun e w' => e = .returned (.bool (isN .f64 a)) ∧ w = w' := by
  go_enter Tryd.func38, Tryd.ntmps38
  go_wp2_with fail
  go_ret
  exact ⟨ret_bool (neq_self a), rfl⟩
set_option maxRecDepth 100000 in
set_option maxHeartbeats 400000 in
theorem sameFloat_any (a b : Nat) (w : World) :
    Calls Tryd.prog 26 #[.float .f64 a, .float .f64 b] w fun e w' => e = .returned (.bool (sameF a b)) ∧ w = w' := by
  cases ha : isN .f64 a <;> cases hb : isN .f64 b
  · have HA := Lib.hid ha
    have HB := Lib.hid hb
    clear ha hb
    have hbits := toBits64
    go_enter Tryd.func26, Tryd.ntmps26
    go_wp2_with fail
    refine (isNaN_any a _).mono ?_
    rintro e wz ⟨he, rfl⟩
    rw [HA.out] at he
    subst he
    go_wp2_with fail
    refine (isNaN_any b _).mono ?_
    rintro e wz ⟨he, rfl⟩
    rw [HB.out] at he
    subst he
    go_wp2_with fail
    go_ret
    exact ⟨ret_bool (by simp [sameF, HA.out, HB.out, cast_beq]), rfl⟩
  · have HA := Lib.hid ha
    have HB := Lib.hid hb
    clear ha hb
    go_enter Tryd.func26, Tryd.ntmps26
    go_wp2_with fail
    refine (isNaN_any a _).mono ?_
    rintro e wz ⟨he, rfl⟩
    rw [HA.out] at he
    subst he
    go_wp2_with fail
    refine (isNaN_any b _).mono ?_
    rintro e wz ⟨he, rfl⟩
    rw [HB.out] at he
    subst he
    go_wp2_with fail
    refine (isNaN_any a _).mono ?_
    rintro e wz ⟨he, rfl⟩
    rw [HA.out] at he
    subst he
    go_wp2_with fail
    go_ret
    exact ⟨ret_bool (by simp [sameF, HA.out, HB.out]), rfl⟩
  · have HA := Lib.hid ha
    have HB := Lib.hid hb
    clear ha hb
    go_enter Tryd.func26, Tryd.ntmps26
    go_wp2_with fail
    refine (isNaN_any a _).mono ?_
    rintro e wz ⟨he, rfl⟩
    rw [HA.out] at he
    subst he
    go_wp2_with fail
    refine (isNaN_any a _).mono ?_
    rintro e wz ⟨he, rfl⟩
    rw [HA.out] at he
    subst he
    go_wp2_with fail
    refine (isNaN_any b _).mono ?_
    rintro e wz ⟨he, rfl⟩
    rw [HB.out] at he
    subst he
    go_wp2_with fail
    go_ret
    exact ⟨ret_bool (by simp [sameF, HA.out, HB.out]), rfl⟩
  · have HA := Lib.hid ha
    have HB := Lib.hid hb
    clear ha hb
    go_enter Tryd.func26, Tryd.ntmps26
    go_wp2_with fail
    refine (isNaN_any a _).mono ?_
    rintro e wz ⟨he, rfl⟩
    rw [HA.out] at he
    subst he
    go_wp2_with fail
    refine (isNaN_any a _).mono ?_
    rintro e wz ⟨he, rfl⟩
    rw [HA.out] at he
    subst he
    go_wp2_with fail
    refine (isNaN_any b _).mono ?_
    rintro e wz ⟨he, rfl⟩
    rw [HB.out] at he
    subst he
    go_wp2_with fail
    go_ret
    exact ⟨ret_bool (by simp [sameF, HA.out, HB.out]), rfl⟩
set_option maxRecDepth 100000 in
set_option maxHeartbeats 400000 in
theorem same_any (a b c d : Nat) (w : World) :
    Calls Tryd.prog 19 #[.complex .f64 a b, .complex .f64 c d] w fun e w' => e = .returned (.bool (sameF a c && sameF b d)) ∧ w = w' := by
  cases ha : sameF a c
  · have HA := Lib.hid ha
    clear ha
    go_enter Tryd.func19, Tryd.ntmps19
    go_wp2_with fail
    refine (sameFloat_any a c _).mono ?_
    rintro e wz ⟨he, rfl⟩
    rw [HA.out] at he
    subst he
    go_wp2_with fail
    go_ret
    exact ⟨ret_bool rfl, rfl⟩
  · have HA := Lib.hid ha
    clear ha
    go_enter Tryd.func19, Tryd.ntmps19
    go_wp2_with fail
    refine (sameFloat_any a c _).mono ?_
    rintro e wz ⟨he, rfl⟩
    rw [HA.out] at he
    subst he
    go_wp2_with fail
    refine (sameFloat_any b d _).mono ?_
    rintro e wz ⟨rfl, rfl⟩
    go_wp2_with fail
    go_ret
    exact ⟨ret_bool rfl, rfl⟩
set_option maxHeartbeats 400000 in
theorem sameNumber_any (a b c d : Nat) (w : World) :
    Calls Tryd.prog 12 #[.complex .f64 a b, .complex .f64 c d] w fun e w' => e = .returned (.bool (sameF a c && sameF b d)) ∧ w = w' := by
  go_enter Tryd.func12, Tryd.ntmps12
  go_wp2_with fail
  refine (same_any a b c d _).mono ?_
  rintro e w1 ⟨rfl, rfl⟩
  go_wp2_with fail
  go_ret
  exact ⟨rfl, rfl⟩

/-- The same in the narrow width. -/
def same32 (a b : Nat) : Prop := (isN .f32 a = true ∧ isN .f32 b = true) ∨ a = b
/-- A narrow number made wide. -/
structure Wide (x r : Nat) : Prop where
  lt : r < 18446744073709551616
  told : ∀ b, floatToFloatBits .f32 x .f64 = some b → r = b
  nan : isN .f32 x = true → isN .f64 r = true

theorem conv_cwide (P : Program) (src dst : TypeId) (hs : (P.underlying src).isSome = true) (hd : P.underlying dst = some (.complex .f64)) (x y : Nat) (hx : x < 4294967296) (hy : y < 4294967296) (w : World) :
    ∃ r t q : Nat, Wide x r ∧ Wide y t ∧ Sem.run P (convert src dst (.complex .f32 x y)) w = .ok (.complex .f64 r t) (w.drewN q) := by
  obtain ⟨r, q, h1, h2, h3, h4⟩ := ftf_any P .f32 .f64 (by decide) x (.inr (wide_some x hx)) w
  obtain ⟨t, q', g1, g2, g3, g4⟩ := ftf_any P .f32 .f64 (by decide) y (.inr (wide_some y hy)) (w.drewN q)
  refine ⟨r, t, q + q', ⟨by simpa [Lit.wf] using h1, h2, h3⟩, ⟨by simpa [Lit.wf] using g1, g2, g3⟩, ?_⟩
  obtain ⟨u, hs'⟩ := Option.isSome_iff_exists.1 hs
  have e : (w.drewN q).drewN q' = w.drewN (q + q') := by simp [World.drewN, Nat.add_assoc]
  rw [← e]
  cases u <;> simp [convert, run_underlying hs', run_underlying hd, Conv.complexToComplex, h4, g4]

theorem wide_same {a c r t : Nat} (ha : a < 4294967296) (h : same32 a c) (hr : Wide a r) (ht : Wide c t) : sameF r t = true := by
  rcases h with ⟨h1, h2⟩ | rfl
  · simp [sameF, hr.nan h1, ht.nan h2]
  · cases hn : isN .f32 a with
    | true => simp [sameF, hr.nan hn, ht.nan hn]
    | false =>
      obtain ⟨B, h1, _, h3⟩ := wide_back a ha hn
      rw [hr.told B h1, ht.told B h1]
      simp [sameF]

set_option maxRecDepth 100000 in
set_option maxHeartbeats 400000 in
theorem sameNarrow_any (a b c d : Nat) (ha : a < 4294967296) (hb : b < 4294967296) (hc : c < 4294967296) (hd : d < 4294967296) (hac : same32 a c) (hbd : same32 b d) (w : World) :
    Calls Tryd.prog 13 #[.complex .f32 a b, .complex .f32 c d] w fun e w' => e = .returned (.bool true) ∧ Below w.heap.size w w' := by
  obtain ⟨r1, t1, q1, h1, k1, e1⟩ := conv_cwide Tryd.prog 27 24 rfl Tryd.underlying24 a b ha hb w
  obtain ⟨r2, t2, q2, h2, k2, e2⟩ := conv_cwide Tryd.prog 27 24 rfl Tryd.underlying24 c d hc hd (w.drewN q1)
  have HX := Lib.hid (wide_same ha hac h1 h2)
  have HY := Lib.hid (wide_same hb hbd k1 k2)
  clear h1 h2 k1 k2 hac hbd
  go_enter Tryd.func13, Tryd.ntmps13
  go_wp2_with fail
  refine (same_any _ _ _ _ _).mono ?_
  rintro e w1 ⟨rfl, rfl⟩
  go_wp2_with fail
  go_ret
  refine ⟨ret_bool (by rw [HX.out, HY.out]; rfl), below_drewN (Below.refl _ _) _⟩
end Go.Proofs.YtnjcmonlfngjcaaDoor
