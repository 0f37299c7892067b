/- The drawn numbers: each some number. -/
import Derived.Test.YtnjcmonlfngjcaaDoorSrc
import Derived.Test.YtnjcmonlfngjcaaDoorNum
import Derived.Test.YtnjcmonlfngjcaaDoorReadBits
namespace Go.Proofs.YtnjcmonlfngjcaaDoor
open Go.RowKit

/-- A drawn number, the source moved on. -/
def DrewF (p : Nat) (cv : Value) (n a k : Nat) (w : World) (e : Ending) (w' : World) : Prop :=
  ∃ x b : Nat, x < 18446744073709551616 ∧ b ≤ a + k ∧ e = .returned (.float .f64 x) ∧ Src w' p cv n b ∧ Only p w w'

theorem notNaN_num {x : Nat} (h : isN .f64 x = false) : (∃ s, FloatKind.f64.decode x = .infinity s) ∨ ∃ s m e, FloatKind.f64.decode x = .number s m e := by
  unfold isN at h
  cases hd : FloatKind.f64.decode x with
  | nan s t => rw [hd] at h; cases h
  | infinity s => exact .inl ⟨s, rfl⟩
  | number s m e => exact .inr ⟨s, m, e, rfl⟩

theorem ofInt_noNaN (n : Int) : isN .f64 (floatOfInt .f64 n) = false := nearest_noNaN Ieee.double _ _ _

/-- A quotient by a number that is not zero. -/
theorem quo_some (x y : Nat) (hx : isN .f64 x = false) (s : Bool) (m : Nat) (e : Int) (hy : FloatKind.f64.decode y = .number s m e) (hm : m ≠ 0) : ∃ r, floatBits .quo .f64 x y = some r := by
  have : floatBits .quo .f64 x y = ((FloatKind.f64.decode x).quotient (FloatKind.f64.format.fractionBits + 2) (FloatKind.f64.decode y)).map FloatKind.f64.format.write := rfl
  rw [this, hy]
  rcases notNaN_num hx with ⟨t, h⟩ | ⟨t, n, i, h⟩
  · rw [h]; exact ⟨_, rfl⟩
  · rw [h]
    simp only [Ieee.Datum.quotient]
    rw [if_neg hm]
    exact ⟨_, rfl⟩

set_option maxHeartbeats 400000 in
theorem plain_any (p : Nat) (cv : Value) (n a : Nat) (w : World) (ha : a ≤ 800000000) (HS : Hid (Src w p cv n a)) :
    Calls Tryd.prog 21 #[.pointer (some ⟨p, 0, none⟩)] w (DrewF p cv n a 2 w) := by
  go_enter Tryd.func21, Tryd.ntmps21
  go_wp2_with fail
  refine (pick_any p cv n a 2049 _ (by omega) (by omega) (by omega) HS).mono ?_
  rintro e w1 ⟨x, b, hx, hb, rfl, hs1, ho1⟩
  obtain ⟨r, hr⟩ := quo_some (floatOfInt .f64 ((x : Int) - 1024)) 4625196817309499392 (ofInt_noNaN _) false 4503599627370496 (-48) (by decide) (by decide)
  have hq : ∀ W, (binOp .quo 41 (.float .f64 (floatOfInt .f64 ((x : Int) - 1024))) (.float .f64 4625196817309499392)).run Tryd.prog W = .ok (.float .f64 r) W := fun W => run_float_arith W .quo 41 .f64 _ _ r hr
  have hrb := Lib.hid (floatBits_wf hr)
  clear hr
  go_wp2_with fail
  go_ret
  exact ⟨r, b, by simpa [Lit.wf] using hrb.out, by omega, rfl, hs1, ho1⟩

set_option maxRecDepth 100000 in
set_option maxHeartbeats 400000 in
theorem mathInf1 (w : World) : Calls Tryd.prog 28 #[.int .i64 1] w fun e w' => e = .returned (.float .f64 9218868437227405312) ∧ w = w' := by
  have h2 := ofBits64
  go_enter Tryd.func28, Tryd.ntmps28
  go_wp2_with fail
  go_ret
  exact ⟨rfl, rfl⟩
set_option maxRecDepth 100000 in
set_option maxHeartbeats 400000 in
theorem mathInf2 (w : World) : Calls Tryd.prog 28 #[.int .i64 (-1)] w fun e w' => e = .returned (.float .f64 18442240474082181120) ∧ w = w' := by
  have h2 := ofBits64
  go_enter Tryd.func28, Tryd.ntmps28
  go_wp2_with fail
  go_ret
  exact ⟨rfl, rfl⟩
set_option maxRecDepth 100000 in
set_option maxHeartbeats 400000 in
theorem copysignC (w : World) : Calls Tryd.prog 30 #[.float .f64 0, .float .f64 13830554455654793216] w fun e w' => e = .returned (.float .f64 9223372036854775808) ∧ w = w' := by
  have h1 := toBits64
  have h2 := ofBits64
  go_enter Tryd.func30, Tryd.ntmps30
  go_wp2_with fail
  go_ret
  exact ⟨rfl, rfl⟩

theorem bits_range (op : BinOp) (x y : Int) : (bits op .u64 x y).toNat < 18446744073709551616 := by
  have := u64_range ((match op with
    | .and => BitVec.ofInt 64 x &&& BitVec.ofInt 64 y
    | .or => BitVec.ofInt 64 x ||| BitVec.ofInt 64 y
    | .xor => BitVec.ofInt 64 x ^^^ BitVec.ofInt 64 y
    | _ => BitVec.ofInt 64 x &&& ~~~(BitVec.ofInt 64 y)).toNat)
  have e : bits op .u64 x y = IntKind.u64.wrap ((match op with
    | .and => BitVec.ofInt 64 x &&& BitVec.ofInt 64 y
    | .or => BitVec.ofInt 64 x ||| BitVec.ofInt 64 y
    | .xor => BitVec.ofInt 64 x ^^^ BitVec.ofInt 64 y
    | _ => BitVec.ofInt 64 x &&& ~~~(BitVec.ofInt 64 y)).toNat) := rfl
  rw [e]
  omega
theorem neg_range (x : Nat) (h : x < 18446744073709551616) : Op.negFloat .f64 x < 18446744073709551616 := by
  have e : (18446744073709551616 : Nat) = 2 ^ 64 := by decide
  rw [e] at h ⊢
  exact Nat.xor_lt_two_pow h (by decide)

theorem step9 : ∀ x : Fin 4, ((floatBits .mul .f64 (floatOfInt .f64 (x.val : Int)) 4372995238176751616).bind fun r => floatBits .add .f64 4607182418800017408 r).isSome = true := by decide +kernel

set_option maxRecDepth 100000 in
set_option maxHeartbeats 4000000 in
theorem float_any (p : Nat) (cv : Value) (n a : Nat) (w : World) (ha : a ≤ 700000000) (HS : Hid (Src w p cv n a)) :
    Calls Tryd.prog 22 #[.pointer (some ⟨p, 0, none⟩)] w (DrewF p cv n a 6 w) := by
  have hob := ofBits64
  go_enter Tryd.func22, Tryd.ntmps22
  go_wp2_with fail
  refine (pick_any p cv n a 16 _ (by omega) (by omega) (by omega) HS).mono ?_
  rintro e w1 ⟨x, b, hx, hb, rfl, hs1, ho1⟩
  have HS1 := Lib.hid hs1
  have HO1 := Lib.hid ho1
  clear hs1 ho1
  have hx16 : x = 0 ∨ x = 1 ∨ x = 2 ∨ x = 3 ∨ x = 4 ∨ x = 5 ∨ x = 6 ∨ x = 7 ∨ x = 8 ∨ x = 9 ∨ x = 10 ∨ x = 11 ∨ 12 ≤ x := by omega
  rcases hx16 with rfl | rfl | rfl | rfl | rfl | rfl | rfl | rfl | rfl | rfl | rfl | rfl | h12
  · go_wp2_with fail
    refine (mathInf1 _).mono ?_
    rintro e w2 ⟨rfl, rfl⟩
    go_wp2_with fail
    go_ret
    exact ⟨_, b, by decide, by omega, rfl, HS1.out, HO1.out⟩
  · go_wp2_with fail
    refine (mathInf2 _).mono ?_
    rintro e w2 ⟨rfl, rfl⟩
    go_wp2_with fail
    go_ret
    exact ⟨_, b, by decide, by omega, rfl, HS1.out, HO1.out⟩
  · go_wp2_with fail
    refine (mathNaN _).mono ?_
    rintro e w2 ⟨rfl, rfl⟩
    go_wp2_with fail
    go_ret
    exact ⟨_, b, by decide, by omega, rfl, HS1.out, HO1.out⟩
  · go_wp2_with fail
    refine (copysignC _).mono ?_
    rintro e w2 ⟨rfl, rfl⟩
    go_wp2_with fail
    go_ret
    exact ⟨_, b, by decide, by omega, rfl, HS1.out, HO1.out⟩
  · go_wp2_with fail
    go_ret
    exact ⟨_, b, by decide, by omega, rfl, HS1.out, HO1.out⟩
  · go_wp2_with fail
    refine (pick_any p cv n b 1073741824 _ (by omega) (by omega) (by omega) HS1).mono ?_
    rintro e w2 ⟨y, c, hy, hc, rfl, hs2, ho2⟩
    have HS2 := Lib.hid hs2
    have HO2 := Lib.hid ho2
    clear hs2 ho2
    go_wp2_with fail
    go_ret
    exact ⟨_, c, by omega, by omega, rfl, HS2.out, HO1.out.trans HO2.out⟩
  · go_wp2_with fail
    refine (pick_any p cv n b 1073741824 _ (by omega) (by omega) (by omega) HS1).mono ?_
    rintro e w2 ⟨y, c, hy, hc, rfl, hs2, ho2⟩
    have HS2 := Lib.hid hs2
    have HO2 := Lib.hid ho2
    clear hs2 ho2
    go_wp2_with fail
    refine (pick_any p cv n c 1073741824 _ (by omega) (by omega) (by omega) HS2).mono ?_
    rintro e w3 ⟨z, d, hz, hd, rfl, hs3, ho3⟩
    have HS3 := Lib.hid hs3
    have HO3 := Lib.hid ho3
    clear hs3 ho3
    go_wp2_with fail
    go_ret
    exact ⟨_, d, bits_range _ _ _, by omega, rfl, HS3.out, (HO1.out.trans HO2.out).trans HO3.out⟩
  · go_wp2_with fail
    refine (pick_any p cv n b 1073741824 _ (by omega) (by omega) (by omega) HS1).mono ?_
    rintro e w2 ⟨y, c, hy, hc, rfl, hs2, ho2⟩
    have HS2 := Lib.hid hs2
    have HO2 := Lib.hid ho2
    clear hs2 ho2
    go_wp2_with fail
    refine (pick_any p cv n c 1073741824 _ (by omega) (by omega) (by omega) HS2).mono ?_
    rintro e w3 ⟨z, d, hz, hd, rfl, hs3, ho3⟩
    have HS3 := Lib.hid hs3
    have HO3 := Lib.hid ho3
    clear hs3 ho3
    have hneg : ∀ (x : Nat) (W : World), (Op.unary .neg (.float .f64 x)).run Tryd.prog W = .ok (.float .f64 (Op.negFloat .f64 x)) W := fun _ _ => rfl
    go_wp2_with fail
    go_ret
    exact ⟨_, d, neg_range _ (bits_range _ _ _), by omega, rfl, HS3.out, (HO1.out.trans HO2.out).trans HO3.out⟩
  · go_wp2_with fail
    go_ret
    exact ⟨_, b, by decide, by omega, rfl, HS1.out, HO1.out⟩
  · go_wp2_with fail
    refine (pick_any p cv n b 4 _ (by omega) (by omega) (by omega) HS1).mono ?_
    rintro e w2 ⟨y, c, hy, hc, rfl, hs2, ho2⟩
    have HS2 := Lib.hid hs2
    have HO2 := Lib.hid ho2
    clear hs2 ho2
    have h9 := step9 ⟨y, hy⟩
    cases hm : floatBits .mul .f64 (floatOfInt .f64 (y : Int)) 4372995238176751616 with
    | none => simp only [hm] at h9; cases h9
    | some r =>
      simp only [hm, Option.bind_some] at h9
      cases hp : floatBits .add .f64 4607182418800017408 r with
      | none => rw [hp] at h9; cases h9
      | some t =>
        have hq1 : ∀ W, (binOp .mul 41 (.float .f64 (floatOfInt .f64 (y : Int))) (.float .f64 4372995238176751616)).run Tryd.prog W = .ok (.float .f64 r) W := fun W => run_float_arith W .mul 41 .f64 _ _ r hm
        have hq2 : ∀ W, (binOp .add 41 (.float .f64 4607182418800017408) (.float .f64 r)).run Tryd.prog W = .ok (.float .f64 t) W := fun W => run_float_arith W .add 41 .f64 _ _ t hp
        have hrb := Lib.hid (floatBits_wf hp)
        clear hm hp h9
        go_wp2_with fail
        go_ret
        exact ⟨t, c, by simpa [Lit.wf] using hrb.out, by omega, rfl, HS2.out, HO1.out.trans HO2.out⟩
  · go_wp2_with fail
    go_ret
    exact ⟨_, b, by decide, by omega, rfl, HS1.out, HO1.out⟩
  · go_wp2_with fail
    refine (pick_any p cv n b 1073741824 _ (by omega) (by omega) (by omega) HS1).mono ?_
    rintro e w2 ⟨y, c, hy, hc, rfl, hs2, ho2⟩
    have HS2 := Lib.hid hs2
    have HO2 := Lib.hid ho2
    clear hs2 ho2
    obtain ⟨r, hr⟩ := quo_some (floatOfInt .f64 (y : Int)) 4613937818241073152 (ofInt_noNaN _) false 6755399441055744 (-51) (by decide) (by decide)
    have hq : ∀ W, (binOp .quo 41 (.float .f64 (floatOfInt .f64 (y : Int))) (.float .f64 4613937818241073152)).run Tryd.prog W = .ok (.float .f64 r) W := fun W => run_float_arith W .quo 41 .f64 _ _ r hr
    have hrb := Lib.hid (floatBits_wf hr)
    clear hr
    go_wp2_with fail
    go_ret
    exact ⟨r, c, by simpa [Lit.wf] using hrb.out, by omega, rfl, HS2.out, HO1.out.trans HO2.out⟩
  · have h0 : ((x : Int) == 0) = false := by rw [beq_eq_false_iff_ne]; omega
    have h1 : ((x : Int) == 1) = false := by rw [beq_eq_false_iff_ne]; omega
    have h2 : ((x : Int) == 2) = false := by rw [beq_eq_false_iff_ne]; omega
    have h3 : ((x : Int) == 3) = false := by rw [beq_eq_false_iff_ne]; omega
    have h4 : ((x : Int) == 4) = false := by rw [beq_eq_false_iff_ne]; omega
    have h5 : ((x : Int) == 5) = false := by rw [beq_eq_false_iff_ne]; omega
    have h6 : ((x : Int) == 6) = false := by rw [beq_eq_false_iff_ne]; omega
    have h7 : ((x : Int) == 7) = false := by rw [beq_eq_false_iff_ne]; omega
    have h8 : ((x : Int) == 8) = false := by rw [beq_eq_false_iff_ne]; omega
    have h9 : ((x : Int) == 9) = false := by rw [beq_eq_false_iff_ne]; omega
    have h10 : ((x : Int) == 10) = false := by rw [beq_eq_false_iff_ne]; omega
    have h11 : ((x : Int) == 11) = false := by rw [beq_eq_false_iff_ne]; omega
    go_wp2_with fail
    refine (plain_any p cv n b _ (by omega) HS1).mono ?_
    rintro e w2 ⟨y, c, hy, hc, rfl, hs2, ho2⟩
    go_wp2_with fail
    go_ret
    exact ⟨y, c, hy, by omega, rfl, hs2, HO1.out.trans ho2⟩

/-- A drawn complex number. -/
def DrewC (p : Nat) (cv : Value) (n a k : Nat) (w : World) (e : Ending) (w' : World) : Prop :=
  ∃ x y b : Nat, x < 18446744073709551616 ∧ y < 18446744073709551616 ∧ b ≤ a + k ∧ e = .returned (.complex .f64 x y) ∧ Src w' p cv n b ∧ Only p w w'

set_option maxRecDepth 100000 in
set_option maxHeartbeats 1000000 in
theorem anyC (p : Nat) (cv : Value) (n a : Nat) (w : World) (ha : a ≤ 600000000) (HS : Hid (Src w p cv n a)) :
    Calls Tryd.prog 15 #[.pointer (some ⟨p, 0, none⟩)] w (DrewC p cv n a 20 w) := by
  go_enter Tryd.func15, Tryd.ntmps15
  go_wp2_with fail
  refine (one_any p cv n a 3 _ (by omega) (by omega) (by omega) HS).mono ?_
  rintro e w1 ⟨t, b, hb, rfl, hs1, ho1⟩
  have HS1 := Lib.hid hs1
  have HO1 := Lib.hid ho1
  clear hs1 ho1
  cases t with
  | true =>
    go_wp2_with fail
    refine (plain_any p cv n b _ (by omega) HS1).mono ?_
    rintro e w2 ⟨x, c, hx, hc, rfl, hs2, ho2⟩
    have HS2 := Lib.hid hs2
    have HO2 := Lib.hid ho2
    clear hs2 ho2
    go_wp2_with fail
    refine (plain_any p cv n c _ (by omega) HS2).mono ?_
    rintro e w3 ⟨y, d, hy, hd, rfl, hs3, ho3⟩
    go_wp2_with fail
    go_ret
    exact ⟨x, y, d, hx, hy, by omega, rfl, hs3, (HO1.out.trans HO2.out).trans ho3⟩
  | false =>
    go_wp2_with fail
    refine (float_any p cv n b _ (by omega) HS1).mono ?_
    rintro e w2 ⟨x, c, hx, hc, rfl, hs2, ho2⟩
    have HS2 := Lib.hid hs2
    have HO2 := Lib.hid ho2
    clear hs2 ho2
    go_wp2_with fail
    refine (float_any p cv n c _ (by omega) HS2).mono ?_
    rintro e w3 ⟨y, d, hy, hd, rfl, hs3, ho3⟩
    go_wp2_with fail
    go_ret
    exact ⟨x, y, d, hx, hy, by omega, rfl, hs3, (HO1.out.trans HO2.out).trans ho3⟩

theorem Src.fresh (w : World) (cv : Value) (n : Nat) (t : TypeId) (hb : BytesAt w cv n w.heap.size) : Src (w.alloc (.cells #[cv, .int .i64 0, .int .u64 0] t)) w.heap.size cv n 0 := by
  refine ⟨by simp, by simp, ⟨0, by omega, by omega, by simp⟩, fun o => by simp, hb.only (Only.alloc (Only.refl _ _) _)⟩

set_option maxRecDepth 100000 in
set_option maxHeartbeats 1000000 in
theorem fromC (cv : Value) (n : Nat) (w : World) (hb : BytesAt w cv n w.heap.size) :
    Calls Tryd.prog 14 #[cv] w fun e w' => ∃ p, w.heap.size ≤ p ∧ e = .returned (.pointer (some ⟨p, 0, none⟩)) ∧ Src w' p cv n 0 ∧ Below w.heap.size w w' := by
  have hf := Lib.hid (Src.fresh w cv n 47 hb)
  rcases hb with ⟨rfl, rfl⟩ | ⟨b, o, cap, rfl, hne, hc⟩
  · go_enter Tryd.func14, Tryd.ntmps14
    go_wp2_with fail
    go_ret
    exact ⟨_, Nat.le_refl _, rfl, hf.out, below_alloc (Below.refl _ _) _⟩
  · clear hc
    go_enter Tryd.func14, Tryd.ntmps14
    go_wp2_with fail
    go_ret
    exact ⟨_, Nat.le_refl _, rfl, hf.out, below_alloc (Below.refl _ _) _⟩

/-- Some complex number; the old memory as it was. -/
def SomeC (w : World) (e : Ending) (w' : World) : Prop := ∃ x y : Nat, x < 18446744073709551616 ∧ y < 18446744073709551616 ∧ e = .returned (.complex .f64 x y) ∧ Below w.heap.size w w'

theorem Only.below {w a b : World} {p : Nat} (h : Below w.heap.size w a) (hp : w.heap.size ≤ p) (k : Only p a b) : Below w.heap.size w b := h.grown k h.size (fun q e => by cases e; exact hp)

set_option maxRecDepth 100000 in
set_option maxHeartbeats 1000000 in
theorem a2any (cv : Value) (n m : Nat) (w : World) (hm : m ≤ 10) (hb : BytesAt w cv n w.heap.size) :
    Calls Tryd.prog 5 #[cv, .int .i64 m] w (SomeC w) := by
  have HF := Lib.hid (fromC cv n w hb)
  have hcv : cv = .slice none 0 0 ∨ ∃ b o cap, cv = .slice (some ⟨b, o, none⟩) n cap := by
    rcases hb with ⟨h, _⟩ | ⟨b, o, cap, h, _⟩
    · exact .inl h
    · exact .inr ⟨b, o, cap, h⟩
  clear hb
  go_enter Tryd.func5, Tryd.ntmps5
  go_wp2_with fail
  refine HF.out.mono ?_
  rintro e w1 ⟨p, hp, rfl, hs, hB⟩
  have HS := Lib.hid hs
  have HB := Lib.hid hB
  clear hs hB
  go_wp2_with fail
  refine (anyC p cv n 0 _ (by omega) HS).mono ?_
  rintro e w2 ⟨x, y, b, hx, hy, hb, rfl, hs2, ho2⟩
  have HS2 := Lib.hid hs2
  have HO2 := Lib.hid (Only.below HB.out hp ho2)
  have HXY := Lib.hid (And.intro hx hy)
  clear hs2 ho2 hx hy
  go_wp2_with fail
  go_loopw [6, 7] (fun vx vk wr => ∃ k x y b : Nat, k ≤ m ∧ vk = .int .i64 k ∧ vx = .complex .f64 x y ∧ b ≤ 20 * (k + 1) ∧ Hid (x < 18446744073709551616 ∧ y < 18446744073709551616) ∧ Hid (Src wr p cv n b) ∧ Hid (Below w.heap.size w wr)) (fun _ vk _ => m - (intOf vk).toNat)
  case atStart => exact ⟨0, x, y, b, by omega, rfl, rfl, by omega, HXY, HS2, HO2⟩
  case round =>
    obtain ⟨k, x', y', b', hk, rfl, rfl, hb', HX, HSr, HBr⟩ := hrel
    by_cases hlt : k < m
    · have hltI : (k : Int) < m := by omega
      go_wp2_with fail
      refine (anyC p cv n b' _ (by omega) HSr).mono ?_
      rintro e w3 ⟨x3, y3, b3, hx3, hy3, hb3, rfl, hs3, ho3⟩
      have HS3 := Lib.hid hs3
      have HO3 := Lib.hid (Only.below HBr.out hp ho3)
      have HXY3 := Lib.hid (And.intro hx3 hy3)
      clear hs3 ho3 hx3 hy3
      go_wp2_with fail
      go_roundw
      case rel => exact ⟨k + 1, x3, y3, b3, by omega, by go_num, rfl, by omega, HXY3, HS3, HO3⟩
      case measure => simp [intOf]; omega
    · have hltI : ¬ ((k : Int) < m) := by omega
      go_wp2_with fail
      go_ret
      exact ⟨x', y', HX.out.1, HX.out.2, rfl, HBr.out⟩
end Go.Proofs.YtnjcmonlfngjcaaDoor
