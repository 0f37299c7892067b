/- The reference's source of choices: what each draw leaves. -/
import Derived.Test.YtnjcmonlfngjcaaDoorProg
import Derived.Test.YtnjcmonlfngjcaaDoorBase
import Derived.OwnWalk
import Derived.Laws.BitsLemmas
namespace Go.Proofs.YtnjcmonlfngjcaaDoor
open Go.RowKit

/-- What turned is one block at most. -/
def Only (p : Nat) (w w' : World) : Prop := w.grownBy w' (some p)
theorem Only.refl (p : Nat) (w : World) : Only p w w := ⟨rfl, rfl, rfl, Nat.le_refl _, fun _ _ _ => rfl⟩
theorem Only.trans {p : Nat} {a b c : World} (h : Only p a b) (k : Only p b c) : Only p a c :=
  ⟨k.os.trans h.os, k.tape.trans h.tape, k.output.trans h.output, Nat.le_trans h.size k.size, fun i hi hne => (k.block i (Nat.lt_of_lt_of_le hi h.size) hne).trans (h.block i hi hne)⟩
theorem Only.of_below {p : Nat} {a b : World} (h : Below a.heap.size a b) : Only p a b := ⟨h.os, h.tape, h.output, h.size, fun i hi _ => h.block i hi⟩
theorem Only.setCell {p : Nat} {a b : World} (h : Only p a b) (o : Nat) (v : Value) : Only p a (b.setCell ⟨p, o, none⟩ v) :=
  h.trans ⟨rfl, rfl, rfl, by simp [World.setCell], fun i _ hne => Below.heap_setCell _ _ _ _ (by intro e; exact hne (by rw [e]))⟩
theorem Only.drew {p : Nat} {a b : World} (h : Only p a b) : Only p a b.drew := ⟨h.os, h.tape, h.output, h.size, h.block⟩
theorem Only.drewN {p : Nat} {a b : World} (h : Only p a b) (n : Nat) : Only p a (b.drewN n) := ⟨h.os, h.tape, h.output, h.size, h.block⟩
theorem Only.alloc {p : Nat} {a b : World} (h : Only p a b) (o : Obj) : Only p a (b.alloc o) := h.trans (World.grownBy_alloc b o _)
theorem Only.cell {p : Nat} {a b : World} (h : Only p a b) {q o : Nat} {v : Value} (hc : a.cell? ⟨q, o, none⟩ = some v) (hne : q ≠ p) : b.cell? ⟨q, o, none⟩ = some v :=
  World.grownBy.cell h hc (by intro e; exact hne (Option.some.inj e))

/-- A slice of bytes. -/
def BytesAt (w : World) (cv : Value) (n p : Nat) : Prop :=
  (cv = .slice none 0 0 ∧ n = 0) ∨ ∃ b o cap, cv = .slice (some ⟨b, o, none⟩) n cap ∧ (0 < n → b ≠ p) ∧ ∀ j, j < n → ∃ x : Nat, x < 256 ∧ w.cell? ⟨b, o + j, none⟩ = some (.int .u8 x)
theorem BytesAt.only {w w' : World} {cv : Value} {n p : Nat} (h : BytesAt w cv n p) (k : Only p w w') : BytesAt w' cv n p := by
  rcases h with h | ⟨b, o, cap, h1, h2, h3⟩
  · exact .inl h
  · exact .inr ⟨b, o, cap, h1, h2, fun j hj => by
      obtain ⟨x, hx, hc⟩ := h3 j hj
      exact ⟨x, hx, k.cell hc (h2 (by omega))⟩⟩

/-- The source: its bytes, how many draws were made, its seed. -/
structure Src (w : World) (p : Nat) (cv : Value) (n a : Nat) : Prop where
  code : w.cell? ⟨p, 0, none⟩ = some cv
  at_ : w.cell? ⟨p, 1, none⟩ = some (.int .i64 a)
  seed : ∃ s : Int, 0 ≤ s ∧ s < 18446744073709551616 ∧ w.cell? ⟨p, 2, none⟩ = some (.int .u64 s)
  frz : ∀ o, w.frozen? ⟨p, o, none⟩ = false
  bytes : BytesAt w cv n p
theorem Src.lt {w : World} {p : Nat} {cv : Value} {n a : Nat} (h : Src w p cv n a) : p < w.heap.size := lt_of_cell h.code

theorem Src.below {w w' : World} {p : Nat} {cv : Value} {n a : Nat} (h : Src w p cv n a) (k : Below w.heap.size w w') : Src w' p cv n a := by
  obtain ⟨h1, h2, ⟨s, h3, h3', h4⟩, h5, h6⟩ := h
  have hl := lt_of_cell h1
  exact ⟨cell_below h1 k, cell_below h2 k, ⟨s, h3, h3', cell_below h4 k⟩, fun o => (k.frozen (p := ⟨p, o, none⟩) hl).trans (h5 o), h6.only (.of_below k)⟩

theorem wraps_u64_63 (n : Int) (h0 : 0 ≤ n) (h1 : n < 2 ^ 63) : IntKind.u64.wrap n = n := by rw [IntKind.wrap_u64]; omega
theorem seed_byte (s : Int) (h0 : 0 ≤ s) (h1 : s < 18446744073709551616) : ∃ x : Nat, x < 256 ∧ wrap64 (bits BinOp.and IntKind.u64 (s / 1099511627776) 255) = x := by
  have h := bits_mask .u64 63 (by decide) wraps_u64_63 8 (by decide) (s / 1099511627776) (by omega) (by omega)
  have e : ((2 : Int) ^ 8 - 1) = 255 := by decide
  have e2 : ((2 : Int) ^ 8) = 256 := by decide
  rw [e, e2] at h
  rw [h]
  refine ⟨(s / 1099511627776 % 256).toNat, by omega, ?_⟩
  unfold wrap64
  omega
theorem u64_range (x : Int) : 0 ≤ IntKind.u64.wrap x ∧ IntKind.u64.wrap x < 18446744073709551616 := by
  rw [IntKind.wrap_u64]
  omega
theorem Src.drewN {w : World} {p : Nat} {cv : Value} {n a : Nat} (h : Src w p cv n a) (q : Nat) : Src (w.drewN q) p cv n a := ⟨h.code, h.at_, h.seed, h.frz, h.bytes⟩
/-- The source behind a draw. -/
theorem Src.moved {w : World} {p : Nat} {cv : Value} {n a : Nat} (h : Src w p cv n a) (q1 q2 : Nat) (s : Int) (h0 : 0 ≤ s) (h1 : s < 18446744073709551616) :
    Src ((((w.drewN q1).setCell ⟨p, 1, none⟩ (.int .i64 ((a : Int) + 1))).setCell ⟨p, 2, none⟩ (.int .u64 s)).drewN q2) p cv n (a + 1) ∧
      Only p w ((((w.drewN q1).setCell ⟨p, 1, none⟩ (.int .i64 ((a : Int) + 1))).setCell ⟨p, 2, none⟩ (.int .u64 s)).drewN q2) := by
  have c0 := h.code
  have c1 := h.at_
  obtain ⟨s', _, _, c2⟩ := h.seed
  have hf := h.frz
  have ho : Only p w ((((w.drewN q1).setCell ⟨p, 1, none⟩ (.int .i64 ((a : Int) + 1))).setCell ⟨p, 2, none⟩ (.int .u64 s)).drewN q2) := ((((Only.refl p w).drewN q1).setCell 1 _).setCell 2 _).drewN q2
  refine ⟨⟨?_, ?_, ⟨s, h0, h1, ?_⟩, fun o => ?_, h.bytes.only ho⟩, ho⟩
  · exact (World.cell?_setCell_other _ _ _ _ (by simp)).trans ((World.cell?_setCell_other _ _ _ _ (by simp)).trans c0)
  · exact (World.cell?_setCell_other _ _ _ _ (by simp)).trans (World.cell?_setCell_same _ _ _ c1)
  · exact World.cell?_setCell_same _ _ _ ((World.cell?_setCell_other _ _ _ _ (by simp)).trans c2)
  · simp [hf]

/-- What a draw leaves: a number, the source moved on by at most so much. -/
def Drew (p : Nat) (cv : Value) (n a most k : Nat) (w : World) (e : Ending) (w' : World) : Prop :=
  ∃ x b : Nat, x < most ∧ b ≤ a + k ∧ e = .returned (.int .i64 x) ∧ Src w' p cv n b ∧ Only p w w'

set_option maxHeartbeats 1000000 in
theorem next_any (p : Nat) (cv : Value) (n a : Nat) (w : World) (ha : a ≤ 1000000000) (HS : Hid (Src w p cv n a)) :
    Calls Tryd.prog 39 #[.pointer (some ⟨p, 0, none⟩)] w (Drew p cv n a 256 1 w) := by
  have h1 := HS.out.code
  have h2 := HS.out.at_
  obtain ⟨s, hs0, hs1, h3⟩ := HS.out.seed
  have hf := HS.out.frz
  have hw : IntKind.i64.wrap ((a : Int) + 1) = a + 1 := by rw [IntKind.wrap_i64]; omega
  rcases HS.out.bytes with ⟨rfl, hn0⟩ | ⟨b, o, cap, rfl, hbp, hcs⟩
  · have hlt : ¬ ((a : Int) < 0) := by omega
    have hle : ¬ ((a : Int) + 1 ≤ 0) := by omega
    go_enter Tryd.func39, Tryd.ntmps39
    go_wp2_with fail
    go_quiet (fail)
    go_wp2_with fail
    generalize hs2 : IntKind.u64.wrap (IntKind.u64.wrap (IntKind.u64.wrap (s * 6364136223846793005)) + 1442695040888963407) = s2
    have hr := u64_range (IntKind.u64.wrap (IntKind.u64.wrap (s * 6364136223846793005)) + 1442695040888963407)
    rw [hs2] at hr
    go_quiet (fail)
    go_wp2_with fail
    obtain ⟨x, hx, hv⟩ := seed_byte s2 hr.1 hr.2
    rw [hv]
    go_ret
    exact ⟨x, a + 1, hx, by omega, rfl, HS.out.moved _ _ s2 hr.1 hr.2⟩
  · by_cases han : a < n
    · obtain ⟨x, hx, hc⟩ := hcs a han
      have hanI : (a : Int) < n := by omega
      have hle : (a : Int) + 1 ≤ n := by omega
      have ha0 : (0 : Int) ≤ a := by omega
      clear hcs
      go_enter Tryd.func39, Tryd.ntmps39
      go_wp2_with fail
      go_quiet (fail)
      go_wp2_with fail
      go_quiet (fail)
      go_wp2_with fail
      generalize hs2 : IntKind.u64.wrap (IntKind.u64.wrap _ + 1442695040888963407) = s2
      have hr := u64_range (IntKind.u64.wrap (IntKind.u64.wrap (s * 6364136223846793005) + x) + 1442695040888963407)
      rw [hs2] at hr
      go_quiet (fail)
      go_wp2_with fail
      go_ret
      exact ⟨x, a + 1, hx, by omega, rfl, HS.out.moved _ _ s2 hr.1 hr.2⟩
    · have hanI : ¬ ((a : Int) < n) := by omega
      have hle : ¬ ((a : Int) + 1 ≤ n) := by omega
      clear hcs
      go_enter Tryd.func39, Tryd.ntmps39
      go_wp2_with fail
      go_quiet (fail)
      go_wp2_with fail
      generalize hs2 : IntKind.u64.wrap (IntKind.u64.wrap (IntKind.u64.wrap (s * 6364136223846793005)) + 1442695040888963407) = s2
      have hr := u64_range (IntKind.u64.wrap (IntKind.u64.wrap (s * 6364136223846793005)) + 1442695040888963407)
      rw [hs2] at hr
      go_quiet (fail)
      go_wp2_with fail
      obtain ⟨x, hx, hv⟩ := seed_byte s2 hr.1 hr.2
      rw [hv]
      go_ret
      exact ⟨x, a + 1, hx, by omega, rfl, HS.out.moved _ _ s2 hr.1 hr.2⟩

/-- Draws of what size: some bytes for each number. -/
theorem Drew.of_le {p : Nat} {cv : Value} {n a m k k' : Nat} {w : World} {e : Ending} {w' : World} (h : Drew p cv n a m k w e w') (hk : k ≤ k') : Drew p cv n a m k' w e w' := by
  obtain ⟨x, b, h1, h2, h3⟩ := h
  exact ⟨x, b, h1, by omega, h3⟩

set_option maxHeartbeats 1000000 in
theorem pick_any (p : Nat) (cv : Value) (n a : Nat) (m : Nat) (w : World) (ha : a ≤ 900000000) (hm1 : 1 ≤ m) (hm2 : m ≤ 1099511627776) (HS : Hid (Src w p cv n a)) :
    Calls Tryd.prog 27 #[.pointer (some ⟨p, 0, none⟩), .int .i64 m] w (Drew p cv n a m 2 w) := by
  by_cases h1 : m ≤ 1
  · have h1I : (m : Int) ≤ 1 := by omega
    go_enter Tryd.func27, Tryd.ntmps27
    go_wp2_with fail
    go_ret
    exact ⟨0, a, by omega, by omega, rfl, HS.out, Only.refl _ _⟩
  · have h1I : ¬ ((m : Int) ≤ 1) := by omega
    go_enter Tryd.func27, Tryd.ntmps27
    by_cases h2 : 200 < m
    · have h2I : (200 : Int) < m := by omega
      go_wp2_with fail
      refine (next_any p cv n a _ (by omega) HS).mono ?_
      rintro e w1 ⟨x, b, hx, hb, rfl, hs1, ho1⟩
      have HS1 := Lib.hid hs1
      have HO1 := Lib.hid ho1
      clear hs1 ho1
      go_wp2_with fail
      refine (next_any p cv n b _ (by omega) HS1).mono ?_
      rintro e w2 ⟨y, c, hy, hc, rfl, hs2, ho2⟩
      have HS2 := Lib.hid hs2
      have HO2 := Lib.hid ho2
      clear hs2 ho2
      go_wp2_with fail
      go_ret
      exact ⟨(x * 256 + y) % m, c, Nat.mod_lt _ (by omega), by omega, rfl, HS2.out, HO1.out.trans HO2.out⟩
    · have h2I : ¬ ((200 : Int) < m) := by omega
      go_wp2_with fail
      refine (next_any p cv n a _ (by omega) HS).mono ?_
      rintro e w1 ⟨x, b, hx, hb, rfl, hs1, ho1⟩
      have HS1 := Lib.hid hs1
      have HO1 := Lib.hid ho1
      clear hs1 ho1
      go_wp2_with fail
      go_ret
      exact ⟨x % m, b, Nat.mod_lt _ (by omega), by omega, rfl, HS1.out, HO1.out⟩

/-- What a yes or no leaves. -/
def DrewB (p : Nat) (cv : Value) (n a k : Nat) (w : World) (e : Ending) (w' : World) : Prop :=
  ∃ (x : Bool) (b : Nat), b ≤ a + k ∧ e = .returned (.bool x) ∧ Src w' p cv n b ∧ Only p w w'

set_option maxHeartbeats 400000 in
theorem one_any (p : Nat) (cv : Value) (n a : Nat) (m : Nat) (w : World) (ha : a ≤ 900000000) (hm1 : 1 ≤ m) (hm2 : m ≤ 1099511627776) (HS : Hid (Src w p cv n a)) :
    Calls Tryd.prog 20 #[.pointer (some ⟨p, 0, none⟩), .int .i64 m] w (DrewB p cv n a 2 w) := by
  go_enter Tryd.func20, Tryd.ntmps20
  go_wp2_with fail
  refine (pick_any p cv n a m _ ha hm1 hm2 HS).mono ?_
  rintro e w1 ⟨x, b, hx, hb, rfl, hs1, ho1⟩
  go_wp2_with fail
  go_ret
  exact ⟨_, b, by omega, rfl, hs1, ho1⟩
end Go.Proofs.YtnjcmonlfngjcaaDoor
