/- strconv.ParseUint at base 16. -/
import Derived.Test.YtnjcmonlfngjcaaDoorHexP
import Derived.Test.YtnjcmonlfngjcaaDoorShelf
import Derived.OwnWalk
namespace Go.Proofs.YtnjcmonlfngjcaaDoor
open Go.RowKit

theorem valX_lt (D : List UInt8) (h : ∀ c ∈ D, (unhx c).isSome = true) (n k : Nat) (hn : n < 16 ^ k) : valX n D < 16 ^ (k + D.length) := by
  induction D generalizing n k with
  | nil => simpa [valX] using hn
  | cons c r ih =>
    have hd : (unhx c).getD 0 ≤ 15 := by
      unfold unhx
      split
      · simp; omega
      · split
        · simp; omega
        · simp
    have := ih (fun x hx => h x (List.mem_cons_of_mem _ hx)) (n * 16 + (unhx c).getD 0) (k + 1) (by rw [Nat.pow_succ]; omega)
    rw [List.length_cons]
    show valX (n * 16 + (unhx c).getD 0) r < _
    rwa [show k + (r.length + 1) = k + 1 + r.length by omega]

/-- A byte that ends a number with a fault. -/
def badC (c : UInt8) : Prop := c = 32 ∨ c = 110

def pVal (D r : List UInt8) : Value := if r = [] then .tuple #[.int .u64 (valX 0 D), .nilIface] else .tuple #[.int .u64 0, .iface 78 (.int .i64 2)]
def PPost (D r : List UInt8) (w : World) (e : Ending) (w' : World) : Prop := e = .returned (pVal D r) ∧ Below w.heap.size w w'
theorem low_letter (c : UInt8) (h0 : 97 ≤ c.toNat) (h1 : c.toNat ≤ 102) : bits BinOp.or IntKind.u8 (c.toNat : Int) 32 = c.toNat := by
  have : c.toNat = 97 ∨ c.toNat = 98 ∨ c.toNat = 99 ∨ c.toNat = 100 ∨ c.toNat = 101 ∨ c.toNat = 102 := by omega
  rcases this with h | h | h | h | h | h <;> rw [h] <;> decide
theorem take_val (D : List UInt8) (k : Nat) (hk : k < D.length) : valX 0 (D.take (k + 1)) = valX 0 (D.take k) * 16 + (unhx D[k]).getD 0 := by
  rw [List.take_succ_eq_append_getElem hk, valX_append]
  rfl

set_option maxRecDepth 100000 in
set_option maxHeartbeats 4000000 in
theorem parse16i (s : ByteArray) (hs : s.size ≠ 0) (hs2 : s.size ≤ 100) (D r : List UInt8) (hl : s.data.toList = D ++ r) (hD : ∀ c ∈ D, (unhx c).isSome = true) (hD16 : D.length ≤ 16) (hr : r = [] ∨ ∃ c t, r = c :: t ∧ badC c) (w : World) :
    Calls Tryd.prog 41 #[.string s, .int .i64 16, .int .i64 64] w (PPost D r w) := by
  have hemp : s.toList.isEmpty = false := by
    rw [← decide_eq_emptyBytes]
    exact decide_eq_false (fun h => hs (by rw [h]; rfl))
  have hcv := Lib.run_convert_string_bytes (P := Tryd.prog) w 9 22 5 s (u := .string) Tryd.underlying9 Tryd.underlying22 Tryd.underlying5
  have hB : ∀ j, j < s.size → (Lib.bytesWorld w 5 s).cell? ⟨w.heap.size, j, none⟩ = some (.int .u8 (s.data.toList.getD j 0).toNat) := fun j hj => Lib.bytesWorld_cell w 5 s j hj
  have hBel := Lib.hid (Lib.bytesWorld_below w 5 s)
  have hsz := Lib.size_eq s
  obtain ⟨W1, hW1⟩ : ∃ W1, W1 = Lib.bytesWorld w 5 s := ⟨_, rfl⟩
  rw [← hW1] at hcv hB hBel
  clear hW1
  rw [hl] at hB hsz
  rw [List.length_append] at hsz
  have hmv : IntKind.u64.wrap (IntKind.u64.wrap 18446744073709551616 - 1) = 18446744073709551615 := by
    rw [IntKind.wrap_u64, IntKind.wrap_u64]
    decide
  have HD := Lib.hid hD
  have HL := Lib.hid hl
  have HR := Lib.hid hr
  clear hD hl hr
  go_enter Tryd.func41, Tryd.ntmps41
  go_wp2_with fail
  go_loop [12, 13, 101] (fun vu vn vi => ∃ (k : Nat) (a : Int), vu = .bool false ∧ vn = .int .u64 a ∧ vi = .int .i64 k ∧ k ≤ D.length ∧ Hid (a = (valX 0 (D.take k) : Nat)))
    (fun _ _ vi => D.length + 1 - (intOf vi).toNat)
  case atStart => exact ⟨0, 0, rfl, rfl, rfl, by omega, rfl⟩
  case round =>
    obtain ⟨k, a, rfl, rfl, rfl, hk, ha⟩ := hrel
    have hlt := valX_lt (D.take k) (fun c hc => HD.out c (List.mem_of_mem_take hc)) 0 0 (by decide)
    rw [List.length_take, Nat.min_eq_left hk, Nat.zero_add] at hlt
    have ha0 : 0 ≤ a := by have := ha.out; omega
    by_cases hkD : k < D.length
    · have hkn : k < s.size := by omega
      have hknI : (k : Int) < s.size := by omega
      have hc := hB k hkn
      have hget : (D ++ r).getD k 0 = D[k] := by simp [List.getD, List.getElem?_append_left hkD, List.getElem?_eq_getElem hkD]
      rw [hget] at hc
      have hval := take_val D k hkD
      have hdig := HD.out D[k] (List.getElem_mem hkD)
      generalize D[k] = c at hc hval hdig
      have h60 : valX 0 (D.take k) < 1152921504606846976 := by
        have h1 : 16 ^ k ≤ 16 ^ 15 := Nat.pow_le_pow_right (by decide) (by omega)
        have h2 : (16 : Nat) ^ 15 = 1152921504606846976 := by decide
        omega
      have icut : a < 1152921504606846976 := by have := ha.out; omega
      clear hB hget hlt
      by_cases hd : 48 ≤ c.toNat ∧ c.toNat ≤ 57
      · obtain ⟨hd0, hd1⟩ := hd
        have hu : unhx c = some (c.toNat - 48) := by unfold unhx; rw [if_pos ⟨hd0, hd1⟩]
        rw [hu, Option.getD_some] at hval
        have HN : Hid (a * 16 + ((c.toNat : Int) - 48) = (valX 0 (D.take (k + 1)) : Nat)) := Lib.hid (by have := ha.out; omega)
        have iov : a * 16 + ((c.toNat : Int) - 48) < 18446744073709551616 := by omega
        clear hval hdig hu h60
        go_wp2
        refine ⟨⟨k + 1, a * 16 + ((c.toNat : Int) - 48), rfl, (by first | rfl | (congr 1; omega)), (by first | rfl | (congr 1; omega)), by omega, HN⟩, by simp [intOf]; omega⟩
      · have hu : unhx c = if 97 ≤ c.toNat ∧ c.toNat ≤ 102 then some (c.toNat - 87) else none := by unfold unhx; rw [if_neg hd]
        have hlet : 97 ≤ c.toNat ∧ c.toNat ≤ 102 := by
          rcases Classical.em (97 ≤ c.toNat ∧ c.toNat ≤ 102) with h | h
          · exact h
          · rw [hu, if_neg h] at hdig
            cases hdig
        rw [if_pos hlet] at hu
        obtain ⟨hd0, hd1⟩ := hlet
        rw [hu, Option.getD_some] at hval
        have HN : Hid (a * 16 + ((c.toNat : Int) - 97 + 10) = (valX 0 (D.take (k + 1)) : Nat)) := Lib.hid (by have := ha.out; omega)
        have iov : a * 16 + ((c.toNat : Int) - 97 + 10) < 18446744073709551616 := by omega
        have hlow := low_letter c hd0 hd1
        have h57 : ¬ ((c.toNat : Int) ≤ 57) := by omega
        have h95 : ((c.toNat : Int) == 95) = false := by rw [beq_eq_false_iff_ne]; omega
        have h97 : (97 : Int) ≤ c.toNat := by omega
        have h122 : (c.toNat : Int) ≤ 122 := by omega
        have h16 : (c.toNat : Int) - 97 + 10 < 16 := by omega
        clear hval hdig hu h60 hd
        go_wp2
        refine ⟨⟨k + 1, a * 16 + ((c.toNat : Int) - 97 + 10), rfl, (by first | rfl | (congr 1; omega)), (by first | rfl | (congr 1; omega)), by omega, HN⟩, by simp [intOf]; omega⟩
    · obtain rfl : k = D.length := by omega
      rw [List.take_length] at ha hlt
      cases r with
      | nil =>
        have hend : ¬ ((D.length : Int) < s.size) := by simp at hsz; omega
        clear hB
        go_wp2_with fail
        refine bodyPost_ret (v := .tuple #[.int .u64 a, .nilIface]) (by simp [results, Tryd.results41, go_sem]) rfl ⟨?_, hBel.out⟩
        unfold pVal
        rw [if_pos rfl, ← ha.out]
      | cons c t =>
        have hkn : D.length < s.size := by simp at hsz; omega
        have hknI : (D.length : Int) < s.size := by omega
        have hc := hB D.length hkn
        have hget : (D ++ c :: t).getD D.length 0 = c := by simp [List.getD]
        rw [hget] at hc
        have hbad : badC c := by
          rcases HR.out with h | ⟨c', t', h, hb⟩
          · cases h
          · cases h; exact hb
        have hfin : pVal D (c :: t) = .tuple #[.int .u64 0, .iface 78 (.int .i64 2)] := by unfold pVal; rw [if_neg (by simp)]
        have HF := Lib.hid hfin
        clear hB hfin hget
        rcases hbad with rfl | rfl
        · have hlow : bits BinOp.or IntKind.u8 32 32 = 32 := by decide
          go_wp2
          refine bodyPost_ret (v := .tuple #[.int .u64 0, .iface 78 (.int .i64 2)]) (by simp [results, Tryd.results41, go_sem]) rfl ⟨?_, hBel.out⟩
          rw [HF.out]
        · have hlow : bits BinOp.or IntKind.u8 110 32 = 110 := by decide
          go_wp2
          refine bodyPost_ret (v := .tuple #[.int .u64 0, .iface 78 (.int .i64 2)]) (by simp [results, Tryd.results41, go_sem]) rfl ⟨?_, hBel.out⟩
          rw [HF.out]

/-- What strconv.ParseUint leaves: the number and no fault, or a fault. -/
def UPost (D r : List UInt8) (w : World) (e : Ending) (w' : World) : Prop :=
  Below w.heap.size w w' ∧ ((r = [] ∧ e = .returned (.tuple #[.int .u64 (valX 0 D), .nilIface])) ∨ (r ≠ [] ∧ ∃ t p, e = .returned (.tuple #[.int .u64 0, .iface t p])))

set_option maxRecDepth 100000 in
set_option maxHeartbeats 400000 in
theorem parse16 (s : ByteArray) (hs : s.size ≠ 0) (hs2 : s.size ≤ 100) (D r : List UInt8) (hl : s.data.toList = D ++ r) (hD : ∀ c ∈ D, (unhx c).isSome = true) (hD16 : D.length ≤ 16) (hr : r = [] ∨ ∃ c t, r = c :: t ∧ badC c) (w : World)
    (ev : Value) (hv : w.cell? ⟨2, 0, none⟩ = some ev) (hev : ev = .nilIface ∨ ∃ te pe, ev = .iface te pe) :
    Calls Tryd.prog 33 #[.string s, .int .i64 16, .int .i64 64] w (UPost D r w) := by
  have HV := Lib.hid hv
  have HE := Lib.hid hev
  have HI := Lib.hid (fun w => parse16i s hs hs2 D r hl hD hD16 hr w)
  clear hl hD hr hv hev
  go_enter Tryd.func33, Tryd.ntmps33
  go_wp2_with fail
  refine (HI.out _).mono ?_
  rintro e w1 ⟨rfl, hB⟩
  have HB := Lib.hid hB
  clear hB
  by_cases h : r = []
  · have hp : pVal D r = .tuple #[.int .u64 (valX 0 D), .nilIface] := by unfold pVal; rw [if_pos h]
    rw [hp]
    clear hp
    go_wp2_with fail
    refine bodyPost_ret (v := .tuple #[.int .u64 (valX 0 D), .nilIface]) (by simp [results, Tryd.results33, go_sem]) rfl ⟨HB.out, .inl ⟨h, rfl⟩⟩
  · have hp : pVal D r = .tuple #[.int .u64 0, .iface 78 (.int .i64 2)] := by unfold pVal; rw [if_neg h]
    rw [hp]
    clear hp
    go_wp2_with fail
    refine (Tryd.strconv_toError_syntax _ s _ _ ev _ (by omega) (cell_below HV.out HB.out) HE.out).mono ?_
    rintro e w2 ⟨N, rfl, _, _, hB2⟩
    go_wp2_with fail
    refine bodyPost_ret (v := .tuple #[.int .u64 0, .iface _ (.pointer (some ⟨N, 0, none⟩))]) (by simp [results, Tryd.results33, go_sem]; rfl) rfl ⟨below_call HB.out hB2, .inr ⟨h, _, _, rfl⟩⟩
end Go.Proofs.YtnjcmonlfngjcaaDoor
