/- The walk of the reference's ReadDeed. -/
import Derived.Test.YtnbaapofjmjgiaaDoorDeedTextAny
import Derived.Test.YtnbaapofjmjgiaaDoorDealP
import Derived.Test.YtnbaapofjmjgiaaDoorSmallW
import Derived.Test.YtnbaapofjmjgiaaDoorSplitW
namespace Go.Proofs.YtnbaapofjmjgiaaDoor
open Go.RowKit

set_option maxHeartbeats 400000 in
theorem l09Names_all (w : World) :
    Calls Tryd.prog 8 #[] w fun e w' => e = .returned (.slice (some ⟨w.heap.size, 0, none⟩) 9 9) ∧ Below w.heap.size w w' ∧ w.heap.size < w'.heap.size ∧ Hid (∀ kk, kk < 9 → w'.cell? ⟨w.heap.size, kk, none⟩ = some (.string (wordOf kk))) := by
  go_enter Tryd.func8, Tryd.ntmps8
  go_wp2
  go_ret
  refine ⟨rfl, (Below.refl _ _).alloc (Nat.le_refl _) _, by simp, ?_⟩
  intro kk h
  have : kk = 0 ∨ kk = 1 ∨ kk = 2 ∨ kk = 3 ∨ kk = 4 ∨ kk = 5 ∨ kk = 6 ∨ kk = 7 ∨ kk = 8 := by omega
  rcases this with rfl | rfl | rfl | rfl | rfl | rfl | rfl | rfl | rfl <;> simp [wordOf]

theorem splitL_len (c : UInt8) : ∀ l : List UInt8, (splitL c l).length ≤ l.length + 1
  | [] => by simp [splitL]
  | x :: r => by
    have ih := splitL_len c r
    unfold splitL
    split
    · simp; omega
    · split
      · simp
      · rename_i h t e
        rw [e] at ih
        simp at ih ⊢
        omega

theorem toList_ne {a b : ByteArray} (h : a ≠ b) : (a.toList == b.toList) = false := by
  rw [beq_eq_false_iff_ne]
  intro e
  rw [ByteArray.toList_eq, ByteArray.toList_eq] at e
  exact h (ByteArray.ext (Array.toList_inj.1 e))
theorem toList_eq' {a b : ByteArray} (h : (a.toList == b.toList) = true) : a = b := by
  have e := beq_iff_eq.1 h
  rw [ByteArray.toList_eq, ByteArray.toList_eq] at e
  exact ByteArray.ext (Array.toList_inj.1 e)
theorem eq_text {WT : List ByteArray} {kk : Nat} {A B C : Int} {text : ByteArray} (hA : dA WT = A) (hB : dB WT kk = B) (hC : dC WT kk = C) (h : ((dTextB kk A B C).toList == text.toList) = true) : dTextB kk (dA WT) (dB WT kk) (dC WT kk) = text := by
  rw [hA, hB, hC]; exact toList_eq' h
theorem ne_text {WT : List ByteArray} {kk : Nat} {A B C : Int} {text : ByteArray} (hA : dA WT = A) (hB : dB WT kk = B) (hC : dC WT kk = C) (h : ((dTextB kk A B C).toList == text.toList) = false) : dTextB kk (dA WT) (dB WT kk) (dC WT kk) ≠ text := by
  rw [hA, hB, hC]
  intro e
  rw [e] at h
  simp at h
theorem next_of {text : ByteArray} {WT : List ByteArray} {ok : Bool} {k0 a0 b0 c0 : Int} (h : Deal text WT ok k0 a0 b0 c0) {W0 : ByteArray} {kk : Nat} (e0 : WT[0]? = some W0) (h1 : 1 ≤ kk) (h8 : kk ≤ 8) (hk : ok = true → (kk : Int) ≤ k0)
    (hn : W0 ≠ wordOf kk ∨ dTextB kk (dA WT) (dB WT kk) (dC WT kk) ≠ text) : ok = true → ((kk + 1 : Nat) : Int) ≤ k0 := by
  intro hok
  obtain ⟨k', e, _, _, hw, ht⟩ := h.find hok
  have := hk hok
  have : k' ≠ kk := by
    rintro rfl
    rcases hn with hn | hn
    · rw [e0] at hw; exact hn (Option.some.inj hw)
    · exact hn ht
  omega

/-- Words that lie in a row of cells. -/
structure RowS (w : World) (v : Value) (g cap : Nat) (WS : List ByteArray) : Prop where
  val : v = .slice (some ⟨g, 0, none⟩) WS.length cap
  cap : WS.length ≤ cap
  lt : g < w.heap.size
  cells : ∀ j s, WS[j]? = some s → w.cell? ⟨g, j, none⟩ = some (.string s)
theorem RowS.of_words {B : Nat} {w : World} {v : Value} {WS : List ByteArray} (h : Words B w v WS) (hn : 0 < WS.length) : ∃ g cap, RowS w v g cap WS ∧ B ≤ g := by
  obtain ⟨hl, hv⟩ := h
  rcases hv with ⟨_, h0⟩ | ⟨g, cap, cur, rfl, hB, hg, hc, _, hsz, htk⟩
  · omega
  · refine ⟨g, cap, ⟨rfl, hc, ?_, fun j s hj => ?_⟩, hB⟩
    · exact (Array.getElem?_eq_some_iff.1 hg).1
    · have hown : w.ownsRow B 9 1 (.slice (some ⟨g, 0, none⟩) WS.length cap) WS.length (WS.map Value.string) := ⟨hl, .inr ⟨g, cap, cur, rfl, hB, hg, hc, by assumption, hsz, htk⟩⟩
      have hlt : j < WS.length := (List.getElem?_eq_some_iff.1 hj).1
      rw [hown.cellAt j (by omega), List.getElem?_map, hj]
      rfl
theorem RowS.below {w w1 : World} {v : Value} {g cap : Nat} {WS : List ByteArray} (h : RowS w v g cap WS) (hb : Below w.heap.size w w1) : RowS w1 v g cap WS :=
  ⟨h.val, h.cap, Nat.lt_of_lt_of_le h.lt hb.size, fun j s hj => cell_below (h.cells j s hj) hb⟩

def codeRes (ok : Bool) (k a b c : Int) : Value := if ok then .tuple #[.agg #[.int .i64 k, .int .i64 a, .int .i64 b, .int .i64 c], .int .i64 0] else .tuple #[.agg #[.int .i64 0, .int .i64 0, .int .i64 0, .int .i64 0], .int .i64 5]

set_option maxHeartbeats 4000000 in
theorem specReadDeed_long (text : ByteArray) (w : World) (h : 40 < text.size) (hs : text.size ≤ 1048576) (k a b c : Int) :
    Calls Tryd.prog 4 #[.string text] w fun e w' => e = .returned (codeRes false k a b c) ∧ Below w.heap.size w w' := by
  have hI : (40 : Int) < text.size := by omega
  go_enter Tryd.func4, Tryd.ntmps4
  go_wp2_with fail
  refine bodyPost_ret (v := .tuple #[.agg #[.int .i64 0, .int .i64 0, .int .i64 0, .int .i64 0], .int .i64 5]) (by simp [results, Tryd.results4, go_sem]) rfl ⟨rfl, ?_⟩
  exact ((((((Below.refl _ _).alloc (Nat.le_refl _) _)))))

/-- What the loop of ReadDeed keeps: the old memory, the result's cells, the words, the names. -/
structure RDS (w wr : World) (v : Value) (g cap gn : Nat) (WS : List ByteArray) : Prop where
  below : Below w.heap.size w wr
  lt : w.heap.size < wr.heap.size
  res : ∀ i, i < 4 → wr.cell? ⟨w.heap.size, i, none⟩ = some (.int .i64 0)
  frz : ∀ i, wr.frozen? ⟨w.heap.size, i, none⟩ = false
  row : RowS wr v g cap WS
  gnlt : gn < wr.heap.size
  names : ∀ kk, kk < 9 → wr.cell? ⟨gn, kk, none⟩ = some (.string (wordOf kk))
theorem RDS.step {w wr w3 : World} {v : Value} {g cap gn : Nat} {WS : List ByteArray} (h : RDS w wr v g cap gn WS) (hb : Below wr.heap.size wr w3) : RDS w w3 v g cap gn WS :=
  ⟨below_call h.below hb, Nat.lt_of_lt_of_le h.lt hb.size, fun i hi => cell_below (h.res i hi) hb, fun i => (hb.frozen (p := ⟨w.heap.size, i, none⟩) h.lt).trans (h.frz i), h.row.below hb, Nat.lt_of_lt_of_le h.gnlt hb.size, fun kk hk => cell_below (h.names kk hk) hb⟩

set_option maxRecDepth 100000 in
set_option maxHeartbeats 4000000 in
theorem specReadDeed_in (text : ByteArray) (w : World) (hs : text.size ≤ 40) (ok : Bool) (k0 a0 b0 c0 : Int) (HD : Hid (Deed text ok k0 a0 b0 c0)) :
    Calls Tryd.prog 4 #[.string text] w fun e w' => e = .returned (codeRes ok k0 a0 b0 c0) ∧ Below w.heap.size w w' := by
  obtain ⟨i0, hi, hz0, hz1, hz2⟩ := info_parts Tryd.infoString
  have hI : ¬ ((40 : Int) < text.size) := by omega
  go_enter Tryd.func4, Tryd.ntmps4
  go_wp2_with fail
  refine (l01Split_any text 32 _ (by omega)).mono ?_
  rintro e w1 ⟨v, WS, rfl, hWS, hW, hB1⟩
  have HWS := Lib.hid hWS
  have HW := Lib.hid hW
  have HB1 := Lib.hid hB1
  have hwl : WS.length ≤ 41 := by
    have h1 : WS.length = (splitL 32 text.data.toList).length := by rw [← hWS, List.length_map]
    have h2 := splitL_len 32 text.data.toList
    have h3 := Lib.size_eq text
    omega
  clear hWS hW hB1
  go_wp2_with (at_builtin; go_must (refine wpList_append_own _ rfl _ _ 28 rfl _ 9 i0 (.string ⟨#[]⟩) 1 16 Tryd.underlying28 hi hz0 hz1 hz2 rfl (by decide) _ _ _ rfl (World.ownsRow.alloc HW.out _) ⟨w1.heap.size, 0, none⟩ 2 2 [.string ⟨#[]⟩, .string ⟨#[]⟩] rfl rfl ?c1 ?c2 ?c3 ?c4 ?c5 ?_))
  case c1 => exact cell_two_new _ _ _ _
  case c2 => intro u hu; simp at hu; subst hu; rfl
  case c3 => unfold maxLen; omega
  case c4 => omega
  case c5 => have := HB1.out.size; simp at this ⊢; omega
  intro v' w2 hown' hgrow _
  have HO := Lib.hid hown'
  have HG := Lib.hid hgrow
  clear hown' hgrow
  go_wp2_with fail
  refine (l09Names_all _).mono ?_
  rintro e w3 ⟨rfl, hB3, hs3, HN⟩
  obtain ⟨g, cap, hR, hg⟩ := RowS.of_words (B := w.heap.size + 1) (w := w2) (v := v') (WS := WS ++ [⟨#[]⟩, ⟨#[]⟩]) (by
    have := HO.out
    unfold Words
    simpa using this) (by simp)
  have hB2 : Below (w.alloc (.cells #[.int .i64 0, .int .i64 0, .int .i64 0, .int .i64 0] 23)).heap.size (w.alloc (.cells #[.int .i64 0, .int .i64 0, .int .i64 0, .int .i64 0] 23)) w2 :=
    (HB1.out.alloc HB1.out.size _).grown HG.out (by have := HB1.out.size; simp at this ⊢; omega) (fun k hk => (HW.out.lt k hk).1)
  have hz2 := hB2.size
  have h0 : RDS w w3 v' g cap w2.heap.size (WS ++ [⟨#[]⟩, ⟨#[]⟩]) := by
    simp only [World.size_alloc] at hz2
    refine ⟨((Below.refl _ _).alloc (Nat.le_refl _) _).trans ((hB2.mono (by simp)).trans (hB3.mono (by omega))), by have := hB3.size; omega, fun i hi => ?_, fun i => ?_, hR.below hB3, hs3, HN.out⟩
    · rw [hB3.cell (p := ⟨w.heap.size, i, none⟩) (by show w.heap.size < _; omega), hB2.cell (p := ⟨w.heap.size, i, none⟩) (by simp)]
      match i, hi with
      | 0, _ => simp
      | 1, _ => simp
      | 2, _ => simp
      | 3, _ => simp
    · rw [hB3.frozen (p := ⟨w.heap.size, i, none⟩) (by show w.heap.size < _; omega), hB2.frozen (p := ⟨w.heap.size, i, none⟩) (by simp)]
      simp
  have hv := hR.val
  have hcap := hR.cap
  have hlen : (WS ++ [⟨#[]⟩, ⟨#[]⟩] : List ByteArray).length = WS.length + 2 := by simp
  have h3 : 3 ≤ (WS ++ [⟨#[]⟩, ⟨#[]⟩] : List ByteArray).length := by
    have : 0 < WS.length := by
      have := splitL_ne 32 text.data.toList
      rw [← HWS.out] at this
      have := List.length_pos_iff.2 this
      simpa using this
    omega
  obtain ⟨W0, e0⟩ : ∃ s, (WS ++ [⟨#[]⟩, ⟨#[]⟩] : List ByteArray)[0]? = some s := ⟨_, List.getElem?_eq_getElem (by omega)⟩
  obtain ⟨W1, e1⟩ : ∃ s, (WS ++ [⟨#[]⟩, ⟨#[]⟩] : List ByteArray)[1]? = some s := ⟨_, List.getElem?_eq_getElem (by omega)⟩
  obtain ⟨W2, e2⟩ : ∃ s, (WS ++ [⟨#[]⟩, ⟨#[]⟩] : List ByteArray)[2]? = some s := ⟨_, List.getElem?_eq_getElem (by omega)⟩
  have hDeal := deal_of HD.out HWS.out
  generalize (WS ++ [⟨#[]⟩, ⟨#[]⟩] : List ByteArray) = WT at *
  have HDeal := Lib.hid hDeal
  clear hDeal
  have H0 := Lib.hid h0
  have E0 := Lib.hid e0
  have E1 := Lib.hid e1
  have E2 := Lib.hid e2
  have HL := Lib.hid hlen
  clear h0 hz2 hB2 hR hg HN hs3 hB3 HO HG HW HB1 e0 e1 e2 hlen
  subst hv
  go_wp2_with fail
  go_loopw [6, 7] (fun i _ wr => ∃ kk : Nat, 1 ≤ kk ∧ kk ≤ 9 ∧ i = .int .i64 kk ∧ RDS w wr (.slice (some ⟨g, 0, none⟩) WT.length cap) g cap w2.heap.size WT ∧ Hid (ok = true → (kk : Int) ≤ k0)) (fun i _ _ => 9 - (intOf i).toNat)
  case atStart => exact ⟨1, by omega, by omega, rfl, H0.out, fun h => by obtain ⟨k', e, h1, _⟩ := HDeal.out.find h; omega⟩
  case round =>
    obtain ⟨kk, hk1, hk9, rfl, hRD, HK⟩ := hrel
    by_cases hk : kk < 9
    · have hrow := hRD.row
      have c0 := hrow.cells 0 _ E0.out
      have c1 := hrow.cells 1 _ E1.out
      have c2 := hrow.cells 2 _ E2.out
      have cn := hRD.names kk hk
      have hgl := hrow.lt
      have hnl := hRD.gnlt
      have hkI : (kk : Int) < 9 := by omega
      have hL0 : 0 < WT.length := by omega
      have HR := Lib.hid hRD
      clear hRD hrow
      have HA1 : Hid (dA WT = smallOf W1.data.toList) := by unfold Hid dA wAt; rw [E1.out]; rfl
      have hn : numsOf kk = 1 ∨ numsOf kk = 2 ∨ (numsOf kk = 3 ∧ WT.length ≤ 3) ∨ (numsOf kk = 3 ∧ 3 < WT.length) := by
        have : numsOf kk = 1 ∨ numsOf kk = 2 ∨ numsOf kk = 3 := by unfold numsOf; split <;> (try split) <;> simp
        omega
      rcases hn with hn | hn | ⟨hn, h4⟩ | ⟨hn, h4⟩
      all_goals (have HN1 := Lib.hid hn; clear hn)
      · skip
        · -- 1 numbers, plain
          have HBe : Hid (dB WT kk = (0 : Int)) := by unfold Hid dB; rw [HN1.out]; simp
          have HCe : Hid (dC WT kk = (0 : Int)) := by unfold Hid dC; rw [HN1.out]; simp
          by_cases hw : W0 = wordOf kk
          · subst hw
            cases ht : ((dTextB kk (smallOf W1.data.toList) ((0 : Int)) ((0 : Int))).toList == text.toList)
            all_goals
              have HT := Lib.hid ht
              go_wp2_with (first | (go_at_call 9; refine (l09Small_any _ _).mono ?_; rintro e wz ⟨rfl, rfl⟩) | (go_at_call 10; refine (l09Numbers_at _ _ _ HN1.out).mono ?_; rintro e wz ⟨rfl, rfl⟩))
              go_region_held3 (fun w' => w'.cell? ⟨g, 0, none⟩ = some (.string (wordOf kk)) ∧ w'.cell? ⟨w2.heap.size, kk, none⟩ = some (.string (wordOf kk)) ∧ w'.cell? ⟨wr.heap.size, 0, none⟩ = some (.int .i64 kk) ∧ w'.cell? ⟨wr.heap.size, 1, none⟩ = some (.int .i64 (smallOf W1.data.toList)) ∧ w'.cell? ⟨wr.heap.size, 2, none⟩ = some (.int .i64 ((0 : Int))) ∧ w'.cell? ⟨wr.heap.size, 3, none⟩ = some (.int .i64 ((0 : Int)))) (first | go_keep | (simp [*]; done)) ((go_at_call 11; refine (specDeedText_any _ _ _ _ _).mono ?_; rintro e w4 ⟨rfl, hB4⟩; have q0 : w4.cell? ⟨g, 0, none⟩ = some (.string (wordOf kk)) := cell_below (by simp [*]) hB4; have q1 : w4.cell? ⟨w2.heap.size, kk, none⟩ = some (.string (wordOf kk)) := cell_below (by simp [*]) hB4; have q2 : w4.cell? ⟨wr.heap.size, 0, none⟩ = some (.int .i64 kk) := cell_below (by simp) hB4; have q3 : w4.cell? ⟨wr.heap.size, 1, none⟩ = some (.int .i64 (smallOf W1.data.toList)) := cell_below (by simp) hB4; have q4 : w4.cell? ⟨wr.heap.size, 2, none⟩ = some (.int .i64 ((0 : Int))) := cell_below (by simp) hB4; have q5 : w4.cell? ⟨wr.heap.size, 3, none⟩ = some (.int .i64 ((0 : Int))) := cell_below (by simp) hB4))
              have hS4 := HR.out.step ((below_alloc (Below.refl _ _) _).drew.trans (hB4.mono (by simp)))
              have HS4 := Lib.hid hS4
              have r0 := hS4.res 0 (by omega)
              have r1 := hS4.res 1 (by omega)
              have r2 := hS4.res 2 (by omega)
              have r3 := hS4.res 3 (by omega)
              have f0 := hS4.frz
              clear hS4
              go_wp2_with fail
            · go_roundw
              case rel => exact ⟨kk + 1, by omega, by omega, by go_num, HS4.out, next_of HDeal.out E0.out (by omega) (by omega) HK.out (.inr (ne_text HA1.out HBe.out HCe.out HT.out))⟩
              case measure => simp [intOf]; omega
            · have hh := HDeal.out.hit kk hk1 (by omega) E0.out (eq_text HA1.out HBe.out HCe.out HT.out)
              refine bodyPost_ret (v := .tuple #[.agg #[.int .i64 kk, .int .i64 (smallOf W1.data.toList), .int .i64 ((0 : Int)), .int .i64 ((0 : Int))], .int .i64 0]) (by simp [results, Tryd.results4, go_sem, r0, r1, r2, r3]) rfl ⟨?_, ?_⟩
              · obtain ⟨rfl, rfl, rfl, rfl, rfl⟩ := hh
                rw [HA1.out, HBe.out, HCe.out]
                rfl
              · exact (((HS4.out.below.setCell (Nat.le_refl _) _).setCell (Nat.le_refl _) _).setCell (Nat.le_refl _) _).setCell (Nat.le_refl _) _
          · have hwb : (W0.toList == (wordOf kk).toList) = false := toList_ne hw
            have HW0 := Lib.hid hw
            clear hw
            go_wp2_with (first | (go_at_call 9; refine (l09Small_any _ _).mono ?_; rintro e wz ⟨rfl, rfl⟩) | (go_at_call 10; refine (l09Numbers_at _ _ _ HN1.out).mono ?_; rintro e wz ⟨rfl, rfl⟩))
            go_quiet (fail)
            go_wp2_with fail
            go_roundw
            case rel => exact ⟨kk + 1, by omega, by omega, by go_num, HR.out.step (below_drewN (below_alloc (Below.refl _ _) _) _), next_of HDeal.out E0.out (by omega) (by omega) HK.out (.inl HW0.out)⟩
            case measure => simp [intOf]; omega
      · skip
        · -- 2 numbers, plain
          have HBe : Hid (dB WT kk = smallOf W2.data.toList) := by unfold Hid dB wAt; rw [HN1.out]; simp [E2.out]
          have HCe : Hid (dC WT kk = (0 : Int)) := by unfold Hid dC; rw [HN1.out]; simp
          by_cases hw : W0 = wordOf kk
          · subst hw
            cases ht : ((dTextB kk (smallOf W1.data.toList) (smallOf W2.data.toList) ((0 : Int))).toList == text.toList)
            all_goals
              have HT := Lib.hid ht
              go_wp2_with (first | (go_at_call 9; refine (l09Small_any _ _).mono ?_; rintro e wz ⟨rfl, rfl⟩) | (go_at_call 10; refine (l09Numbers_at _ _ _ HN1.out).mono ?_; rintro e wz ⟨rfl, rfl⟩))
              go_region_held3 (fun w' => w'.cell? ⟨g, 0, none⟩ = some (.string (wordOf kk)) ∧ w'.cell? ⟨w2.heap.size, kk, none⟩ = some (.string (wordOf kk)) ∧ w'.cell? ⟨wr.heap.size, 0, none⟩ = some (.int .i64 kk) ∧ w'.cell? ⟨wr.heap.size, 1, none⟩ = some (.int .i64 (smallOf W1.data.toList)) ∧ w'.cell? ⟨wr.heap.size, 2, none⟩ = some (.int .i64 (smallOf W2.data.toList)) ∧ w'.cell? ⟨wr.heap.size, 3, none⟩ = some (.int .i64 ((0 : Int)))) (first | go_keep | (simp [*]; done)) ((go_at_call 11; refine (specDeedText_any _ _ _ _ _).mono ?_; rintro e w4 ⟨rfl, hB4⟩; have q0 : w4.cell? ⟨g, 0, none⟩ = some (.string (wordOf kk)) := cell_below (by simp [*]) hB4; have q1 : w4.cell? ⟨w2.heap.size, kk, none⟩ = some (.string (wordOf kk)) := cell_below (by simp [*]) hB4; have q2 : w4.cell? ⟨wr.heap.size, 0, none⟩ = some (.int .i64 kk) := cell_below (by simp) hB4; have q3 : w4.cell? ⟨wr.heap.size, 1, none⟩ = some (.int .i64 (smallOf W1.data.toList)) := cell_below (by simp) hB4; have q4 : w4.cell? ⟨wr.heap.size, 2, none⟩ = some (.int .i64 (smallOf W2.data.toList)) := cell_below (by simp) hB4; have q5 : w4.cell? ⟨wr.heap.size, 3, none⟩ = some (.int .i64 ((0 : Int))) := cell_below (by simp) hB4))
              have hS4 := HR.out.step ((below_alloc (Below.refl _ _) _).drew.trans (hB4.mono (by simp)))
              have HS4 := Lib.hid hS4
              have r0 := hS4.res 0 (by omega)
              have r1 := hS4.res 1 (by omega)
              have r2 := hS4.res 2 (by omega)
              have r3 := hS4.res 3 (by omega)
              have f0 := hS4.frz
              clear hS4
              go_wp2_with fail
            · go_roundw
              case rel => exact ⟨kk + 1, by omega, by omega, by go_num, HS4.out, next_of HDeal.out E0.out (by omega) (by omega) HK.out (.inr (ne_text HA1.out HBe.out HCe.out HT.out))⟩
              case measure => simp [intOf]; omega
            · have hh := HDeal.out.hit kk hk1 (by omega) E0.out (eq_text HA1.out HBe.out HCe.out HT.out)
              refine bodyPost_ret (v := .tuple #[.agg #[.int .i64 kk, .int .i64 (smallOf W1.data.toList), .int .i64 (smallOf W2.data.toList), .int .i64 ((0 : Int))], .int .i64 0]) (by simp [results, Tryd.results4, go_sem, r0, r1, r2, r3]) rfl ⟨?_, ?_⟩
              · obtain ⟨rfl, rfl, rfl, rfl, rfl⟩ := hh
                rw [HA1.out, HBe.out, HCe.out]
                rfl
              · exact (((HS4.out.below.setCell (Nat.le_refl _) _).setCell (Nat.le_refl _) _).setCell (Nat.le_refl _) _).setCell (Nat.le_refl _) _
          · have hwb : (W0.toList == (wordOf kk).toList) = false := toList_ne hw
            have HW0 := Lib.hid hw
            clear hw
            go_wp2_with (first | (go_at_call 9; refine (l09Small_any _ _).mono ?_; rintro e wz ⟨rfl, rfl⟩) | (go_at_call 10; refine (l09Numbers_at _ _ _ HN1.out).mono ?_; rintro e wz ⟨rfl, rfl⟩))
            go_quiet (fail)
            go_wp2_with fail
            go_roundw
            case rel => exact ⟨kk + 1, by omega, by omega, by go_num, HR.out.step (below_drewN (below_alloc (Below.refl _ _) _) _), next_of HDeal.out E0.out (by omega) (by omega) HK.out (.inl HW0.out)⟩
            case measure => simp [intOf]; omega
      · have h4I : ¬ ((3 : Int) < WT.length) := by omega
        · -- 3 numbers, h4
          have HBe : Hid (dB WT kk = smallOf W2.data.toList) := by unfold Hid dB wAt; rw [HN1.out]; simp [E2.out]
          have HCe : Hid (dC WT kk = (0 : Int)) := by unfold Hid dC; rw [HN1.out, if_neg (fun h => by have := h.2; omega)]
          by_cases hw : W0 = wordOf kk
          · subst hw
            cases ht : ((dTextB kk (smallOf W1.data.toList) (smallOf W2.data.toList) ((0 : Int))).toList == text.toList)
            all_goals
              have HT := Lib.hid ht
              go_wp2_with (first | (go_at_call 9; refine (l09Small_any _ _).mono ?_; rintro e wz ⟨rfl, rfl⟩) | (go_at_call 10; refine (l09Numbers_at _ _ _ HN1.out).mono ?_; rintro e wz ⟨rfl, rfl⟩))
              go_region_held3 (fun w' => w'.cell? ⟨g, 0, none⟩ = some (.string (wordOf kk)) ∧ w'.cell? ⟨w2.heap.size, kk, none⟩ = some (.string (wordOf kk)) ∧ w'.cell? ⟨wr.heap.size, 0, none⟩ = some (.int .i64 kk) ∧ w'.cell? ⟨wr.heap.size, 1, none⟩ = some (.int .i64 (smallOf W1.data.toList)) ∧ w'.cell? ⟨wr.heap.size, 2, none⟩ = some (.int .i64 (smallOf W2.data.toList)) ∧ w'.cell? ⟨wr.heap.size, 3, none⟩ = some (.int .i64 ((0 : Int)))) (first | go_keep | (simp [*]; done)) ((go_at_call 11; refine (specDeedText_any _ _ _ _ _).mono ?_; rintro e w4 ⟨rfl, hB4⟩; have q0 : w4.cell? ⟨g, 0, none⟩ = some (.string (wordOf kk)) := cell_below (by simp [*]) hB4; have q1 : w4.cell? ⟨w2.heap.size, kk, none⟩ = some (.string (wordOf kk)) := cell_below (by simp [*]) hB4; have q2 : w4.cell? ⟨wr.heap.size, 0, none⟩ = some (.int .i64 kk) := cell_below (by simp) hB4; have q3 : w4.cell? ⟨wr.heap.size, 1, none⟩ = some (.int .i64 (smallOf W1.data.toList)) := cell_below (by simp) hB4; have q4 : w4.cell? ⟨wr.heap.size, 2, none⟩ = some (.int .i64 (smallOf W2.data.toList)) := cell_below (by simp) hB4; have q5 : w4.cell? ⟨wr.heap.size, 3, none⟩ = some (.int .i64 ((0 : Int))) := cell_below (by simp) hB4))
              have hS4 := HR.out.step ((below_alloc (Below.refl _ _) _).drew.trans (hB4.mono (by simp)))
              have HS4 := Lib.hid hS4
              have r0 := hS4.res 0 (by omega)
              have r1 := hS4.res 1 (by omega)
              have r2 := hS4.res 2 (by omega)
              have r3 := hS4.res 3 (by omega)
              have f0 := hS4.frz
              clear hS4
              go_wp2_with fail
            · go_roundw
              case rel => exact ⟨kk + 1, by omega, by omega, by go_num, HS4.out, next_of HDeal.out E0.out (by omega) (by omega) HK.out (.inr (ne_text HA1.out HBe.out HCe.out HT.out))⟩
              case measure => simp [intOf]; omega
            · have hh := HDeal.out.hit kk hk1 (by omega) E0.out (eq_text HA1.out HBe.out HCe.out HT.out)
              refine bodyPost_ret (v := .tuple #[.agg #[.int .i64 kk, .int .i64 (smallOf W1.data.toList), .int .i64 (smallOf W2.data.toList), .int .i64 ((0 : Int))], .int .i64 0]) (by simp [results, Tryd.results4, go_sem, r0, r1, r2, r3]) rfl ⟨?_, ?_⟩
              · obtain ⟨rfl, rfl, rfl, rfl, rfl⟩ := hh
                rw [HA1.out, HBe.out, HCe.out]
                rfl
              · exact (((HS4.out.below.setCell (Nat.le_refl _) _).setCell (Nat.le_refl _) _).setCell (Nat.le_refl _) _).setCell (Nat.le_refl _) _
          · have hwb : (W0.toList == (wordOf kk).toList) = false := toList_ne hw
            have HW0 := Lib.hid hw
            clear hw
            go_wp2_with (first | (go_at_call 9; refine (l09Small_any _ _).mono ?_; rintro e wz ⟨rfl, rfl⟩) | (go_at_call 10; refine (l09Numbers_at _ _ _ HN1.out).mono ?_; rintro e wz ⟨rfl, rfl⟩))
            go_quiet (fail)
            go_wp2_with fail
            go_roundw
            case rel => exact ⟨kk + 1, by omega, by omega, by go_num, HR.out.step (below_drewN (below_alloc (Below.refl _ _) _) _), next_of HDeal.out E0.out (by omega) (by omega) HK.out (.inl HW0.out)⟩
            case measure => simp [intOf]; omega
      · have h4I : (3 : Int) < WT.length := by omega
        obtain ⟨W3, e3⟩ : ∃ s, WT[3]? = some s := ⟨_, List.getElem?_eq_getElem h4⟩
        have c3 := HR.out.row.cells 3 _ e3
        have E3 := Lib.hid e3
        clear e3
        · -- 3 numbers, h4, E3.out
          have HBe : Hid (dB WT kk = smallOf W2.data.toList) := by unfold Hid dB wAt; rw [HN1.out]; simp [E2.out]
          have HCe : Hid (dC WT kk = smallOf W3.data.toList) := by unfold Hid dC; rw [HN1.out, if_pos ⟨by omega, h4⟩]; unfold wAt; rw [E3.out]; rfl
          by_cases hw : W0 = wordOf kk
          · subst hw
            cases ht : ((dTextB kk (smallOf W1.data.toList) (smallOf W2.data.toList) (smallOf W3.data.toList)).toList == text.toList)
            all_goals
              have HT := Lib.hid ht
              go_wp2_with (first | (go_at_call 9; refine (l09Small_any _ _).mono ?_; rintro e wz ⟨rfl, rfl⟩) | (go_at_call 10; refine (l09Numbers_at _ _ _ HN1.out).mono ?_; rintro e wz ⟨rfl, rfl⟩))
              go_region_held3 (fun w' => w'.cell? ⟨g, 0, none⟩ = some (.string (wordOf kk)) ∧ w'.cell? ⟨w2.heap.size, kk, none⟩ = some (.string (wordOf kk)) ∧ w'.cell? ⟨wr.heap.size, 0, none⟩ = some (.int .i64 kk) ∧ w'.cell? ⟨wr.heap.size, 1, none⟩ = some (.int .i64 (smallOf W1.data.toList)) ∧ w'.cell? ⟨wr.heap.size, 2, none⟩ = some (.int .i64 (smallOf W2.data.toList)) ∧ w'.cell? ⟨wr.heap.size, 3, none⟩ = some (.int .i64 (smallOf W3.data.toList))) (first | go_keep | (simp [*]; done)) ((go_at_call 11; refine (specDeedText_any _ _ _ _ _).mono ?_; rintro e w4 ⟨rfl, hB4⟩; have q0 : w4.cell? ⟨g, 0, none⟩ = some (.string (wordOf kk)) := cell_below (by simp [*]) hB4; have q1 : w4.cell? ⟨w2.heap.size, kk, none⟩ = some (.string (wordOf kk)) := cell_below (by simp [*]) hB4; have q2 : w4.cell? ⟨wr.heap.size, 0, none⟩ = some (.int .i64 kk) := cell_below (by simp) hB4; have q3 : w4.cell? ⟨wr.heap.size, 1, none⟩ = some (.int .i64 (smallOf W1.data.toList)) := cell_below (by simp) hB4; have q4 : w4.cell? ⟨wr.heap.size, 2, none⟩ = some (.int .i64 (smallOf W2.data.toList)) := cell_below (by simp) hB4; have q5 : w4.cell? ⟨wr.heap.size, 3, none⟩ = some (.int .i64 (smallOf W3.data.toList)) := cell_below (by simp) hB4))
              have hS4 := HR.out.step ((below_alloc (Below.refl _ _) _).drew.trans (hB4.mono (by simp)))
              have HS4 := Lib.hid hS4
              have r0 := hS4.res 0 (by omega)
              have r1 := hS4.res 1 (by omega)
              have r2 := hS4.res 2 (by omega)
              have r3 := hS4.res 3 (by omega)
              have f0 := hS4.frz
              clear hS4
              go_wp2_with fail
            · go_roundw
              case rel => exact ⟨kk + 1, by omega, by omega, by go_num, HS4.out, next_of HDeal.out E0.out (by omega) (by omega) HK.out (.inr (ne_text HA1.out HBe.out HCe.out HT.out))⟩
              case measure => simp [intOf]; omega
            · have hh := HDeal.out.hit kk hk1 (by omega) E0.out (eq_text HA1.out HBe.out HCe.out HT.out)
              refine bodyPost_ret (v := .tuple #[.agg #[.int .i64 kk, .int .i64 (smallOf W1.data.toList), .int .i64 (smallOf W2.data.toList), .int .i64 (smallOf W3.data.toList)], .int .i64 0]) (by simp [results, Tryd.results4, go_sem, r0, r1, r2, r3]) rfl ⟨?_, ?_⟩
              · obtain ⟨rfl, rfl, rfl, rfl, rfl⟩ := hh
                rw [HA1.out, HBe.out, HCe.out]
                rfl
              · exact (((HS4.out.below.setCell (Nat.le_refl _) _).setCell (Nat.le_refl _) _).setCell (Nat.le_refl _) _).setCell (Nat.le_refl _) _
          · have hwb : (W0.toList == (wordOf kk).toList) = false := toList_ne hw
            have HW0 := Lib.hid hw
            clear hw
            go_wp2_with (first | (go_at_call 9; refine (l09Small_any _ _).mono ?_; rintro e wz ⟨rfl, rfl⟩) | (go_at_call 10; refine (l09Numbers_at _ _ _ HN1.out).mono ?_; rintro e wz ⟨rfl, rfl⟩))
            go_quiet (fail)
            go_wp2_with fail
            go_roundw
            case rel => exact ⟨kk + 1, by omega, by omega, by go_num, HR.out.step (below_drewN (below_alloc (Below.refl _ _) _) _), next_of HDeal.out E0.out (by omega) (by omega) HK.out (.inl HW0.out)⟩
            case measure => simp [intOf]; omega
    · obtain rfl : kk = 9 := by omega
      have hok : ok = false := by
        cases ok with
        | false => rfl
        | true => 
          obtain ⟨k', e, _, h8, _⟩ := HDeal.out.find rfl
          have := HK.out rfl
          omega
      subst hok
      have r0 := hRD.res 0 (by omega)
      have r1 := hRD.res 1 (by omega)
      have r2 := hRD.res 2 (by omega)
      have r3 := hRD.res 3 (by omega)
      have f0 := hRD.frz
      have HR := Lib.hid hRD
      clear hRD
      go_wp2_with fail
      refine bodyPost_ret (v := .tuple #[.agg #[.int .i64 0, .int .i64 0, .int .i64 0, .int .i64 0], .int .i64 5]) (by simp [results, Tryd.results4, go_sem, r0, r1, r2, r3]) rfl ⟨rfl, ?_⟩
      exact (((HR.out.below.setCell (Nat.le_refl _) _).setCell (Nat.le_refl _) _).setCell (Nat.le_refl _) _).setCell (Nat.le_refl _) _
end Go.Proofs.YtnbaapofjmjgiaaDoor
