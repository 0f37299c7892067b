/- The walk of the program's ReadDeed. -/
import Derived.Test.YtnbaapofjmjgiaaDoorIndexF
import Derived.Test.YtnbaapofjmjgiaaDoorReadDeedQ
namespace Go.Proofs.YtnbaapofjmjgiaaDoor
open Go.RowKit

/-- What ReadDeed reads of package-level variables. -/
structure RDEnv (w : World) (tb toff : Nat) : Prop where
  tab : DeedTab w tb toff
  pow : Lib.TabIs Tryd.prog w "internal/strconv.uint64pow10" .u64 Lib.pow10Tab
  syn : ∃ ev, w.cell? ⟨2, 0, none⟩ = some ev ∧ (ev = .nilIface ∨ ∃ te pe, ev = .iface te pe)
  rng : ∃ ev, w.cell? ⟨3, 0, none⟩ = some ev ∧ (ev = .nilIface ∨ ∃ te pe, ev = .iface te pe)
  max : ∃ m, w.cell? ⟨1, 0, none⟩ = some (.int .i64 m)
theorem RDEnv.below {w w1 : World} {tb toff : Nat} (h : RDEnv w tb toff) (hb : Below w.heap.size w w1) : RDEnv w1 tb toff := by
  obtain ⟨h1, h2, ⟨e1, h3, h4⟩, ⟨e2, h5, h6⟩, ⟨m, h7⟩⟩ := h
  exact ⟨h1.below hb, tabIs_below h2 hb, ⟨e1, cell_below h3 hb, h4⟩, ⟨e2, cell_below h5 hb, h6⟩, ⟨m, cell_below h7 hb⟩⟩

theorem Tryd.infoInt64 : (Tryd.prog.info? 2).map (fun i => (i.zero, i.size, i.bytes)) = some (some (.int .i64 0), 1, 8) := by kernel_rfl

theorem own_below {w w' : World} {base : Nat} {e : TypeId} {size : Nat} {v : Value} {n : Nat} {xs : List Value} (h : w.ownsRow base e size v n xs) (hb : Below w.heap.size w w') : w'.ownsRow base e size v n xs := by
  obtain ⟨h1, h2 | ⟨g, cap, cur, h3, h4, h5, h6⟩⟩ := h
  · exact ⟨h1, .inl h2⟩
  · exact ⟨h1, .inr ⟨g, cap, cur, h3, h4, (hb.block g (Array.getElem?_eq_some_iff.1 h5).1).trans h5, h6⟩⟩

theorem words_cell (w : World) (WS : List ByteArray) (t : TypeId) (j : Nat) : (w.alloc (.cells (WS.map Value.string).toArray t)).cell? ⟨w.heap.size, j, none⟩ = WS[j]?.map Value.string := by
  unfold World.cell? World.alloc
  simp

/-- What the loop of the program's ReadDeed keeps: the memory before it, and the numbers read. -/
structure RDI (ws wr : World) (v : Value) (L : List Int) : Prop where
  below : Below ws.heap.size ws wr
  own : wr.ownsRow ws.heap.size 2 1 v L.length (L.map (Value.int .i64))
theorem cell_three_new (w : World) (x y z : Value) (t : TypeId) : ∀ j u, [x, y, z][j]? = some u → (w.alloc (.cells #[x, y, z] t)).cell? ((⟨w.heap.size, 0, none⟩ : Addr).add j) = some u := by
  intro j u h
  match j with
  | 0 => simpa [Addr.add] using h
  | 1 => simpa [Addr.add] using h
  | 2 => simpa [Addr.add] using h
  | j + 3 => simp at h

theorem own_three {w : World} {B0 : Nat} {t : TypeId} {v : Value} {L : List Int} (h : w.ownsRow B0 t 1 v (L.length + 3) ((L ++ [0, 0, 0]).map (Value.int .i64))) :
    ∃ g cap A B C len, v = .slice (some ⟨g, 0, none⟩) len cap ∧ len = L.length + 3 ∧ len ≤ cap ∧ (L ++ [0, 0, 0])[0]? = some A ∧ (L ++ [0, 0, 0])[1]? = some B ∧ (L ++ [0, 0, 0])[2]? = some C ∧
      w.cell? ⟨g, 0, none⟩ = some (.int .i64 A) ∧ w.cell? ⟨g, 1, none⟩ = some (.int .i64 B) ∧ w.cell? ⟨g, 2, none⟩ = some (.int .i64 C) := by
  have hat : ∀ j, j < 3 → ∃ x, (L ++ [0, 0, 0])[j]? = some x := fun j hj => ⟨_, List.getElem?_eq_getElem (by simp; omega)⟩
  obtain ⟨A, hA⟩ := hat 0 (by omega)
  obtain ⟨B, hB⟩ := hat 1 (by omega)
  obtain ⟨C, hC⟩ := hat 2 (by omega)
  obtain ⟨hl, ⟨_, h0⟩ | ⟨g, cap, cur, rfl, h4, h5, h6, h7⟩⟩ := h
  · omega
  · have hown : w.ownsRow B0 t 1 (.slice (some ⟨g, 0, none⟩) (L.length + 3) cap) (L.length + 3) ((L ++ [0, 0, 0]).map (Value.int .i64)) := ⟨hl, .inr ⟨g, cap, cur, rfl, h4, h5, h6, h7⟩⟩
    refine ⟨g, cap, A, B, C, _, rfl, rfl, h6, hA, hB, hC, ?_, ?_, ?_⟩
    · rw [hown.cellAt 0 (by omega), List.getElem?_map, hA]; rfl
    · rw [hown.cellAt 1 (by omega), List.getElem?_map, hB]; rfl
    · rw [hown.cellAt 2 (by omega), List.getElem?_map, hC]; rfl

set_option maxRecDepth 100000 in
set_option maxHeartbeats 4000000 in
theorem implReadDeed_in (tb toff : Nat) (text : ByteArray) (w : World) (hs : text.size ≤ 1048576) (HEnv : Hid (RDEnv w tb toff)) (ok : Bool) (k0 a0 b0 c0 : Int) (HD : Hid (Deed text ok k0 a0 b0 c0)) :
    Calls Tryd.prog 5 #[.string text] w fun e w' => e = .returned (codeRes ok k0 a0 b0 c0) ∧ Below w.heap.size w w' := by
  obtain ⟨i0, hi, hz0, hz1, hz2⟩ := info_parts Tryd.infoInt64
  obtain ⟨mx, hmx⟩ := HEnv.out.max
  have hhead := HEnv.out.tab.head
  have hh0 := HEnv.out.tab.h0
  have HM := Lib.hid hmx
  clear hmx
  go_enter Tryd.func5, Tryd.ntmps5
  go_wp2_with fail
  refine (Tryd.strings_Split text ⟨#[32]⟩ mx _ (by omega) (cell_below HM.out ((Below.refl _ _).alloc (Nat.le_refl _) _)) (by decide)).mono ?_
  rintro e w1 ⟨rfl, rfl⟩
  have HWS : Hid ((Lib.splitB ⟨#[32]⟩ 0 (Lib.countB text ⟨#[32]⟩) text).map (·.data.toList) = splitL 32 text.data.toList) := by
    have e1 := splitB_words 32 text
    rw [Hid, e1, List.map_map]
    exact List.map_id _
  have HN : Hid ((Lib.splitB ⟨#[32]⟩ 0 (Lib.countB text ⟨#[32]⟩) text).length = Lib.countB text ⟨#[32]⟩ + 1) := by
    have e1 := splitL_length 32 text
    rw [← HWS.out, List.length_map] at e1
    exact e1
  generalize Lib.splitB ⟨#[32]⟩ 0 (Lib.countB text ⟨#[32]⟩) text = WS at *
  have hnm : Lib.countB text ⟨#[32]⟩ + 1 ≤ 1048577 := by
    have h1 := splitL_length 32 text
    have h2 := splitL_len 32 text.data.toList
    have h3 := Lib.size_eq text
    omega
  generalize hn : Lib.countB text ⟨#[32]⟩ + 1 = n at *
  have hnp : 1 ≤ n := by omega
  have hnI : (1 : Int) ≤ n := by omega
  clear hn
  obtain ⟨W0, e0⟩ : ∃ s, WS[0]? = some s := ⟨_, List.getElem?_eq_getElem (by rw [HN.out]; omega)⟩
  have hsz : ((w.alloc (.cells #[.int .i64 0, .int .i64 0, .int .i64 0, .int .i64 0] 23)).alloc (.cells (WS.map Value.string).toArray 9)).heap.size = w.heap.size + 2 := by simp
  have hBs : Below w.heap.size w ((w.alloc (.cells #[.int .i64 0, .int .i64 0, .int .i64 0, .int .i64 0] 23)).alloc (.cells (WS.map Value.string).toArray 9)) := ((Below.refl _ _).alloc (Nat.le_refl _) _).alloc (by simp) _
  have HEs := Lib.hid (HEnv.out.below hBs)
  have HBs := Lib.hid hBs
  have HSz := Lib.hid hsz
  clear hsz hBs
  have HRow : Hid (∀ j s, WS[j]? = some s → ((w.alloc (.cells #[.int .i64 0, .int .i64 0, .int .i64 0, .int .i64 0] 23)).alloc (.cells (WS.map Value.string).toArray 9)).cell? ⟨w.heap.size + 1, j, none⟩ = some (.string s)) := by
    intro j s hj
    have e : w.heap.size + 1 = (w.alloc (.cells #[.int .i64 0, .int .i64 0, .int .i64 0, .int .i64 0] 23)).heap.size := by simp
    rw [e, words_cell, hj]
    rfl
  have HRes : Hid (∀ j, j < 4 → ((w.alloc (.cells #[.int .i64 0, .int .i64 0, .int .i64 0, .int .i64 0] 23)).alloc (.cells (WS.map Value.string).toArray 9)).cell? ⟨w.heap.size, j, none⟩ = some (.int .i64 0)) := by
    intro j hj
    match j, hj with
    | 0, _ => simp
    | 1, _ => simp
    | 2, _ => simp
    | 3, _ => simp
  have HFrz : Hid (∀ j, ((w.alloc (.cells #[.int .i64 0, .int .i64 0, .int .i64 0, .int .i64 0] 23)).alloc (.cells (WS.map Value.string).toArray 9)).frozen? ⟨w.heap.size, j, none⟩ = false) := by
    intro j
    simp
  go_wp2_with fail
  generalize hws : (w.alloc (.cells #[.int .i64 0, .int .i64 0, .int .i64 0, .int .i64 0] 23)).alloc (.cells (WS.map Value.string).toArray 9) = ws at *
  have hBw : Below ws.heap.size ws ((ws.alloc (.cells #[] 2)).alloc (.cells #[.slice (some ⟨w.heap.size + 1, 0, none⟩) n n] 28)) := ((Below.refl _ _).alloc (Nat.le_refl _) _).alloc (by simp) _
  have hbox : ((ws.alloc (.cells #[] 2)).alloc (.cells #[.slice (some ⟨w.heap.size + 1, 0, none⟩) n n] 28)).cell? ⟨w.heap.size + 1 + 1 + 1, 0, none⟩ = some (.slice (some ⟨w.heap.size + 1, 0, none⟩) n n) := by
    have e : w.heap.size + 1 + 1 + 1 = (ws.alloc (.cells #[] 2)).heap.size := by simp [HSz.out]
    rw [e]
    simp
  have hown : ((ws.alloc (.cells #[] 2)).alloc (.cells #[.slice (some ⟨w.heap.size + 1, 0, none⟩) n n] 28)).ownsRow ws.heap.size 2 1 (.slice (some ⟨w.heap.size + 1 + 1, 0, none⟩) 0 0) 0 [] := by
    have e : w.heap.size + 1 + 1 = ws.heap.size := HSz.out.symm
    rw [e]
    exact (World.ownsRow_made (base := ws.heap.size) (e := 2) (size := 1) ws #[] 0 (Nat.le_refl _) (by simp) rfl).alloc _
  have HBw := Lib.hid hBw
  have HBox := Lib.hid hbox
  have HOwn := Lib.hid hown
  clear hBw hbox hown
  generalize ((ws.alloc (.cells #[] 2)).alloc (.cells #[.slice (some ⟨w.heap.size + 1, 0, none⟩) n n] 28)) = w2 at *
  refine (indexForms_any tb toff _ W0 (w.heap.size + 1) n n _ (Lib.hid (HEs.out.tab.below HBw.out)) (Lib.hid ⟨HBox.out, by omega, cell_below (HRow.out 0 _ e0) HBw.out⟩)).mono ?_
  rintro e w3 ⟨z, rfl, hB3, hz⟩
  have c3 := cell_below HBox.out hB3
  have HB3 := Lib.hid (below_call HBw.out hB3)
  have HO3 := Lib.hid (own_below HOwn.out hB3)
  have HZ := Lib.hid hz
  clear hz hB3
  go_wp2_with fail
  · -- from 0
    go_loopw [5, 21] (fun v i wr => ∃ (j : Nat) (L : List Int), j ≤ 0 ∧ i = .int .i64 j ∧ L.length = j ∧ Hid (RDI ws wr v L) ∧ Hid (Reads WS L)) (fun _ i _ => 0 - (intOf i).toNat)
    case atStart => exact ⟨0, [], by omega, rfl, rfl, ⟨HB3.out, HO3.out⟩, fun j s hj => absurd hj (Nat.not_lt_zero _)⟩
    case round =>
      obtain ⟨j, L, hj, rfl, hL, HR, HRd⟩ := hrel
      by_cases hlt : j < 0
      · omega
      · -- done
        have hje : j = 0 := by omega
        have hltI : ¬ ((j : Int) < (0 : Nat)) := by omega
        have hlt0 : ¬ ((j : Int) < (0 : Int)) := by omega
        have HO4 := Lib.hid HR.out.own
        have HLW : Hid (L.length + 1 = WS.length) := by
          show _ = _
          rw [HN.out]
          omega
        go_wp2_with (at_builtin; (refine wpList_append_own _ rfl _ _ 35 rfl ws.heap.size 2 i0 (.int .i64 0) 1 8 Tryd.underlying35 hi hz0 hz1 hz2 rfl (by decide) _ _ _ rfl (World.ownsRow.alloc HO4.out _) ⟨wr.heap.size, 0, none⟩ 3 3 [.int .i64 0, .int .i64 0, .int .i64 0] rfl rfl (cell_three_new _ _ _ _ _) (by intro u hu; simp at hu; subst hu; rfl) (by unfold maxLen; omega) (by omega) (by have := HR.out.below.size; simp; omega) ?_))
        intro v' w5 hown' hgrow _
        have HO5 := Lib.hid hown'
        have HB5 : Hid (Below ws.heap.size ws w5) := (HR.out.below.alloc HR.out.below.size _).grown hgrow (by have := HR.out.below.size; simp; omega) (fun g hg => (HO4.out.lt g hg).1)
        clear hown' hgrow
        have hown3 : w5.ownsRow ws.heap.size 2 1 v' (L.length + 3) ((L ++ [0, 0, 0]).map (Value.int .i64)) := by
          have := HO5.out
          rw [List.map_append, show L.length + 3 = 0 + 3 by omega]
          exact this
        obtain ⟨g, cap, A, B, C, len, rfl, hlen, hcap, hA, hB, hC, cA, cB, cC⟩ := own_three hown3
        have hl0 : 0 < len := by omega
        have hl1 : (1 : Int) < len := by omega
        have hl2 : (2 : Int) < len := by omega
        clear hlen
        have HDone := Lib.hid (deed_done HD.out HWS.out HRd.out HLW.out e0 HZ.out hA hB hC)
        clear hown3 hA hB hC
        go_wp2_with fail
        have hgl : g < w5.heap.size := lt_of_cell cA
        go_region_held3 (fun w' => w'.cell? ⟨g, 0, none⟩ = some (.int .i64 A) ∧ w'.cell? ⟨g, 1, none⟩ = some (.int .i64 B) ∧ w'.cell? ⟨g, 2, none⟩ = some (.int .i64 C)) (first | go_keep | (simp [*]; done)) ((fail))
        have HB6 : Hid (Below ws.heap.size ws (w5.alloc (.cells #[.int .i64 z, .int .i64 A, .int .i64 B, .int .i64 C] 23)).drew) := (below_alloc HB5.out _).drew
        have hg0 : ((w5.alloc (.cells #[.int .i64 z, .int .i64 A, .int .i64 B, .int .i64 C] 23)).drew).cell? ⟨w5.heap.size, 0, none⟩ = some (.int .i64 z) := by simp
        have hg1 : ((w5.alloc (.cells #[.int .i64 z, .int .i64 A, .int .i64 B, .int .i64 C] 23)).drew).cell? ⟨w5.heap.size, 1, none⟩ = some (.int .i64 A) := by simp
        have hg2 : ((w5.alloc (.cells #[.int .i64 z, .int .i64 A, .int .i64 B, .int .i64 C] 23)).drew).cell? ⟨w5.heap.size, 2, none⟩ = some (.int .i64 B) := by simp
        have hg3 : ((w5.alloc (.cells #[.int .i64 z, .int .i64 A, .int .i64 B, .int .i64 C] 23)).drew).cell? ⟨w5.heap.size, 3, none⟩ = some (.int .i64 C) := by simp
        generalize (w5.alloc (.cells #[.int .i64 z, .int .i64 A, .int .i64 B, .int .i64 C] 23)).drew = w6 at *
        cases hv : vDeed z A B C with
        | false =>
          have HV := Lib.hid hv
          go_wp2_with fail
          refine (implValidDeed_any tb toff _ _ _ _ _ (fun kk h1 h8 => ((HEs.out.tab.below HB6.out).manyAt kk h1 h8))).mono ?_
          rintro e w7 ⟨he, hB7⟩
          rw [HV.out] at he
          subst he
          have HB7 := Lib.hid (below_call HB6.out hB7)
          clear hB7
          have hz := lt_of_cell (HRes.out 0 (by omega))
          have r0 := cell_below (HRes.out 0 (by omega)) HB7.out
          have r1 := cell_below (HRes.out 1 (by omega)) HB7.out
          have r2 := cell_below (HRes.out 2 (by omega)) HB7.out
          have r3 := cell_below (HRes.out 3 (by omega)) HB7.out
          have f0 : ∀ i, w7.frozen? ⟨w.heap.size, i, none⟩ = false := fun i => (HB7.out.frozen (p := ⟨w.heap.size, i, none⟩) hz).trans (HFrz.out i)
          have hzl := lt_call hz HB7.out
          clear hz
          have hok : ok = false := by
            rcases HDone.out with ⟨_, h, _⟩ | ⟨h, _⟩
            · rw [HV.out] at h; cases h
            · exact h
          subst hok
          go_wp2_with fail
          refine bodyPost_ret (v := .tuple #[.agg #[.int .i64 0, .int .i64 0, .int .i64 0, .int .i64 0], .int .i64 5]) (by simp [results, Tryd.results5, go_sem, r0, r1, r2, r3]) rfl ⟨rfl, ?_⟩
          exact ((((HBs.out.trans (HB7.out.mono HBs.out.size)).setCell (Nat.le_refl _) _).setCell (Nat.le_refl _) _).setCell (Nat.le_refl _) _).setCell (Nat.le_refl _) _
        | true =>
          have HV := Lib.hid hv
          go_wp2_with fail
          refine (implValidDeed_any tb toff _ _ _ _ _ (fun kk h1 h8 => ((HEs.out.tab.below HB6.out).manyAt kk h1 h8))).mono ?_
          rintro e w7 ⟨he, hB7⟩
          rw [HV.out] at he
          subst he
          have HB7 := Lib.hid (below_call HB6.out hB7)
          have hk0 := cell_below hg0 hB7
          have hk1 := cell_below hg1 hB7
          have hk2 := cell_below hg2 hB7
          have hk3 := cell_below hg3 hB7
          clear hg0 hg1 hg2 hg3 hB7
          go_wp2_with fail
          refine (implDeedText_any tb toff _ _ _ _ _ (Lib.hid (HEs.out.below HB7.out).tab) (Lib.hid (HEs.out.below HB7.out).pow)).mono ?_
          rintro e w8 ⟨rfl, hB8⟩
          have HB8 := Lib.hid (below_call HB7.out hB8)
          have hm0 := cell_below hk0 hB8
          have hm1 := cell_below hk1 hB8
          have hm2 := cell_below hk2 hB8
          have hm3 := cell_below hk3 hB8
          clear hk0 hk1 hk2 hk3 hB8
          have hz := lt_of_cell (HRes.out 0 (by omega))
          have r0 := cell_below (HRes.out 0 (by omega)) HB8.out
          have r1 := cell_below (HRes.out 1 (by omega)) HB8.out
          have r2 := cell_below (HRes.out 2 (by omega)) HB8.out
          have r3 := cell_below (HRes.out 3 (by omega)) HB8.out
          have f0 : ∀ i, w8.frozen? ⟨w.heap.size, i, none⟩ = false := fun i => (HB8.out.frozen (p := ⟨w.heap.size, i, none⟩) hz).trans (HFrz.out i)
          have hzl := lt_call hz HB8.out
          clear hz
          cases ht : ((dTextB z A B C).toList == text.toList) with
          | false =>
            have HT := Lib.hid ht
            have hok : ok = false := by
              rcases HDone.out with ⟨_, _, h, _⟩ | ⟨h, _⟩
              · have := HT.out
                rw [h] at this
                simp at this
              · exact h
            subst hok
            go_wp2_with fail
            refine bodyPost_ret (v := .tuple #[.agg #[.int .i64 0, .int .i64 0, .int .i64 0, .int .i64 0], .int .i64 5]) (by simp [results, Tryd.results5, go_sem, r0, r1, r2, r3]) rfl ⟨rfl, ?_⟩
            exact ((((HBs.out.trans (HB8.out.mono HBs.out.size)).setCell (Nat.le_refl _) _).setCell (Nat.le_refl _) _).setCell (Nat.le_refl _) _).setCell (Nat.le_refl _) _
          | true =>
            have HT := Lib.hid ht
            have hdone : ok = true ∧ k0 = z ∧ a0 = A ∧ b0 = B ∧ c0 = C := by
              rcases HDone.out with ⟨h1, _, _, h4⟩ | ⟨_, h⟩
              · exact ⟨h1, h4⟩
              · exact absurd ⟨HV.out, toList_eq' HT.out⟩ h
            obtain ⟨rfl, rfl, rfl, rfl, rfl⟩ := hdone
            go_wp2_with fail
            refine bodyPost_ret (v := .tuple #[.agg #[.int .i64 k0, .int .i64 a0, .int .i64 b0, .int .i64 c0], .int .i64 0]) (by simp [results, Tryd.results5, go_sem, r0, r1, r2, r3]) rfl ⟨rfl, ?_⟩
            exact ((((HBs.out.trans (HB8.out.mono HBs.out.size)).setCell (Nat.le_refl _) _).setCell (Nat.le_refl _) _).setCell (Nat.le_refl _) _).setCell (Nat.le_refl _) _
  · -- from 1
    go_loopw [5, 21] (fun v i wr => ∃ (j : Nat) (L : List Int), j ≤ (n - 1) ∧ i = .int .i64 j ∧ L.length = j ∧ Hid (RDI ws wr v L) ∧ Hid (Reads WS L)) (fun _ i _ => (n - 1) - (intOf i).toNat)
    case atStart => exact ⟨0, [], by omega, rfl, rfl, ⟨HB3.out, HO3.out⟩, fun j s hj => absurd hj (Nat.not_lt_zero _)⟩
    case round =>
      obtain ⟨j, L, hj, rfl, hL, HR, HRd⟩ := hrel
      by_cases hlt : j < (n - 1)
      · have hltI : (j : Int) < ((n - 1) : Nat) := by omega
        obtain ⟨s, es⟩ : ∃ s, WS[j + 1]? = some s := ⟨_, List.getElem?_eq_getElem (by rw [HN.out]; omega)⟩
        have cj : wr.cell? ⟨w.heap.size + 1, 1 + j, none⟩ = some (.string s) := by
          have := cell_below (HRow.out (j + 1) s es) HR.out.below
          rwa [Nat.add_comm j 1] at this
        have hss : s.size ≤ 1048576 := by
          have h1 : s.data.toList ∈ splitL 32 text.data.toList := by
            rw [← HWS.out]
            exact List.mem_map_of_mem (List.mem_of_getElem? es)
          have h2 := splitL_mem_len _ _ _ h1
          have h3 := Lib.size_eq text
          have h4 := Lib.size_eq s
          omega
        have ES := Lib.hid es
        clear es
        go_wp2_with fail
        obtain ⟨ev, hv, hev⟩ := (HEs.out.below HR.out.below).syn
        obtain ⟨er, hr, her⟩ := (HEs.out.below HR.out.below).rng
        refine (readDecimal_any s hss _ (HEs.out.below HR.out.below).pow ev hv hev er hr her).mono ?_
        rintro e w4 ⟨nn, b, rfl, hB4, hread⟩
        have HRD := Lib.hid hread
        have HB4 := Lib.hid hB4
        clear hread hB4 hv hev hr her
        have HB5 := Lib.hid (below_call HR.out.below HB4.out)
        cases b with
        | false =>
          have hz := lt_of_cell (HRes.out 0 (by omega))
          have r0 := cell_below (HRes.out 0 (by omega)) HB5.out
          have r1 := cell_below (HRes.out 1 (by omega)) HB5.out
          have r2 := cell_below (HRes.out 2 (by omega)) HB5.out
          have r3 := cell_below (HRes.out 3 (by omega)) HB5.out
          have f0 : ∀ i, w4.frozen? ⟨w.heap.size, i, none⟩ = false := fun i => (HB5.out.frozen (p := ⟨w.heap.size, i, none⟩) hz).trans (HFrz.out i)
          have hok : ok = false := by
            cases ok with
            | false => rfl
            | true =>
              obtain ⟨u, hu, he⟩ := deed_small HD.out HWS.out j s ES.out
              have := (HRD.out u hu he).2
              cases this
          subst hok
          clear hz
          go_wp2_with fail
          refine bodyPost_ret (v := .tuple #[.agg #[.int .i64 0, .int .i64 0, .int .i64 0, .int .i64 0], .int .i64 5]) (by simp [results, Tryd.results5, go_sem, r0, r1, r2, r3]) rfl ⟨rfl, ?_⟩
          exact ((((HBs.out.trans (HB5.out.mono HBs.out.size)).setCell (Nat.le_refl _) _).setCell (Nat.le_refl _) _).setCell (Nat.le_refl _) _).setCell (Nat.le_refl _) _
        | true =>
          have HO4 := Lib.hid (own_below HR.out.own HB4.out)
          go_wp2_with (at_builtin; (refine wpList_append_own _ rfl _ _ 35 rfl ws.heap.size 2 i0 (.int .i64 0) 1 8 Tryd.underlying35 hi hz0 hz1 hz2 rfl (by decide) _ _ _ rfl (World.ownsRow.alloc HO4.out _) ⟨w4.heap.size, 0, none⟩ 1 1 [.int .i64 nn] rfl rfl ?c1 ?c2 ?c3 ?c4 ?c5 ?_))
          case c1 => exact cell_one_new _ _ _
          case c2 => intro u hu; simp at hu; subst hu; rfl
          case c3 => unfold maxLen; omega
          case c4 => omega
          case c5 => have := HB5.out.size; simp; omega
          intro v' w5 hown' hgrow _
          have HO5 := Lib.hid hown'
          have HG := Lib.hid hgrow
          clear hown' hgrow
          go_wp2_with fail
          go_roundw
          case rel =>
            refine ⟨j + 1, L ++ [nn], by omega, by go_num, by simp [hL], ⟨?_, ?_⟩, fun i s' hi hs' u hu he => ?_⟩
            · exact (HB5.out.alloc HB5.out.size _).grown HG.out (by have := HB5.out.size; simp; omega) (fun g hg => (HO4.out.lt g hg).1)
            · have := HO5.out
              rw [List.map_append, List.length_append, hL]
              exact this
            · rcases Nat.lt_or_ge i L.length with hl | hl
              · rw [List.getElem?_append_left hl]
                exact HRd.out i s' hl hs' u hu he
              · have hij : i = j := by simp at hi; omega
                subst hij
                have := ES.out
                rw [hs'] at this
                rw [List.getElem?_append_right hl, hL, Nat.sub_self]
                have := (HRD.out u hu (by rw [← Option.some.inj this]; exact he)).1
                simp [this]
          case measure => simp [intOf]; omega
      · -- done
        have hje : j = (n - 1) := by omega
        have hltI : ¬ ((j : Int) < ((n - 1) : Nat)) := by omega
        have hlt0 : ¬ ((j : Int) < (0 : Int)) := by omega
        have HO4 := Lib.hid HR.out.own
        have HLW : Hid (L.length + 1 = WS.length) := by
          show _ = _
          rw [HN.out]
          omega
        go_wp2_with (at_builtin; (refine wpList_append_own _ rfl _ _ 35 rfl ws.heap.size 2 i0 (.int .i64 0) 1 8 Tryd.underlying35 hi hz0 hz1 hz2 rfl (by decide) _ _ _ rfl (World.ownsRow.alloc HO4.out _) ⟨wr.heap.size, 0, none⟩ 3 3 [.int .i64 0, .int .i64 0, .int .i64 0] rfl rfl (cell_three_new _ _ _ _ _) (by intro u hu; simp at hu; subst hu; rfl) (by unfold maxLen; omega) (by omega) (by have := HR.out.below.size; simp; omega) ?_))
        intro v' w5 hown' hgrow _
        have HO5 := Lib.hid hown'
        have HB5 : Hid (Below ws.heap.size ws w5) := (HR.out.below.alloc HR.out.below.size _).grown hgrow (by have := HR.out.below.size; simp; omega) (fun g hg => (HO4.out.lt g hg).1)
        clear hown' hgrow
        have hown3 : w5.ownsRow ws.heap.size 2 1 v' (L.length + 3) ((L ++ [0, 0, 0]).map (Value.int .i64)) := by
          have := HO5.out
          rw [List.map_append, show L.length + 3 = (n - 1) + 3 by omega]
          exact this
        obtain ⟨g, cap, A, B, C, len, rfl, hlen, hcap, hA, hB, hC, cA, cB, cC⟩ := own_three hown3
        have hl0 : 0 < len := by omega
        have hl1 : (1 : Int) < len := by omega
        have hl2 : (2 : Int) < len := by omega
        clear hlen
        have HDone := Lib.hid (deed_done HD.out HWS.out HRd.out HLW.out e0 HZ.out hA hB hC)
        clear hown3 hA hB hC
        go_wp2_with fail
        have hgl : g < w5.heap.size := lt_of_cell cA
        go_region_held3 (fun w' => w'.cell? ⟨g, 0, none⟩ = some (.int .i64 A) ∧ w'.cell? ⟨g, 1, none⟩ = some (.int .i64 B) ∧ w'.cell? ⟨g, 2, none⟩ = some (.int .i64 C)) (first | go_keep | (simp [*]; done)) ((fail))
        have HB6 : Hid (Below ws.heap.size ws (w5.alloc (.cells #[.int .i64 z, .int .i64 A, .int .i64 B, .int .i64 C] 23)).drew) := (below_alloc HB5.out _).drew
        have hg0 : ((w5.alloc (.cells #[.int .i64 z, .int .i64 A, .int .i64 B, .int .i64 C] 23)).drew).cell? ⟨w5.heap.size, 0, none⟩ = some (.int .i64 z) := by simp
        have hg1 : ((w5.alloc (.cells #[.int .i64 z, .int .i64 A, .int .i64 B, .int .i64 C] 23)).drew).cell? ⟨w5.heap.size, 1, none⟩ = some (.int .i64 A) := by simp
        have hg2 : ((w5.alloc (.cells #[.int .i64 z, .int .i64 A, .int .i64 B, .int .i64 C] 23)).drew).cell? ⟨w5.heap.size, 2, none⟩ = some (.int .i64 B) := by simp
        have hg3 : ((w5.alloc (.cells #[.int .i64 z, .int .i64 A, .int .i64 B, .int .i64 C] 23)).drew).cell? ⟨w5.heap.size, 3, none⟩ = some (.int .i64 C) := by simp
        generalize (w5.alloc (.cells #[.int .i64 z, .int .i64 A, .int .i64 B, .int .i64 C] 23)).drew = w6 at *
        cases hv : vDeed z A B C with
        | false =>
          have HV := Lib.hid hv
          go_wp2_with fail
          refine (implValidDeed_any tb toff _ _ _ _ _ (fun kk h1 h8 => ((HEs.out.tab.below HB6.out).manyAt kk h1 h8))).mono ?_
          rintro e w7 ⟨he, hB7⟩
          rw [HV.out] at he
          subst he
          have HB7 := Lib.hid (below_call HB6.out hB7)
          clear hB7
          have hz := lt_of_cell (HRes.out 0 (by omega))
          have r0 := cell_below (HRes.out 0 (by omega)) HB7.out
          have r1 := cell_below (HRes.out 1 (by omega)) HB7.out
          have r2 := cell_below (HRes.out 2 (by omega)) HB7.out
          have r3 := cell_below (HRes.out 3 (by omega)) HB7.out
          have f0 : ∀ i, w7.frozen? ⟨w.heap.size, i, none⟩ = false := fun i => (HB7.out.frozen (p := ⟨w.heap.size, i, none⟩) hz).trans (HFrz.out i)
          have hzl := lt_call hz HB7.out
          clear hz
          have hok : ok = false := by
            rcases HDone.out with ⟨_, h, _⟩ | ⟨h, _⟩
            · rw [HV.out] at h; cases h
            · exact h
          subst hok
          go_wp2_with fail
          refine bodyPost_ret (v := .tuple #[.agg #[.int .i64 0, .int .i64 0, .int .i64 0, .int .i64 0], .int .i64 5]) (by simp [results, Tryd.results5, go_sem, r0, r1, r2, r3]) rfl ⟨rfl, ?_⟩
          exact ((((HBs.out.trans (HB7.out.mono HBs.out.size)).setCell (Nat.le_refl _) _).setCell (Nat.le_refl _) _).setCell (Nat.le_refl _) _).setCell (Nat.le_refl _) _
        | true =>
          have HV := Lib.hid hv
          go_wp2_with fail
          refine (implValidDeed_any tb toff _ _ _ _ _ (fun kk h1 h8 => ((HEs.out.tab.below HB6.out).manyAt kk h1 h8))).mono ?_
          rintro e w7 ⟨he, hB7⟩
          rw [HV.out] at he
          subst he
          have HB7 := Lib.hid (below_call HB6.out hB7)
          have hk0 := cell_below hg0 hB7
          have hk1 := cell_below hg1 hB7
          have hk2 := cell_below hg2 hB7
          have hk3 := cell_below hg3 hB7
          clear hg0 hg1 hg2 hg3 hB7
          go_wp2_with fail
          refine (implDeedText_any tb toff _ _ _ _ _ (Lib.hid (HEs.out.below HB7.out).tab) (Lib.hid (HEs.out.below HB7.out).pow)).mono ?_
          rintro e w8 ⟨rfl, hB8⟩
          have HB8 := Lib.hid (below_call HB7.out hB8)
          have hm0 := cell_below hk0 hB8
          have hm1 := cell_below hk1 hB8
          have hm2 := cell_below hk2 hB8
          have hm3 := cell_below hk3 hB8
          clear hk0 hk1 hk2 hk3 hB8
          have hz := lt_of_cell (HRes.out 0 (by omega))
          have r0 := cell_below (HRes.out 0 (by omega)) HB8.out
          have r1 := cell_below (HRes.out 1 (by omega)) HB8.out
          have r2 := cell_below (HRes.out 2 (by omega)) HB8.out
          have r3 := cell_below (HRes.out 3 (by omega)) HB8.out
          have f0 : ∀ i, w8.frozen? ⟨w.heap.size, i, none⟩ = false := fun i => (HB8.out.frozen (p := ⟨w.heap.size, i, none⟩) hz).trans (HFrz.out i)
          have hzl := lt_call hz HB8.out
          clear hz
          cases ht : ((dTextB z A B C).toList == text.toList) with
          | false =>
            have HT := Lib.hid ht
            have hok : ok = false := by
              rcases HDone.out with ⟨_, _, h, _⟩ | ⟨h, _⟩
              · have := HT.out
                rw [h] at this
                simp at this
              · exact h
            subst hok
            go_wp2_with fail
            refine bodyPost_ret (v := .tuple #[.agg #[.int .i64 0, .int .i64 0, .int .i64 0, .int .i64 0], .int .i64 5]) (by simp [results, Tryd.results5, go_sem, r0, r1, r2, r3]) rfl ⟨rfl, ?_⟩
            exact ((((HBs.out.trans (HB8.out.mono HBs.out.size)).setCell (Nat.le_refl _) _).setCell (Nat.le_refl _) _).setCell (Nat.le_refl _) _).setCell (Nat.le_refl _) _
          | true =>
            have HT := Lib.hid ht
            have hdone : ok = true ∧ k0 = z ∧ a0 = A ∧ b0 = B ∧ c0 = C := by
              rcases HDone.out with ⟨h1, _, _, h4⟩ | ⟨_, h⟩
              · exact ⟨h1, h4⟩
              · exact absurd ⟨HV.out, toList_eq' HT.out⟩ h
            obtain ⟨rfl, rfl, rfl, rfl, rfl⟩ := hdone
            go_wp2_with fail
            refine bodyPost_ret (v := .tuple #[.agg #[.int .i64 k0, .int .i64 a0, .int .i64 b0, .int .i64 c0], .int .i64 0]) (by simp [results, Tryd.results5, go_sem, r0, r1, r2, r3]) rfl ⟨rfl, ?_⟩
            exact ((((HBs.out.trans (HB8.out.mono HBs.out.size)).setCell (Nat.le_refl _) _).setCell (Nat.le_refl _) _).setCell (Nat.le_refl _) _).setCell (Nat.le_refl _) _
end Go.Proofs.YtnbaapofjmjgiaaDoor
