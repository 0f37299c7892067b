/- slices.Grow and slices.Concat at steps. -/
import Derived.Test.YtdleofaikjkndaaDoorPlanSR
import Derived.Lib.AppendZerosOnto
namespace Go.Proofs.YtdleofaikjkndaaDoor
open Go.RowKit Go.Proofs.YtdleofaikjkndaaDoorW.PrintWords Go.Proofs.YtdleofaikjkndaaDoor.PFnExactJoinPlans

def EmptyPost (w : World) (e : Ending) (w' : World) : Prop := ∃ v : Value, e = .returned v ∧ Kd.S k53 53 w' w.heap.size (fun _ => True) v [] ∧ Below w.heap.size w w'

theorem S_empty (w : World) (cur : Array Value) (cap base : Nat) (hb : base ≤ w.heap.size) (hm : cap ≤ maxLen) (hs : cur.size = cap * 4) :
    Kd.S k53 53 (w.alloc (.cells cur 53)) base (fun _ => True) (.slice (some ⟨w.heap.size, 0, none⟩) 0 cap) [] :=
  ⟨fun _ => 0, fun _ _ => trivial, [], World.ownsRow_made w cur cap hb hm hs, Reps.none _ _⟩

set_option maxRecDepth 100000 in
set_option maxHeartbeats 4000000 in
theorem growSteps_any (n : Nat) (w : World) (hn : n ≤ 1048576) :
    Calls Tryd.prog 43 #[.slice none 0 0, .int .i64 n] w (EmptyPost w) := by
  rcases Nat.eq_zero_or_pos n with rfl | hpos
  · go_enter Tryd.func43, Tryd.ntmps43
    go_wp2_with fail
    go_ret
    exact ⟨_, rfl, Kd.S_nil _ _ _ _ _, Below.refl _ _⟩
  · obtain ⟨i0, hi, hz0, hz1, hz2⟩ := info_parts info53
    have hfit : Builtin.nextslicecap (0 + n) 0 * i0.bytes ≤ 281474976710656 := by
      rw [hz2]
      exact growslice_fits (by omega) (by omega)
    have hap := Lib.run_append_grow_zeros (P := Tryd.prog) w 26 3 26 53 i0 _ .i64 .i64 Tryd.underlying26 Tryd.underlying3 hi hz0 none 0 0 [] (by simpa using run_firstCells_none w.drew i0.size 0 0 0) n hpos (by rw [hz1]; omega) (by omega) (by omega) (by rw [hz2]; omega) hfit
    simp only [Nat.zero_add] at hap
    have hG : n ≤ grownCap w n 0 53 := grownCap_ge w _ _ _
    have hG63 := grownCap_le_maxLen w n 0 53 (by unfold maxLen; omega)
    generalize hg : grownCap w n 0 53 = G at *
    have hG64 : G ≤ 9223372036854775807 := by unfold maxLen at hG63; omega
    have hsz : ∀ z : Value, z.cells.size = 4 → ((#[] : Array Value) ++ Builtin.zeroCells z.cells n ++ Builtin.zeroCells z.cells (G - n)).size = G * 4 := by
      intro z hz
      simp [Builtin.zeroCells, hz]
      omega
    have hs4 := hsz (.agg #[(.int .i64 0), (.int .i64 0), (.int .i64 0), (.slice none 0 0)]) rfl
    have HE := Lib.hid (S_empty w.drew _ G w.heap.size (Nat.le_refl _) hG63 hs4)
    have HA : Hid (∀ W1, w.drew.alloc (.cells ((#[] : Array Value) ++ Builtin.zeroCells (Value.agg #[(.int .i64 0), (.int .i64 0), (.int .i64 0), (.slice none 0 0)]).cells n ++ Builtin.zeroCells (Value.agg #[(.int .i64 0), (.int .i64 0), (.int .i64 0), (.slice none 0 0)]).cells (G - n)) 53) = W1 → Below w.heap.size w W1) := by
      rintro W1 rfl
      exact below_alloc (w := w) ((Below.refl _ _).drew) _
    clear hsz hs4 hfit hg hz0 hz1 hz2 hi
    generalize hW1 : w.drew.alloc _ = W1 at hap
    have HW := Lib.hid hW1
    clear hW1
    go_enter Tryd.func43, Tryd.ntmps43
    go_wp2_with (at_builtin; refine Lib.wpList_append_run _ rfl _ _ _ _ rfl _ _ rfl rfl _ _ hap ?_)
    go_ret
    refine ⟨_, rfl, ?_, HA.out _ HW.out⟩
    rw [← HW.out]
    exact HE.out
/-- A row among those that are put together. -/
structure RowD where
  A : Option Addr
  c : Nat
  xs : List S53
  ok : Nat → Prop
structure RowsAt (w : World) (g base : Nat) (rows : List RowD) : Prop where
  cell : ∀ (j : Nat) r, rows[j]? = some r → w.cell? ⟨g, j, none⟩ = some (.slice r.A r.xs.length r.c)
  sr : ∀ (j : Nat) r, rows[j]? = some r → SR k53 w base r.ok r.A r.xs.length r.xs
  apart : ∀ (i j : Nat) r q k, rows[i]? = some r → rows[j]? = some q → r.ok k → q.ok k → i = j
theorem RowsAt.below {w w1 : World} {g base : Nat} {rows : List RowD} (h : RowsAt w g base rows) (hb : Below w.heap.size w w1) : RowsAt w1 g base rows :=
  ⟨fun j r hr => cell_below (h.cell j r hr) hb, fun j r hr => SR_below (h.sr j r hr) hb, h.apart⟩

def lens (rows : List RowD) : Nat := (rows.map fun r => r.xs.length).sum
def cat (rows : List RowD) : List S53 := (rows.map fun r => r.xs).flatten
theorem lens_cat (rows : List RowD) : (cat rows).length = lens rows := by simp [lens, cat, List.length_flatten, List.map_map]; rfl
theorem lens_take {rows : List RowD} {k : Nat} {r : RowD} (h : rows[k]? = some r) : lens (rows.take (k + 1)) = lens (rows.take k) + r.xs.length := by
  obtain ⟨hk, e⟩ := List.getElem?_eq_some_iff.1 h
  rw [List.take_succ_eq_append_getElem hk, e]
  simp [lens]
theorem cat_take {rows : List RowD} {k : Nat} {r : RowD} (h : rows[k]? = some r) : cat (rows.take (k + 1)) = cat (rows.take k) ++ r.xs := by
  obtain ⟨hk, e⟩ := List.getElem?_eq_some_iff.1 h
  rw [List.take_succ_eq_append_getElem hk, e]
  simp [cat]
theorem lens_le (rows : List RowD) (k : Nat) : lens (rows.take k) ≤ lens rows := by
  have h : lens rows = lens (rows.take k) + lens (rows.drop k) := by
    conv => lhs; rw [← List.take_append_drop k rows]
    simp only [lens, List.map_append, List.sum_append]
  omega

def ConcatPost (base : Nat) (rows : List RowD) (w : World) (e : Ending) (w' : World) : Prop :=
  ∃ v : Value, e = .returned v ∧ Kd.S k53 53 w' base (fun q => (∃ (j : Nat) (r : RowD), rows[j]? = some r ∧ r.ok q) ∨ w.heap.size ≤ q) v (cat rows) ∧ Below w.heap.size w w'
/-- What is owned behind k rows. -/
def Acc (w : World) (rows : List RowD) (k q : Nat) : Prop := (∃ (j : Nat) (r : RowD), j < k ∧ rows[j]? = some r ∧ r.ok q ∧ q < w.heap.size) ∨ w.heap.size ≤ q

set_option maxRecDepth 100000 in
set_option maxHeartbeats 4000000 in
theorem concat_any (g c base : Nat) (rows : List RowD) (w : World) (hrn : rows.length ≤ 100) (hb : base ≤ w.heap.size) (hl : lens rows ≤ 1048576) (HW : Hid (RowsAt w g base rows)) :
    Calls Tryd.prog 25 #[.slice (some ⟨g, 0, none⟩) rows.length c] w (ConcatPost base rows w) := by
  have HB0 := Lib.hid hb
  clear hb
  go_enter Tryd.func25, Tryd.ntmps25
  go_wp2_with fail
  go_loop [3, 11] (fun sz i => ∃ k : Nat, k ≤ rows.length ∧ i = .int .i64 k ∧ sz = .int .i64 (lens (rows.take k) : Nat)) (fun _ i => rows.length - (intOf i).toNat)
  case atStart => exact ⟨0, by omega, rfl, rfl⟩
  case round =>
    obtain ⟨k, hk, rfl, rfl⟩ := hrel
    have hle := lens_le rows k
    by_cases hlt : k < rows.length
    · obtain ⟨r, hr⟩ : ∃ r, rows[k]? = some r := ⟨_, List.getElem?_eq_getElem hlt⟩
      have hc := HW.out.cell k r hr
      have hle2 := lens_le rows (k + 1)
      have ht := lens_take hr
      have HT := Lib.hid ht
      have hsum : lens (rows.take k) + r.xs.length ≤ 1048576 := by omega
      have hltI : (k : Int) < rows.length := by omega
      clear ht hle2
      go_wp2_with fail
      go_round
      case rel => exact ⟨k + 1, by omega, by go_num, by rw [HT.out]; go_num⟩
      case measure => simp [intOf]; omega
    · obtain rfl : k = rows.length := by omega
      have he : rows.take rows.length = rows := List.take_length
      simp only [he] at *
      go_wp2_with fail
      refine (growSteps_any (lens rows) _ hl).mono ?_
      rintro e w1 ⟨v1, rfl, ho1, hb1⟩
      have hvb : ∀ q, v1.ownBlock = some q → w.heap.size ≤ q := Kd.S_base ho1
      have HV := Lib.hid hvb
      have HO1 : Hid (Kd.S k53 53 w1 base (Acc w rows 0) v1 []) := Kd.S_lower (Kd.S_mono (Kd.S_bound ho1) (fun q hq => .inr hq.2.1)) HB0.out
      have HB1 := Lib.hid hb1
      clear hvb ho1 hb1 he
      go_wp2_with fail
      go_loopw [6, 27] (fun sv i wr => ∃ (k : Nat) (v : Value), v = sv ∧ k ≤ rows.length ∧ i = .int .i64 k ∧ Hid (Kd.S k53 53 wr base (Acc w rows k) v (cat (rows.take k))) ∧ Hid (∀ q, v.ownBlock = some q → w.heap.size ≤ q) ∧ Hid (Below w.heap.size w wr)) (fun _ i _ => rows.length - (intOf i).toNat)
      case atStart => exact ⟨0, _, rfl, by omega, rfl, HO1.out, HV.out, HB1.out⟩
      case round =>
        clear HO1 HV HB1
        obtain ⟨k, v, rfl, hk, rfl, HO, HV, HB⟩ := hrel
        by_cases hlt : k < rows.length
        · obtain ⟨r, hr⟩ : ∃ r, rows[k]? = some r := ⟨_, List.getElem?_eq_getElem hlt⟩
          have hc := (HW.out.below HB.out).cell k r hr
          have hltI : (k : Int) < rows.length := by omega
          have HL : Hid (((cat (rows.take k)).length + r.xs.length) * 48 ≤ 140737488355328) := by
            unfold Hid
            have h1 := lens_le rows (k + 1)
            rw [lens_take hr] at h1
            rw [lens_cat]
            omega
          have HC := Lib.hid (cat_take hr)
          have HR : Hid (SR k53 wr base (fun q => r.ok q ∧ q < w.heap.size) r.A r.xs.length r.xs) := SR_below (SR_mono (SR_bound (HW.out.sr k r hr)) (fun q hq => ⟨hq.1, hq.2.2.1⟩)) HB.out
          have HO' : Hid (Kd.S k53 53 wr base (fun q => Acc w rows (k + 1) q ∧ ¬ (r.ok q ∧ q < w.heap.size)) v (cat (rows.take k))) := by
            refine Kd.S_mono HO.out (fun q hq => ?_)
            rcases hq with ⟨j, r', hj, hr', hok, hq⟩ | hq
            · refine ⟨.inl ⟨j, r', by omega, hr', hok, hq⟩, fun h => ?_⟩
              have := HW.out.apart j k r' r q hr' hr hok h.1
              omega
            · exact ⟨.inr hq, fun h => by omega⟩
          have HP : Hid (∀ q, (r.ok q ∧ q < w.heap.size) → Acc w rows (k + 1) q ∧ some q ≠ v.ownBlock) := fun q hq => ⟨.inl ⟨k, r, by omega, hr, hq.1, hq.2⟩, fun e => by have := HV.out q e.symm; omega⟩
          have HF : Hid (∀ q, wr.heap.size ≤ q → Acc w rows (k + 1) q) := fun q hq => .inr (Nat.le_trans HB.out.size hq)
          clear HO
          go_wp2_with ((with_reducible refine gate_builtin (b := .append) (xs := #[.tmp 31, .tmp 32]) rfl ?_); at_builtin; refine S_append_SR k53 base rfl (.tmp 31) (.tmp 32) 26 53 (.agg #[(.int .i64 0), (.int .i64 0), (.int .i64 0), (.slice none 0 0)]) 48 rfl Tryd.underlying26 info53 rfl (by decide) (by omega) v _ r.xs r.A r.xs.length r.c (Acc w rows (k + 1)) (fun q => r.ok q ∧ q < w.heap.size) rfl rfl HO'.out HR.out HP.out HF.out (Nat.le_trans HB0.out HB.out.size) HL.out ?_; intro v2 w2 ho hg hat; have m0 := Lib.hid ho; have m1 : Hid (∀ q, v2.ownBlock = some q → w.heap.size ≤ q) := (by intro q hq; rcases hat with hat | ⟨b, hb, hle⟩; exact HV.out q (hat ▸ hq); rw [hb] at hq; cases hq; exact Nat.le_trans HB.out.size hle); have m2 : Hid (Below w.heap.size w w2) := HB.out.grown hg HB.out.size HV.out; clear HO' HV HB HP HF HR HL ho hg hat; have HO := m0; have HV := m1; have HB := m2; clear m0 m1 m2)
          go_roundw
          case rel => exact ⟨k + 1, _, rfl, by omega, by go_num, by unfold Hid; rw [HC.out]; exact HO.out, HV.out, HB.out⟩
          case measure => simp [intOf]; omega
        · obtain rfl : k = rows.length := by omega
          go_wp2_with fail
          go_ret
          refine ⟨_, rfl, ?_, HB.out⟩
          have h := HO.out
          rw [List.take_length] at h
          refine Kd.S_mono h (fun q hq => ?_)
          rcases hq with ⟨j, r, _, hr, hok, _⟩ | hq
          · exact .inl ⟨j, r, hr, hok⟩
          · exact .inr hq
end Go.Proofs.YtdleofaikjkndaaDoor
