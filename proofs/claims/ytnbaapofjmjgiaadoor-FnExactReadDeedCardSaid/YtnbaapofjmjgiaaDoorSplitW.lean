/- The walk of the reference's l01Split: the words of a text, in memory of the call's own. -/
import Derived.Test.YtnbaapofjmjgiaaDoorProg
import Derived.Test.YtnbaapofjmjgiaaDoorBase
import Derived.Test.YtnbaapofjmjgiaaDoorSplitP
import Derived.OwnWalk
namespace Go.Proofs.YtnbaapofjmjgiaaDoor
open Go.RowKit

theorem Tryd.infoString : (Tryd.prog.info? 9).map (fun i => (i.zero, i.size, i.bytes)) = some (some (.string ⟨#[]⟩), 1, 16) := by kernel_rfl

/-- Words in a slice of the call's own. -/
def Words (B : Nat) (w' : World) (v : Value) (WS : List ByteArray) : Prop := w'.ownsRow B 9 1 v WS.length (WS.map Value.string)
def SplitPost (c : UInt8) (s : ByteArray) (w : World) (e : Ending) (w' : World) : Prop :=
  ∃ v WS, e = .returned v ∧ WS.map (·.data.toList) = splitL c s.data.toList ∧ Words w.heap.size w' v WS ∧ Below w.heap.size w w'

/-- What the loop holds behind k bytes: the words before place f, and no cut between f and k. -/
def Cut (c : UInt8) (s : ByteArray) (k f : Nat) (WS : List ByteArray) : Prop :=
  f ≤ k ∧ WS.length ≤ k ∧ WS.map (·.data.toList) ++ splitL c (s.data.toList.drop f) = splitL c s.data.toList ∧ c ∉ (s.data.toList.drop f).take (k - f)
theorem Cut.zero (c : UInt8) (s : ByteArray) : Cut c s 0 0 [] := ⟨Nat.le_refl _, Nat.le_refl _, by simp, by simp⟩
theorem Cut.miss {c : UInt8} {s : ByteArray} {k f : Nat} {WS : List ByteArray} (h : Cut c s k f WS) (hk : k < s.size) (hne : s[k] ≠ c) : Cut c s (k + 1) f WS := by
  obtain ⟨h1, h2, h3, h4⟩ := h
  refine ⟨by omega, by omega, h3, ?_⟩
  have hl : k - f < (s.data.toList.drop f).length := by rw [List.length_drop, ← Lib.size_eq]; omega
  rw [show k + 1 - f = k - f + 1 by omega, List.take_succ_eq_append_getElem hl]
  intro hm
  rcases List.mem_append.1 hm with hm | hm
  · exact h4 hm
  · have e : (s.data.toList.drop f)[k - f] = s[k] := by
      rw [List.getElem_drop]
      have : f + (k - f) = k := by omega
      simp only [this]
      rfl
    rw [e] at hm
    exact hne (List.mem_singleton.1 hm).symm
theorem Cut.hit {c : UInt8} {s : ByteArray} {k f : Nat} {WS : List ByteArray} (h : Cut c s k f WS) (hk : k < s.size) (he : s[k] = c) : Cut c s (k + 1) (k + 1) (WS ++ [s.extract f k]) := by
  obtain ⟨h1, h2, h3, h4⟩ := h
  refine ⟨Nat.le_refl _, by simp; omega, ?_, by simp⟩
  have hl : k - f < (s.data.toList.drop f).length := by rw [List.length_drop, ← Lib.size_eq]; omega
  have e : s.data.toList.drop f = (s.data.toList.drop f).take (k - f) ++ c :: s.data.toList.drop (k + 1) := by
    have e1 : (s.data.toList.drop f)[k - f] = c := by
      rw [List.getElem_drop]
      have : f + (k - f) = k := by omega
      simp only [this]
      exact he
    conv => lhs; rw [← List.take_append_drop (k - f) (s.data.toList.drop f)]
    rw [List.drop_eq_getElem_cons hl, e1, List.drop_drop, show f + (k - f + 1) = k + 1 by omega]
  rw [← h3, e, splitL_cut _ _ _ h4, List.map_append, List.append_assoc, List.map_singleton, List.singleton_append, Lib.extract_data]
theorem Cut.end_ {c : UInt8} {s : ByteArray} {f : Nat} {WS : List ByteArray} (h : Cut c s s.size f WS) : (WS ++ [s.extract f s.size]).map (·.data.toList) = splitL c s.data.toList := by
  obtain ⟨h1, h2, h3, h4⟩ := h
  have hn : c ∉ s.data.toList.drop f := by
    rwa [List.take_of_length_le (by rw [List.length_drop, ← Lib.size_eq]; omega)] at h4
  rw [← h3, splitL_none _ _ hn, List.map_append, List.map_singleton, Lib.extract_to_end]

set_option maxHeartbeats 1000000 in
theorem l01Split_any (s : ByteArray) (c : UInt8) (w : World) (hs : s.size ≤ 1048576) :
    Calls Tryd.prog 7 #[.string s, .int .u8 c.toNat] w (SplitPost c s w) := by
  obtain ⟨i0, hi, hz0, hz1, hz2⟩ := info_parts Tryd.infoString
  go_enter Tryd.func7, Tryd.ntmps7
  go_wp2_with fail
  go_loopw [5, 6, 7] (fun v fr i wr => ∃ (k f : Nat) (WS : List ByteArray), k ≤ s.size ∧ i = .int .i64 k ∧ fr = .int .i64 f ∧ Cut c s k f WS ∧ Words w.heap.size wr v WS ∧ Below w.heap.size w wr) (fun _ _ i _ => s.size - (intOf i).toNat)
  case atStart => exact ⟨0, 0, [], by omega, rfl, rfl, Cut.zero _ _, World.ownsRow_made w #[] 0 (Nat.le_refl _) (by simp) rfl, (Below.refl _ _).alloc (Nat.le_refl _) _⟩
  case round =>
    obtain ⟨k, f, WS, hk, rfl, rfl, hcut, hown, hB⟩ := hrel
    have hfk : f ≤ k := hcut.1
    have hwk : WS.length ≤ k := hcut.2.1
    have HC := Lib.hid hcut
    have HO := Lib.hid hown
    have HB := Lib.hid hB
    clear hcut hown hB
    by_cases hlt : k < s.size
    · by_cases he : s[k] = c
      · have he' : ((s[k].toNat : Int) == (c.toNat : Int)) = true := by rw [he]; simp
        have HE := Lib.hid he
        clear he
        go_wp2_with (at_builtin; (refine wpList_append_own _ rfl _ _ 28 rfl w.heap.size 9 i0 (.string ⟨#[]⟩) 1 16 Tryd.underlying28 hi hz0 hz1 hz2 rfl (by decide) _ _ _ rfl (World.ownsRow.alloc HO.out _) ⟨wr.heap.size, 0, none⟩ 1 1 [.string (s.extract f k)] rfl rfl ?c1 ?c2 ?c3 ?c4 ?c5 ?_))
        case c1 => exact cell_one_new _ _ _
        case c2 => intro u hu; simp at hu; subst hu; rfl
        case c3 => unfold maxLen; omega
        case c4 => omega
        case c5 => have := HB.out.size; simp; omega
        intro v' w1 hown' hgrow _
        have HO1 := Lib.hid hown'
        have HG := Lib.hid hgrow
        clear hown' hgrow
        go_wp2
        go_roundw
        case rel =>
          refine ⟨k + 1, k + 1, WS ++ [s.extract f k], by omega, by go_num, by go_num, HC.out.hit hlt HE.out, ?_, ?_⟩
          · have := HO1.out
            unfold Words
            rw [List.map_append, List.length_append]
            exact this
          · exact ((HB.out.alloc HB.out.size _).grown HG.out (by have := HB.out.size; simp; omega) (fun g hg => (HO.out.lt g hg).1))
        case measure => simp [intOf]; omega
      · have he' : ((s[k].toNat : Int) == (c.toNat : Int)) = false := by
          rw [beq_eq_false_iff_ne]
          intro h
          exact he (UInt8.toNat_inj.1 (by omega))
        have HE := Lib.hid he
        clear he
        go_wp2
        go_roundw
        case rel => exact ⟨k + 1, f, WS, by omega, by go_num, rfl, HC.out.miss hlt HE.out, HO.out, HB.out⟩
        case measure => simp [intOf]; omega
    · obtain rfl : k = s.size := by omega
      have hfS : (f : Int) ≤ s.size := by omega
      go_wp2_with (at_builtin; (refine wpList_append_own _ rfl _ _ 28 rfl w.heap.size 9 i0 (.string ⟨#[]⟩) 1 16 Tryd.underlying28 hi hz0 hz1 hz2 rfl (by decide) _ _ _ rfl (World.ownsRow.alloc HO.out _) ⟨wr.heap.size, 0, none⟩ 1 1 [.string (s.extract f s.size)] rfl rfl ?c1 ?c2 ?c3 ?c4 ?c5 ?_))
      case c1 => exact cell_one_new _ _ _
      case c2 => intro u hu; simp at hu; subst hu; rfl
      case c3 => unfold maxLen; omega
      case c4 => omega
      case c5 => have := HB.out.size; simp; omega
      intro v' w1 hown' hgrow _
      have HO1 := Lib.hid hown'
      have HG := Lib.hid hgrow
      clear hown' hgrow
      go_wp2
      go_ret
      refine ⟨_, WS ++ [s.extract f s.size], rfl, HC.out.end_, ?_, ?_⟩
      · have := HO1.out
        unfold Words
        rw [List.map_append, List.length_append]
        exact this
      · exact ((HB.out.alloc HB.out.size _).grown HG.out (by have := HB.out.size; simp; omega) (fun g hg => (HO.out.lt g hg).1))

end Go.Proofs.YtnbaapofjmjgiaaDoor
