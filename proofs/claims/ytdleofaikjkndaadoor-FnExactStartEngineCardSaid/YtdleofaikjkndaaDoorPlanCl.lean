/- The program's copies of taps and of plans. -/
import Derived.Test.YtdleofaikjkndaaDoorPlanVP
import Derived.Test.YtdleofaikjkndaaDoorPFnExactJoinPlansx1
import Derived.Lib.LazyBuf
namespace Go.Proofs.YtdleofaikjkndaaDoor
open Go.RowKit Go.Proofs.YtdleofaikjkndaaDoorW.PrintWords Go.Proofs.YtdleofaikjkndaaDoor.PFnExactJoinPlans

def IntsPost (l : List Int) (w : World) (e : Ending) (w' : World) : Prop := ∃ v : Value, e = .returned v ∧ Kd.R (Kd.int .i64) 2 w' w.heap.size (fun _ => True) v l ∧ Below w.heap.size w w'

set_option maxRecDepth 100000 in
set_option maxHeartbeats 2000000 in
theorem clone64_any (A : Option Addr) (c : Nat) (l : List Int) (w : World) (hl : l.length ≤ 1048576) (HR : Hid (Kd.C (Kd.int .i64) w A l.length l)) :
    Calls Tryd.prog 44 #[.slice A l.length c] w (IntsPost l w) := by
  have heq := fun W => Lib.run_eql_slice_nil (P := Tryd.prog) W 51 2 A l.length c 0 0 Tryd.underlying51
  cases A with
  | none =>
    have h0 : l = [] := by
      rcases Nat.eq_zero_or_pos l.length with h | h
      · exact List.eq_nil_of_length_eq_zero h
      · obtain ⟨ad, h2, _⟩ := HR.out.2.2 h
        cases h2
    have H0 := Lib.hid h0
    clear h0
    simp only [Option.isNone_none] at heq
    go_enter Tryd.func44, Tryd.ntmps44
    go_wp2_with fail
    go_ret
    exact ⟨_, rfl, by rw [H0.out]; exact Kd.R_nil _ _ _ _ _, Below.refl _ _⟩
  | some ad =>
    simp only [Option.isNone_some] at heq
    have HL := Lib.hid hl
    go_enter Tryd.func44, Tryd.ntmps44
    go_wp2_with (first
      | ((with_reducible refine gate_dst (N := 5) rfl ?_); refine Kd.R_lit (Kd.int .i64) w.heap.size 2 ?hg (N := 5) ?hd (xs := ([] : List Int)) (inner := []) (ok := fun _ => True) (okp := fun _ => True) ?hr ?hp (fun _ hk => hk) trivial (Below.refl _ _) (Nat.le_refl _) (by simp) ?_; (case hd => rfl); (case hg => rfl); (case hr => first | (go_simp; done) | (go_simp; rfl)); (case hp => exact (Reps.none _ _)); intro v1 w1 ho1 hb1 hg_ hnew_; clear hg_ hnew_; have HO1 := Lib.hid ho1; have HB1 := Lib.hid hb1; clear ho1 hb1)
      | ((with_reducible refine gate_builtin (b := .append) (xs := #[.tmp 5, .tmp 6]) rfl ?_); at_builtin; refine Kd.R_append_rows (Kd.int .i64) (w0 := w) w.heap.size rfl (.tmp 5) (.tmp 6) 51 2 (.int .i64 0) 8 rfl Tryd.underlying51 info2 rfl (by decide) (by omega) v1 [] l _ _ _ (fun _ => True) (fun _ => False) rfl rfl HO1.out (Kd.C_below HR.out HB1.out) (fun _ _ h => h) (fun _ h => h.elim) (fun _ _ => trivial) HB1.out HB1.out.size (by have := HL.out; simp; omega) ?_; intro v2 w2 ho hb hg hat; have HO2 := Lib.hid ho; have HB2 := Lib.hid hb; clear ho hb hg hat))
    go_ret
    exact ⟨_, rfl, by simpa using HO2.out, HB2.out⟩

/-- Four cells stored into one block. -/
def put4 (w : World) (g : Nat) (a b c d : Value) : World := (((w.setCell ⟨g, 0, none⟩ a).setCell ⟨g, 1, none⟩ b).setCell ⟨g, 2, none⟩ c).setCell ⟨g, 3, none⟩ d
theorem put4_far {w : World} {g gb : Nat} {t : TypeId} {cs : Array Value} (h : w.heap[g]? = some (.cells cs t (0, 0))) (hne : g ≠ gb) (a b c d : Value) : (put4 w gb a b c d).heap[g]? = some (.cells cs t (0, 0)) :=
  blk_far (blk_far (blk_far (blk_far h hne a) hne b) hne c) hne d
theorem put4_put {w : World} {gb : Nat} {t : TypeId} {x0 x1 x2 x3 : Value} (h : w.heap[gb]? = some (.cells #[x0, x1, x2, x3] t (0, 0))) (a b c d : Value) : (put4 w gb a b c d).heap[gb]? = some (.cells #[a, b, c, d] t (0, 0)) :=
  blk_put (cs := #[a, b, c, x3]) (blk_put (cs := #[a, b, x2, x3]) (blk_put (cs := #[a, x1, x2, x3]) (blk_put (cs := #[x0, x1, x2, x3]) h 0 a rfl) 1 b rfl) 2 c rfl) 3 d rfl
theorem put4_below {w W : World} {g : Nat} (h : Below w.heap.size w W) (hg : w.heap.size ≤ g) (a b c d : Value) : Below w.heap.size w (put4 W g a b c d) :=
  below_set (below_set (below_set (below_set h hg) hg) hg) hg
theorem put4_S {w : World} {gb base : Nat} {v : Value} {xs : List S53} {ok : Nat → Prop} (h : Kd.S k53 53 w base ok v xs) (hok : ∀ k, ok k → k ≠ gb) (a b c d : Value) : Kd.S k53 53 (put4 w gb a b c d) base ok v xs :=
  Kd.S_far (p := ⟨gb, 3, none⟩) (Kd.S_far (p := ⟨gb, 2, none⟩) (Kd.S_far (p := ⟨gb, 1, none⟩) (Kd.S_far (p := ⟨gb, 0, none⟩) h hok a) hok b) hok c) hok d
theorem put4_size (w : World) (g : Nat) (a b c d : Value) : (put4 w g a b c d).heap.size = w.heap.size := by simp [put4, World.setCell]

def StepsPost (S : List S53) (w : World) (e : Ending) (w' : World) : Prop := ∃ v : Value, e = .returned (.agg #[v]) ∧ Kd.S k53 53 w' w.heap.size (fun _ => True) v S ∧ Below w.heap.size w w'

theorem take_snoc_step (S : List S53) (k : Nat) (hk : k < S.length) : S.take k ++ [(⟨S[k].f0, S[k].f1, S[k].f2, S[k].f3⟩ : S53)] = S.take (k + 1) := by
  rw [List.take_succ_eq_append_getElem hk]

set_option maxRecDepth 100000 in
set_option maxHeartbeats 8000000 in
theorem clone_any (A : Option Addr) (c : Nat) (S : List S53) (w : World) (hS : S.length ≤ 1048576) (HT : Hid (∀ s ∈ S, s.f3.length ≤ 1048576)) (HR : Hid (Kd.C k53 w A S.length S)) :
    Calls Tryd.prog 26 #[.agg #[.slice A S.length c]] w (StepsPost S w) := by
  have hu53 := Tryd.underlying53
  have hu28 := Tryd.underlying28
  have hmax : (S.length : Int) ≤ 9223372036854775807 := by omega
  have HB := Lib.hid (Below.refl w.heap.size w)
  go_enter Tryd.func26, Tryd.ntmps26
  go_wp2_with (first
    | ((with_reducible refine gate_dst (N := 1) rfl ?_); refine box_event ?hg (N := 1) ?hd (cs := #[.slice A S.length c]) (t := 28) ?hr ?_; (case hd => rfl); (case hg => rfl); (case hr => first | (go_simp; done) | (go_simp; rfl)); intro g1 hg w1 hbox hb; have n0_ := Lib.hid (below_step HB.out hb); have BK1 := Lib.hid hbox; have GE1 : Hid (w.heap.size ≤ g1) := (by unfold Hid; rw [hg]; exact Nat.le_refl _); clear HB; have HB := n0_; clear n0_ hb hbox hg)
    | ((with_reducible refine gate_dst (N := 2) rfl ?_); refine box_event ?hg (N := 2) ?hd (cs := #[.slice none 0 0]) (t := 28) ?hr ?_; (case hd => rfl); (case hg => rfl); (case hr => first | (go_simp; done) | (go_simp; rfl)); intro g2 hg w2 hbox hb; have n0_ := Lib.hid (below_step HB.out hb); have n1_ := Lib.hid (blk_below BK1.out hb); have BK2 := Lib.hid hbox; have GE2 : Hid (w.heap.size ≤ g2) := (by unfold Hid; rw [hg]; exact HB.out.size); have NE12 : Hid (g1 ≠ g2) := (by unfold Hid; rw [hg]; exact Nat.ne_of_lt (blk_lt BK1.out)); clear HB BK1; have HB := n0_; have BK1 := n1_; clear n0_ n1_ hb hbox hg)
    | ((with_reducible refine gate_dst (N := 3) rfl ?_); refine box_event ?hg (N := 3) ?hd (cs := #[.slice none 0 0]) (t := 28) ?hr ?_; (case hd => rfl); (case hg => rfl); (case hr => first | (go_simp; done) | (go_simp; rfl)); intro g3 hg w3 hbox hb; have n1_ := Lib.hid (blk_below BK1.out hb); have n2_ := Lib.hid (blk_below BK2.out hb); have NE13 : Hid (g1 ≠ g3) := (by unfold Hid; rw [hg]; exact Nat.ne_of_lt (blk_lt BK1.out)); have NE23 : Hid (g2 ≠ g3) := (by unfold Hid; rw [hg]; exact Nat.ne_of_lt (blk_lt BK2.out)); have GE3 : Hid (w.heap.size ≤ g3) := (by unfold Hid; rw [hg]; exact HB.out.size); have n0_ := Lib.hid (below_step HB.out hb); have BK3 := Lib.hid hbox; clear BK1 BK2 HB; have HB := n0_; have BK1 := n1_; have BK2 := n2_; clear n0_ n1_ n2_ hb hbox hg; have hc3 : w3.cell? ⟨g3, 0, none⟩ = some (.slice none 0 0) := (blk_cell BK3.out 0).trans rfl; have hf3 := blk_frozen BK3.out 0; have hc1 : w3.cell? ⟨g1, 0, none⟩ = some (.slice A S.length c) := (blk_cell BK1.out 0).trans rfl; have hn13 := NE13.out; have hn31 := Ne.symm NE13.out))
  go_loopw [10] (fun i wr => ∃ (k : Nat) (v : Value), k ≤ S.length ∧ i = .int .i64 k ∧ Hid (Kd.S k53 53 wr w.heap.size (fun _ => True) v (S.take k)) ∧ Hid (wr.heap[g3]? = some (.cells #[v] 28 (0, 0))) ∧ Hid (wr.heap[g2]? = some (.cells #[.slice none 0 0] 28 (0, 0))) ∧ Hid (Below w.heap.size w wr)) (fun i _ => S.length - (intOf i).toNat)
  case atStart => exact ⟨0, _, by omega, rfl, Kd.S_nil _ _ _ _ _, blk_put BK3.out 0 _ rfl, blk_far BK2.out NE23.out _, below_set HB.out GE3.out⟩
  case round =>
    clear BK1 BK2 BK3 HB hc3 hf3 hc1
    obtain ⟨k, v, hk, rfl, HO, BK3, BK2, HB⟩ := hrel
    by_cases hlt : k < S.length
    · obtain ⟨ad, A3, c3, rfl, x0, x1, x2, x3, hl3, hi3⟩ := step_at HR.out hlt
      have y0 := (HB.out.cell (World.block_lt_of_cell? w _ x0)).trans x0
      have y1 := (HB.out.cell (World.block_lt_of_cell? w _ x1)).trans x1
      have y2 := (HB.out.cell (World.block_lt_of_cell? w _ x2)).trans x2
      have y3 := (HB.out.cell (World.block_lt_of_cell? w _ x3)).trans x3
      have HI := Lib.hid hi3
      have HLs := Lib.hid (HT.out _ (List.getElem_mem hlt))
      clear hl3 hi3 x0 x1 x2 x3
      have hkI : (k : Int) < S.length := by omega
      go_wp2_with (first
        | ((with_reducible refine gate_dst (N := 5) rfl ?_); refine box_event ?hg (N := 5) ?hd (cs := #[.int .i64 0, .int .i64 0, .int .i64 0, .slice none 0 0]) (t := 53) ?hr ?_; (case hd => rfl); (case hg => rfl); (case hr => first | (go_simp; done) | (go_simp; rfl)); intro g5 hg w5 hbox hb; have m0 := Lib.hid (Kd.S_below (Kd.S_elderB HO.out g5 (Nat.le_of_eq hg.symm)) hb); have m1 := Lib.hid (below_step HB.out hb); have m2 := Lib.hid (blk_below BK3.out hb); have m3 := Lib.hid (blk_below BK2.out hb); have NE35 : Hid (g3 ≠ g5) := (by unfold Hid; rw [hg]; exact Nat.ne_of_lt (blk_lt BK3.out)); have NE25 : Hid (g2 ≠ g5) := (by unfold Hid; rw [hg]; exact Nat.ne_of_lt (blk_lt BK2.out)); have GE5 : Hid (w.heap.size ≤ g5) := (by unfold Hid; rw [hg]; exact HB.out.size); have BK5 := Lib.hid hbox; clear HO HB BK3 BK2; have HO := m0; have HB := m1; have BK3 := m2; have BK2 := m3; clear m0 m1 m2 m3 hb hbox hg; have hz0 : w5.cell? ⟨g5, 0, none⟩ = some (.int .i64 0) := (blk_cell BK5.out 0).trans rfl; have hz1 : w5.cell? ⟨g5, 1, none⟩ = some (.int .i64 0) := (blk_cell BK5.out 1).trans rfl; have hz2 : w5.cell? ⟨g5, 2, none⟩ = some (.int .i64 0) := (blk_cell BK5.out 2).trans rfl; have hz3 : w5.cell? ⟨g5, 3, none⟩ = some (.slice none 0 0) := (blk_cell BK5.out 3).trans rfl; have hf0 := blk_frozen BK5.out 0; have hf1 := blk_frozen BK5.out 1; have hf2 := blk_frozen BK5.out 2; have hf3 := blk_frozen BK5.out 3)
        | (go_at_call 44; refine (clone64_any A3 c3 S[k].f3 (put4 w5 g5 (.int .i64 S[k].f0) (.int .i64 S[k].f1) (.int .i64 S[k].f2) (.slice A3 S[k].f3.length c3)) HLs.out (Lib.hid (Kd.C_below HI.out (put4_below HB.out GE5.out _ _ _ _)))).mono ?_; rintro e w6 ⟨v6, rfl, ho6, hb6⟩; have m0 := Lib.hid (Kd.S_elder' (put4_S HO.out (fun k hk => hk.2) _ _ _ _) (Kd.R_base ho6) hb6); have m1 := Lib.hid (Kd.R_lower ho6 (put4_below HB.out GE5.out _ _ _ _).size); have m2 := Lib.hid (blk_below (put4_far BK3.out NE35.out _ _ _ _) hb6); have m3 := Lib.hid (blk_below (put4_far BK2.out NE25.out _ _ _ _) hb6); have m4 := Lib.hid (blk_below (put4_put BK5.out _ _ _ _) hb6); have m5 := Lib.hid (below_step (put4_below HB.out GE5.out _ _ _ _) hb6); clear HO HB BK3 BK2 BK5 ho6 hb6 hz0 hz1 hz2 hz3 hf0 hf1 hf2 hf3; have HO := m0; have H6 := m1; have BK3 := m2; have BK2 := m3; have BK5 := m4; have HB := m5; clear m0 m1 m2 m3 m4 m5; obtain ⟨A6, c6, e6⟩ := Kd.R_slice H6.out; subst e6; have hz0 : w6.cell? ⟨g5, 0, none⟩ = some (.int .i64 S[k].f0) := (blk_cell BK5.out 0).trans rfl; have hz1 : w6.cell? ⟨g5, 1, none⟩ = some (.int .i64 S[k].f1) := (blk_cell BK5.out 1).trans rfl; have hz2 : w6.cell? ⟨g5, 2, none⟩ = some (.int .i64 S[k].f2) := (blk_cell BK5.out 2).trans rfl; have hz3 : w6.cell? ⟨g5, 3, none⟩ = some (.slice A3 S[k].f3.length c3) := (blk_cell BK5.out 3).trans rfl; have hf3 := blk_frozen BK5.out 3; have hc3 : w6.cell? ⟨g3, 0, none⟩ = some v := (blk_cell BK3.out 0).trans rfl; have hn35 := NE35.out; have hn53 := Ne.symm NE35.out)
        | ((with_reducible refine gate_store (t := 51) (p := 17) rfl ?_); refine store_event (t := 51) (p := 17) (v := ?vo) (w1 := w6.setCell ⟨g5, 3, none⟩ (.slice A6 S[k].f3.length c6)) ?hg ?ho ?hn ?hr ?_; (case ho => rfl); (case hg => rfl); (case hn => rfl); (case hr => first | (go_simp; done) | (go_simp; rfl)); intro w7 hw; have m0 : Hid (Kd.S k53 53 w7 w.heap.size (fun k_ => k_ ≠ g5 ∧ some k_ ≠ (.slice A6 S[k].f3.length c6 : Value).ownBlock) v (S.take k)) := (by unfold Hid; rw [hw]; exact Kd.S_mono (Kd.S_far (p := ⟨g5, 3, none⟩) HO.out (fun _ hk => hk.1.2) _) (fun _ hk => ⟨hk.1.2, hk.2⟩)); have m1 : Hid (Kd.R (Kd.int .i64) 2 w7 w.heap.size (fun _ => True) (.slice A6 S[k].f3.length c6) S[k].f3) := (by unfold Hid; rw [hw]; exact Kd.R_mono (Kd.R_far (p := ⟨g5, 3, none⟩) (Kd.R_types H6.out BK5.out (by decide)) (fun _ hk => hk.2) _) (fun _ _ => trivial)); have m2 : Hid (w7.heap[g3]? = some (.cells #[v] 28 (0, 0))) := (by unfold Hid; rw [hw]; exact blk_far BK3.out NE35.out _); have m3 : Hid (w7.heap[g2]? = some (.cells #[.slice none 0 0] 28 (0, 0))) := (by unfold Hid; rw [hw]; exact blk_far BK2.out NE25.out _); have m4 : Hid (w7.heap[g5]? = some (.cells #[.int .i64 S[k].f0, .int .i64 S[k].f1, .int .i64 S[k].f2, .slice A6 S[k].f3.length c6] 53 (0, 0))) := (by unfold Hid; rw [hw]; exact blk_put BK5.out 3 _ rfl); have m5 : Hid (Below w.heap.size w w7) := (by unfold Hid; rw [hw]; exact below_set HB.out GE5.out); clear hw HO H6 BK3 BK2 BK5 HB hz0 hz1 hz2 hz3 hf3 hc3; have HO := m0; have H6 := m1; have BK3 := m2; have BK2 := m3; have BK5 := m4; have HB := m5; clear m0 m1 m2 m3 m4 m5; have hz0 : w7.cell? ⟨g5, 0, none⟩ = some (.int .i64 S[k].f0) := (blk_cell BK5.out 0).trans rfl; have hz1 : w7.cell? ⟨g5, 1, none⟩ = some (.int .i64 S[k].f1) := (blk_cell BK5.out 1).trans rfl; have hz2 : w7.cell? ⟨g5, 2, none⟩ = some (.int .i64 S[k].f2) := (blk_cell BK5.out 2).trans rfl; have hz3 : w7.cell? ⟨g5, 3, none⟩ = some (.slice A6 S[k].f3.length c6) := (blk_cell BK5.out 3).trans rfl; have hc3 : w7.cell? ⟨g3, 0, none⟩ = some v := (blk_cell BK3.out 0).trans rfl)
        | ((with_reducible refine gate_builtin (b := .append) (xs := #[.tmp 19, .tmp 21]) rfl ?_); at_builtin; refine Kd.S_append k53 (w0 := w) w.heap.size rfl (.tmp 19) (.tmp 21) 26 53 (.agg #[(.int .i64 0), (.int .i64 0), (.int .i64 0), (.slice none 0 0)]) 48 rfl Tryd.underlying26 info53 rfl (by decide) (by omega) v (S.take k) (⟨S[k].f0, S[k].f1, S[k].f2, S[k].f3⟩ : S53) [.int .i64 S[k].f0, .int .i64 S[k].f1, .int .i64 S[k].f2, .slice A6 S[k].f3.length c6] (fun _ => True) (fun k_ => some k_ = (.slice A6 S[k].f3.length c6 : Value).ownBlock) rfl rfl ?aP ?aN (fun _ _ => trivial) ?aO ?aB ?aS ?aL ?_; (case aP => exact k53_mkM _ _ _ (⟨S[k].f0, S[k].f1, S[k].f2, S[k].f3⟩ : S53) (Kd.R_tight rfl H6.out)); (case aN => exact fun k_ hk_ => ⟨trivial, fun e_ => absurd hk_.symm (by have h9 := (Kd.R_apart' H6.out (Kd.S_typed HO.out) (by decide)).1 k_ hk_.symm; exact fun _ => h9.2 e_)⟩); (case aO => exact Kd.S_mono HO.out (fun _ hk => ⟨trivial, hk.2⟩)); (case aB => exact HB.out); (case aS => exact HB.out.size); (case aL => (rw [List.length_take]; omega)); intro v8 w8 ho hb hg hat; have m0 := Lib.hid (take_snoc_step S k hlt ▸ ho); have m2 := Lib.hid (blk_grown BK3.out hg (Kd.S_ne HO.out BK3.out (by decide))); have m3 := Lib.hid (blk_grown BK2.out hg (Kd.S_ne HO.out BK2.out (by decide))); have m5 := Lib.hid hb; clear HO H6 BK3 BK2 BK5 HB hz0 hz1 hz2 hz3 hc3 ho hb hg hat; have HO := m0; have BK3 := m2; have BK2 := m3; have HB := m5; clear m0 m2 m3 m5; obtain ⟨A8, c8, e8⟩ := Kd.S_slice HO.out; rw [List.length_take] at e8; subst e8; have hc3 : w8.cell? ⟨g3, 0, none⟩ = some v := (blk_cell BK3.out 0).trans rfl; have hfg := blk_frozen BK3.out 0))
      go_roundw
      case rel => exact ⟨k + 1, _, by omega, by go_num, Kd.S_set HO.out BK3.out (by decide) 0 _, blk_put BK3.out 0 _ rfl, blk_far BK2.out NE23.out _, below_set HB.out GE3.out⟩
      case measure => simp [intOf]; omega
    · obtain rfl : k = S.length := by omega
      have hfin : Kd.S k53 53 wr w.heap.size (fun _ => True) v S := by have := HO.out; rwa [List.take_length] at this
      have HO2 := Lib.hid hfin
      obtain ⟨A8, c8, e8⟩ := Kd.S_slice hfin
      subst e8
      clear hfin HO
      have hc3 : wr.cell? ⟨g3, 0, none⟩ = some (.slice A8 S.length c8) := (blk_cell BK3.out 0).trans rfl
      have hc2 : wr.cell? ⟨g2, 0, none⟩ = some (.slice none 0 0) := (blk_cell BK2.out 0).trans rfl
      have hf2 := blk_frozen BK2.out 0
      have hn23 := NE23.out
      have hn32 := Ne.symm NE23.out
      go_wp2_with fail
      refine bodyPost_ret (results_cell_row rfl _ _ g2 28 #[.slice A8 S.length c8] (0, 0) _ rfl (blk_put BK2.out 0 _ rfl) Tryd.underlying28 rfl (by kernel_rfl)) rfl ?_
      exact ⟨_, rfl, Kd.S_set HO2.out BK2.out (by decide) 0 _, below_set HB.out GE2.out⟩


end Go.Proofs.YtdleofaikjkndaaDoor
