/- The walk of markStepS: each step of a plan marked. -/
import Derived.Test.YtdleofaikjkndaaDoorPlanM
namespace Go.Proofs.YtdleofaikjkndaaDoor
open Go.RowKit Go.Proofs.YtdleofaikjkndaaDoorW.PrintWords Go.Proofs.YtdleofaikjkndaaDoor.PFnExactJoinPlans

def MarkedSteps (S : List S53) (k : Nat) (ok : Nat → Prop) (v : Value) (w0 w : World) (e : Ending) (w' : World) : Prop :=
  e = .returned (.int .i64 ((k + tot S : Nat) : Int)) ∧ Kd.S k53 53 w' w0.heap.size ok v (mkS k S) ∧ Below w0.heap.size w0 w' ∧ Kept w w' ok

/-- Three cells of element j written: the row reads on. -/
theorem marked3 {W : World} {base g n c j : Nat} {ok : Nat → Prop} {X : List S53} {s : S53} (h : Kd.S k53 53 W base ok (.slice (some ⟨g, 0, none⟩) n c) X) (hj : j < n) (hX : X[j]? = some s) (a b d : Int) :
    ∃ (v3 : Value) (oki : Nat → Prop), W.cell? ⟨g, j * 4, none⟩ = some (.int .i64 s.f0) ∧ W.cell? ⟨g, j * 4 + 1, none⟩ = some (.int .i64 s.f1) ∧ W.cell? ⟨g, j * 4 + 2, none⟩ = some (.int .i64 s.f2) ∧ W.cell? ⟨g, j * 4 + 3, none⟩ = some v3 ∧ (∀ i, W.frozen? ⟨g, j * 4 + i, none⟩ = false) ∧
      (∀ W', W' = ((W.setCell ⟨g, j * 4, none⟩ (.int .i64 a)).setCell ⟨g, j * 4 + 1, none⟩ (.int .i64 b)).setCell ⟨g, j * 4 + 2, none⟩ (.int .i64 d) →
        W.grownBy W' (some g) ∧ (∀ k, oki k → ok k ∧ k ≠ g) ∧ ok g ∧ Kd.R (Kd.int .i64) 2 W' base oki v3 s.f3 ∧
        ∀ (w1 : World) (l : List Int), Kept W' w1 oki → Kd.R (Kd.int .i64) 2 w1 base oki v3 l → Kd.S k53 53 w1 base ok (.slice (some ⟨g, 0, none⟩) n c) (X.set j ⟨a, b, d, l⟩)) := by
  have hnl := (Kd.S_reads' h).1
  have hjX : j < X.length := by omega
  have hgd : X.getD (j : Int).toNat z53 = s := by
    rw [Int.toNat_natCast, List.getD_eq_getElem?_getD, hX]
    rfl
  obtain ⟨oki, ce, hcl, hM, hcc, hfr, hoki, hH⟩ := Kd.S_elem h z53 (j : Int) (by omega) (by omega)
  rw [hgd] at hM
  obtain ⟨v3, rfl, hr3⟩ := k53_openM hM
  have hsz : k53.sz = 4 := rfl
  simp only [Int.toNat_natCast, hsz] at hcc hfr
  have c0 := hcc 0 _ rfl
  have c1 := hcc 1 _ rfl
  have c2 := hcc 2 _ rfl
  have c3 := hcc 3 _ rfl
  have hokg : ok g := (Kd.S_R h).1 g (by simp [Value.ownBlock])
  refine ⟨v3, oki, c0, c1, c2, c3, hfr, ?_⟩
  rintro W' rfl
  have hs := Kd.H_seg hH (by omega) (by omega) (seg := [.int .i64 a, .int .i64 b, .int .i64 d]) (j := 0) (by show 3 ≤ 4; omega) (by intro q hq; simp at hq; rcases hq with rfl | rfl | rfl <;> rfl)
  simp only [Int.toNat_natCast, hsz, Nat.add_zero] at hs
  have hg : W.grownBy (((W.setCell ⟨g, j * 4, none⟩ (.int .i64 a)).setCell ⟨g, j * 4 + 1, none⟩ (.int .i64 b)).setCell ⟨g, j * 4 + 2, none⟩ (.int .i64 d)) (some g) := hs.2
  have hne : ∀ k, oki k → some k ≠ some g := fun k hk e => (hoki k hk).2 (Option.some.inj e)
  refine ⟨hg, hoki, hokg, Kd.R_grown hr3 hg hne, ?_⟩
  intro w1 l hk hl
  have hgap : Kd.H k53 53 (((W.setCell ⟨g, j * 4, none⟩ (.int .i64 a)).setCell ⟨g, j * 4 + 1, none⟩ (.int .i64 b)).setCell ⟨g, j * 4 + 2, none⟩ (.int .i64 d)) base ok (.slice (some ⟨g, 0, none⟩) n c) X (j : Int) oki [.int .i64 a, .int .i64 b, .int .i64 d, v3] := hs.1
  have := Kd.H_back (Kd.H_kept hgap hk (fun k _ hn => hn)) (x' := (⟨a, b, d, l⟩ : S53)) (k53_mkM _ _ _ (⟨a, b, d, l⟩ : S53) hl) (fun _ hk => hk)
  rwa [Int.toNat_natCast] at this

set_option maxRecDepth 100000 in
set_option maxHeartbeats 4000000 in
theorem markSteps_any (S : List S53) (k : Nat) (ok : Nat → Prop) (v : Value) (w0 w : World) (hk : k + tot S ≤ 1000000000) (hl : S.length ≤ 2000000) (hB : Below w0.heap.size w0 w) (ho : Kd.S k53 53 w w0.heap.size ok v S) :
    Calls Tryd.prog 28 #[v, .int .i64 k] w (MarkedSteps S k ok v w0 w) := by
  obtain ⟨A, c, rfl⟩ := Kd.S_slice ho
  have HB := Lib.hid hB
  have HO := Lib.hid ho
  clear hB ho
  go_enter Tryd.func28, Tryd.ntmps28
  go_wp2_with fail
  go_loopw [1, 5] (fun sk i wr => ∃ j : Nat, j ≤ S.length ∧ i = .int .i64 j ∧ sk = .int .i64 ((k + tot (S.take j) : Nat) : Int) ∧ Hid (Kd.S k53 53 wr w0.heap.size ok (.slice A S.length c) (part k j S)) ∧ Hid (Kept w wr ok) ∧ Hid (Below w0.heap.size w0 wr)) (fun _ i _ => S.length - (intOf i).toNat)
  case atStart => exact ⟨0, by omega, rfl, by simp [tot], by simpa [part, mkS, Hid] using HO.out, Kept.refl _ _, HB.out⟩
  case round =>
    clear HB HO
    obtain ⟨j, hj, rfl, rfl, HO, HK, HB⟩ := hrel
    by_cases hlt : j < S.length
    · have ht := tot_take hlt
      have hle := tot_le S (j + 1)
      obtain ⟨m, hm⟩ : ∃ m, m = k + tot (S.take j) := ⟨_, rfl⟩
      have hmb : m + 3 + S[j].f3.length ≤ 1000000000 := by omega
      have HT : Hid (k + tot (S.take (j + 1)) = m + 3 + S[j].f3.length) := by unfold Hid; omega
      have HS1 : Hid ((part k j S).set j (mkOne m S[j]) = part k (j + 1) S) := by unfold Hid; rw [hm]; exact part_step hlt
      rw [← hm]
      obtain ⟨g, cap, e1, hgb, hgl, _⟩ := Kd.S_form HO.out (by rw [part_length]; omega)
      rw [part_length] at e1
      obtain ⟨rfl, rfl⟩ : A = some ⟨g, 0, none⟩ ∧ c = cap := by injection e1 with e2 _ e3; exact ⟨e2, e3⟩
      obtain ⟨v3, oki, c0, c1, c2, c3, hfr, hW⟩ := marked3 HO.out hlt (part_get hlt) (m : Int) ((m : Int) + 1) ((m : Int) + 1 + 1)
      have f0 := hfr 0
      have f1 := hfr 1
      have f2 := hfr 2
      simp only [Nat.add_zero] at f0
      have HW := Lib.hid hW
      have HG := Lib.hid hgb
      have hjI : (j : Int) < S.length := by omega
      clear hW hfr ht hle hm e1 hgb
      have HE : Hid ((⟨(m : Int), (m : Int) + 1, (m : Int) + 1 + 1, ints (m + 3) S[j].f3.length⟩ : S53) = mkOne m S[j]) := by
        unfold Hid mkOne
        simp
        omega
      have ea : Hid ((#[v3, Value.int .i64 ((m : Int) + 1 + 1 + 1)] : Array Value) = #[v3, .int .i64 ((m + 3 : Nat) : Int)]) := by
        unfold Hid
        rw [show (m : Int) + 1 + 1 + 1 = ((m + 3 : Nat) : Int) by omega]
      go_wp2_with fail
      rw [ea.out]
      obtain ⟨hg, hoki, hokg, hR, hback⟩ := HW.out _ rfl
      have hBW := HB.out.grown hg HB.out.size (fun q hq => by cases hq; exact HG.out)
      have hKW := Kept.of_grown hg HK.out (fun q hq => by cases hq; exact .inl hokg)
      have HBK := Lib.hid hback
      have HKW := Lib.hid hKW
      have HOK := Lib.hid hoki
      clear HW hg hokg hback hKW hoki HO HK HB
      refine (markInts_any S[j].f3 (m + 3) oki v3 w0 _ hmb hBW hR).mono ?_
      rintro e w1 ⟨rfl, hR1, hB1, hK1⟩
      have HO : Hid (Kd.S k53 53 w1 w0.heap.size ok (.slice (some ⟨g, 0, none⟩) S.length c) (part k (j + 1) S)) := by
        unfold Hid
        rw [← HS1.out, ← HE.out]
        exact HBK.out w1 _ hK1 hR1
      have HK := Lib.hid (HKW.out.then_ hK1 (fun q hq => .inl (HOK.out q hq).1))
      have HB := Lib.hid hB1
      clear HBK HKW hR1 hB1 hK1 hBW hR
      go_wp2_with fail
      go_roundw
      case rel => exact ⟨j + 1, by omega, by go_num, by rw [HT.out]; go_num, HO.out, HK.out, HB.out⟩
      case measure => simp [intOf]; omega
    · obtain rfl : j = S.length := by omega
      have HF : Hid (part k S.length S = mkS k S) := by unfold Hid part; simp
      have HT : Hid (tot (S.take S.length) = tot S) := by unfold Hid; rw [List.take_length]
      go_wp2_with fail
      go_ret
      exact ⟨ret_int (by have := HT.out; omega), by have := HO.out; rwa [HF.out] at this, HB.out, HK.out⟩

set_option maxHeartbeats 400000 in
theorem markPlan_any (S : List S53) (k : Nat) (ok : Nat → Prop) (v : Value) (w0 w : World) (hk : k + tot S ≤ 1000000000) (hl : S.length ≤ 2000000) (hB : Below w0.heap.size w0 w) (ho : Kd.S k53 53 w w0.heap.size ok v S) :
    Calls Tryd.prog 11 #[.agg #[v], .int .i64 k] w (MarkedSteps S k ok v w0 w) := by
  obtain ⟨A, c, rfl⟩ := Kd.S_slice ho
  have HB := Lib.hid hB
  have HO := Lib.hid ho
  clear hB ho
  go_enter Tryd.func11, Tryd.ntmps11
  go_wp2_with fail
  refine (markSteps_any S k ok _ w0 _ hk hl (HB.out.alloc HB.out.size _) (Kd.S_alloc HO.out _)).mono ?_
  rintro e w1 ⟨rfl, h1, h2, h3⟩
  have H1 := Lib.hid h1
  have H2 := Lib.hid h2
  have H3 := Lib.hid ((Kept.of_below (below_alloc (Below.refl w.heap.size w) _) ok).then_ h3 (fun q hq => .inl hq))
  clear h1 h2 h3
  go_wp2_with fail
  go_ret
  exact ⟨rfl, H1.out, H2.out, H3.out⟩

/-- A world's first blocks alone. -/
def cutW (w : World) (n : Nat) : World := { w with heap := w.heap.extract 0 n }
theorem cutW_size {w : World} {n : Nat} (h : n ≤ w.heap.size) : (cutW w n).heap.size = n := by
  simp [cutW]; omega
theorem cutW_below {w : World} {n : Nat} (h : n ≤ w.heap.size) : Below n (cutW w n) w := by
  refine ⟨rfl, rfl, rfl, by rw [cutW_size h]; exact h, fun k hk => ?_⟩
  simp [cutW, Array.getElem?_extract]; omega
def MarkedBase (S : List S53) (k : Nat) (ok : Nat → Prop) (v : Value) (base : Nat) (w : World) (e : Ending) (w' : World) : Prop :=
  e = .returned (.int .i64 ((k + tot S : Nat) : Int)) ∧ Kd.S k53 53 w' base ok v (mkS k S) ∧ Below base w w' ∧ Kept w w' ok
theorem markPlan_base (S : List S53) (k : Nat) (ok : Nat → Prop) (v : Value) (base : Nat) (w : World) (hk : k + tot S ≤ 1000000000) (hl : S.length ≤ 2000000) (hb : base ≤ w.heap.size) (ho : Kd.S k53 53 w base ok v S) :
    Calls Tryd.prog 11 #[.agg #[v], .int .i64 k] w (MarkedBase S k ok v base w) := by
  have hs := cutW_size hb
  have hB := cutW_below hb
  have hB' : Below (cutW w base).heap.size (cutW w base) w := by rw [hs]; exact hB
  refine (markPlan_any S k ok v (cutW w base) w hk hl hB' (by rw [hs]; exact ho)).mono ?_
  rintro e w' ⟨he, h1, h2, h3⟩
  rw [hs] at h1 h2
  refine ⟨he, h1, ⟨h2.os.trans hB.os.symm, h2.tape.trans hB.tape.symm, h2.output.trans hB.output.symm, h3.1, fun q hq => (h2.block q hq).trans (hB.block q hq).symm⟩, h3⟩
end Go.Proofs.YtdleofaikjkndaaDoor
