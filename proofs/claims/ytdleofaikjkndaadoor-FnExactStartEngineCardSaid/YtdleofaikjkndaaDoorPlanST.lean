/- The reference's validity of a step. -/
import Derived.Test.YtdleofaikjkndaaDoorPlanS
namespace Go.Proofs.YtdleofaikjkndaaDoor
open Go.RowKit Go.Proofs.YtdleofaikjkndaaDoorW.PrintWords Go.Proofs.YtdleofaikjkndaaDoor.PFnExactJoinPlans

theorem dec_eq0 (n : Int) : n = 0 ∨ (Hid (n ≠ 0) ∧ (n != 0) = true) := by
  by_cases h : n = 0
  · exact .inl h
  · exact .inr ⟨h, by simpa using h⟩

theorem parts2_any (g : Nat) (n m : Int) (w : World) (h0 : w.cell? ⟨g, 0, none⟩ = some (.int .i64 n)) (h1 : w.cell? ⟨g, 1, none⟩ = some (.int .i64 m)) :
    Calls Tryd.prog 64 #[.slice (some ⟨g, 0, none⟩) 2 2] w fun e w' => e = .returned (.bool (pieceB n && pieceB m)) ∧ w = w' := by
  refine (l07Parts_any (some ⟨g, 0, none⟩) 2 [n, m] w ?_).mono fun e w' ⟨he, hw⟩ => ⟨by rw [he]; simp, hw⟩
  refine Kd.C_of_reads (d := (0 : Int)) ⟨rfl, by simp, fun _ => ⟨_, rfl, fun j hj => ?_⟩⟩
  match j, hj with
  | 0, _ => simpa [Addr.add] using h0
  | 1, _ => simpa [Addr.add] using h1

theorem len_cases (l : List Int) : (Hid (l.length = 0) ∧ ¬ ((0 : Int) < l.length)) ∨ (Hid (l.length ≠ 0) ∧ ((0 : Int) < l.length)) := by
  by_cases h : l.length = 0
  · exact .inl ⟨h, by omega⟩
  · exact .inr ⟨h, by omega⟩

set_option maxRecDepth 100000 in
set_option maxHeartbeats 8000000 in
theorem l07Step_1 (k : Int) (hk : k = 1) (b o : Nat) (n m : Int) (A : Option Addr) (c : Nat) (l : List Int) (w : World) (h1 : w.cell? ⟨b, o + 1, none⟩ = some (.int .i64 n)) (h2 : w.cell? ⟨b, o + 2, none⟩ = some (.int .i64 m)) (h3 : w.cell? ⟨b, o + 3, none⟩ = some (.slice A l.length c)) (h0 : w.cell? ⟨b, o, none⟩ = some (.int .i64 k)) :
    Calls Tryd.prog 37 #[.pointer (some ⟨b, o, none⟩)] w fun e w' => e = .returned (.bool (vStep4 k n m l)) ∧ Below w.heap.size w w' := by
  have HTold : Hid (∀ (W : World) (g0 g1 : Nat), WordsAt W g0 g1 → W.cell? ⟨g1, k.toNat, none⟩ = some (.int .i64 2)) := by
    intro W g0 g1 hW
    exact hW.told _ _ (by subst hk; rfl)
  subst hk
  rcases len_cases l with ⟨HL, hl⟩ | ⟨HL, hl⟩
  all_goals
    have H0 := Lib.hid h0
    have H1 := Lib.hid h1
    have H2 := Lib.hid h2
    have H3 := Lib.hid h3
    go_enter Tryd.func37, Tryd.ntmps37
    go_wp2_with fail
    refine (l00In_any _ _ _ _).mono ?_
    rintro e w' ⟨he, rfl⟩
    rw [show inB _ 1 13 = true from rfl] at he
    subst he
    go_wp2_with fail
    refine (words_any _).mono ?_
    rintro e w1 ⟨g0, c0, g1, c1, rfl, hW, hb⟩
    have ht := HTold.out _ _ _ hW
    simp only [Int.reduceToNat] at ht
    have HB := Lib.hid hb
    have k0 := cell_below H0.out hb
    have k1 := cell_below H1.out hb
    have k2 := cell_below H2.out hb
    have k3 := cell_below H3.out hb
    clear hb hW h0 h1 h2 h3
    go_wp2_with fail
  · go_region_held3 (fun w' => w'.cell? ⟨b, o + 1, none⟩ = some (.int .i64 n) ∧ w'.cell? ⟨b, o + 2, none⟩ = some (.int .i64 m)) (first | go_keep | (simp [*]; done))
      ((go_at_call 64; refine (parts2_any _ n m _ (by simp) (by simp)).mono ?_; rintro e w' ⟨rfl, rfl⟩))
    go_wp2_with fail
    go_ret
    exact ⟨ret_bool (by simp [vStep4, vNums, formN, formK, formT, inB, HL.out]), (below_alloc HB.out _).drew⟩
  · go_ret
    exact ⟨ret_bool (by simp [vStep4, formN, formK, formT, HL.out]), HB.out⟩

set_option maxRecDepth 100000 in
set_option maxHeartbeats 8000000 in
theorem l07Step_4 (k : Int) (hk : k = 4) (b o : Nat) (n m : Int) (A : Option Addr) (c : Nat) (l : List Int) (w : World) (h1 : w.cell? ⟨b, o + 1, none⟩ = some (.int .i64 n)) (h2 : w.cell? ⟨b, o + 2, none⟩ = some (.int .i64 m)) (h3 : w.cell? ⟨b, o + 3, none⟩ = some (.slice A l.length c)) (h0 : w.cell? ⟨b, o, none⟩ = some (.int .i64 k)) :
    Calls Tryd.prog 37 #[.pointer (some ⟨b, o, none⟩)] w fun e w' => e = .returned (.bool (vStep4 k n m l)) ∧ Below w.heap.size w w' := by
  have HTold : Hid (∀ (W : World) (g0 g1 : Nat), WordsAt W g0 g1 → W.cell? ⟨g1, k.toNat, none⟩ = some (.int .i64 2)) := by
    intro W g0 g1 hW
    exact hW.told _ _ (by subst hk; rfl)
  subst hk
  rcases len_cases l with ⟨HL, hl⟩ | ⟨HL, hl⟩
  all_goals
    have H0 := Lib.hid h0
    have H1 := Lib.hid h1
    have H2 := Lib.hid h2
    have H3 := Lib.hid h3
    go_enter Tryd.func37, Tryd.ntmps37
    go_wp2_with fail
    refine (l00In_any _ _ _ _).mono ?_
    rintro e w' ⟨he, rfl⟩
    rw [show inB _ 1 13 = true from rfl] at he
    subst he
    go_wp2_with fail
    refine (words_any _).mono ?_
    rintro e w1 ⟨g0, c0, g1, c1, rfl, hW, hb⟩
    have ht := HTold.out _ _ _ hW
    simp only [Int.reduceToNat] at ht
    have HB := Lib.hid hb
    have k0 := cell_below H0.out hb
    have k1 := cell_below H1.out hb
    have k2 := cell_below H2.out hb
    have k3 := cell_below H3.out hb
    clear hb hW h0 h1 h2 h3
    go_wp2_with fail
  · cases hv : (inB n 1 1024 && inB m 0 (n - 1)) with
    | true =>
      have HV := Lib.hid hv
      clear hv
      go_quiet ((go_at_call 65; exact Calls.quiet_of_same ((turnCode_any _ _ _).mono fun e w' ⟨he, hw⟩ => ⟨(by rw [he, HV.out, if_pos rfl] : e = .returned (.int .i64 0)), hw.symm⟩)))
      go_wp2_with fail
      go_ret
      exact ⟨ret_bool (by have := HV.out; simp [vStep4, vNums, formN, formK, formT, HL.out, this]; rfl), below_drewN HB.out _⟩
    | false =>
      have HV := Lib.hid hv
      clear hv
      go_quiet ((go_at_call 65; exact Calls.quiet_of_same ((turnCode_any _ _ _).mono fun e w' ⟨he, hw⟩ => ⟨(by rw [he, HV.out, if_neg (by simp)] : e = .returned (.int .i64 2)), hw.symm⟩)))
      go_wp2_with fail
      go_ret
      exact ⟨ret_bool (by have := HV.out; simp [vStep4, vNums, formN, formK, formT, HL.out, this]), below_drewN HB.out _⟩
  · go_ret
    exact ⟨ret_bool (by simp [vStep4, formN, formK, formT, HL.out]), HB.out⟩

set_option maxRecDepth 100000 in
set_option maxHeartbeats 8000000 in
theorem l07Step_n (k : Int) (hk : k = 2 ∨ k = 5 ∨ k = 6 ∨ k = 7 ∨ k = 8 ∨ k = 9 ∨ k = 10) (b o : Nat) (n m : Int) (A : Option Addr) (c : Nat) (l : List Int) (w : World) (h1 : w.cell? ⟨b, o + 1, none⟩ = some (.int .i64 n)) (h2 : w.cell? ⟨b, o + 2, none⟩ = some (.int .i64 m)) (h3 : w.cell? ⟨b, o + 3, none⟩ = some (.slice A l.length c)) (h0 : w.cell? ⟨b, o, none⟩ = some (.int .i64 k)) :
    Calls Tryd.prog 37 #[.pointer (some ⟨b, o, none⟩)] w fun e w' => e = .returned (.bool (vStep4 k n m l)) ∧ Below w.heap.size w w' := by
  have HTold : Hid (∀ (W : World) (g0 g1 : Nat), WordsAt W g0 g1 → W.cell? ⟨g1, k.toNat, none⟩ = some (.int .i64 1)) := by
    intro W g0 g1 hW
    exact hW.told _ _ (by rcases hk with rfl | rfl | rfl | rfl | rfl | rfl | rfl <;> rfl)
  rcases len_cases l with ⟨HL, hl⟩ | ⟨HL, hl⟩ <;> rcases dec_eq0 m with rfl | ⟨HM, hm⟩ <;> rcases hk with rfl | rfl | rfl | rfl | rfl | rfl | rfl
  all_goals
    have H0 := Lib.hid h0
    have H1 := Lib.hid h1
    have H2 := Lib.hid h2
    have H3 := Lib.hid h3
    go_enter Tryd.func37, Tryd.ntmps37
    go_wp2_with fail
    refine (l00In_any _ _ _ _).mono ?_
    rintro e w' ⟨he, rfl⟩
    rw [show inB _ 1 13 = true from rfl] at he
    subst he
    go_wp2_with fail
    refine (words_any _).mono ?_
    rintro e w1 ⟨g0, c0, g1, c1, rfl, hW, hb⟩
    have ht := HTold.out _ _ _ hW
    simp only [Int.reduceToNat] at ht
    have HB := Lib.hid hb
    have k0 := cell_below H0.out hb
    have k1 := cell_below H1.out hb
    have k2 := cell_below H2.out hb
    have k3 := cell_below H3.out hb
    clear hb hW h0 h1 h2 h3
    go_wp2_with (go_at_call 62; refine (l00In_any _ _ _ _).mono ?_; rintro e w' ⟨rfl, rfl⟩)
    go_ret
    refine ⟨ret_bool ?_, HB.out⟩
    first
      | (simp [vStep4, vNums, formN, formK, formT, HL.out, show inB (2 : Int) 1 13 = true from rfl, show inB (5 : Int) 1 13 = true from rfl, show inB (6 : Int) 1 13 = true from rfl, show inB (7 : Int) 1 13 = true from rfl, show inB (8 : Int) 1 13 = true from rfl, show inB (9 : Int) 1 13 = true from rfl, show inB (10 : Int) 1 13 = true from rfl]; done)
      | (simp [vStep4, formN, formK, formT, HM.out]; done)

set_option maxRecDepth 100000 in
set_option maxHeartbeats 8000000 in
theorem l07Step_0 (k : Int) (hk : k = 11 ∨ k = 12 ∨ k = 13) (b o : Nat) (n m : Int) (A : Option Addr) (c : Nat) (l : List Int) (w : World) (h1 : w.cell? ⟨b, o + 1, none⟩ = some (.int .i64 n)) (h2 : w.cell? ⟨b, o + 2, none⟩ = some (.int .i64 m)) (h3 : w.cell? ⟨b, o + 3, none⟩ = some (.slice A l.length c)) (h0 : w.cell? ⟨b, o, none⟩ = some (.int .i64 k)) :
    Calls Tryd.prog 37 #[.pointer (some ⟨b, o, none⟩)] w fun e w' => e = .returned (.bool (vStep4 k n m l)) ∧ Below w.heap.size w w' := by
  have HTold : Hid (∀ (W : World) (g0 g1 : Nat), WordsAt W g0 g1 → W.cell? ⟨g1, k.toNat, none⟩ = some (.int .i64 0)) := by
    intro W g0 g1 hW
    exact hW.told _ _ (by rcases hk with rfl | rfl | rfl <;> rfl)
  rcases len_cases l with ⟨HL, hl⟩ | ⟨HL, hl⟩ <;> rcases dec_eq0 m with rfl | ⟨HM, hm⟩ <;> rcases dec_eq0 n with rfl | ⟨HN, hn⟩ <;> rcases hk with rfl | rfl | rfl
  all_goals
    have H0 := Lib.hid h0
    have H1 := Lib.hid h1
    have H2 := Lib.hid h2
    have H3 := Lib.hid h3
    go_enter Tryd.func37, Tryd.ntmps37
    go_wp2_with fail
    refine (l00In_any _ _ _ _).mono ?_
    rintro e w' ⟨he, rfl⟩
    rw [show inB _ 1 13 = true from rfl] at he
    subst he
    go_wp2_with fail
    refine (words_any _).mono ?_
    rintro e w1 ⟨g0, c0, g1, c1, rfl, hW, hb⟩
    have ht := HTold.out _ _ _ hW
    simp only [Int.reduceToNat] at ht
    have HB := Lib.hid hb
    have k0 := cell_below H0.out hb
    have k1 := cell_below H1.out hb
    have k2 := cell_below H2.out hb
    have k3 := cell_below H3.out hb
    clear hb hW h0 h1 h2 h3
    go_wp2_with (go_at_call 62; refine (l00In_any _ _ _ _).mono ?_; rintro e w' ⟨rfl, rfl⟩)
    go_ret
    refine ⟨ret_bool ?_, HB.out⟩
    first
      | (simp [vStep4, vNums, formN, formK, formT, HL.out, show inB (11 : Int) 1 13 = true from rfl, show inB (12 : Int) 1 13 = true from rfl, show inB (13 : Int) 1 13 = true from rfl]; done)
      | (simp [vStep4, formN, formK, formT, HM.out]; done)
      | (simp [vStep4, formN, formK, formT, HN.out]; done)

set_option maxRecDepth 100000 in
set_option maxHeartbeats 8000000 in
theorem l07Step_3 (k : Int) (hk : k = 3) (b o : Nat) (n m : Int) (A : Option Addr) (c : Nat) (l : List Int) (w : World) (h1 : w.cell? ⟨b, o + 1, none⟩ = some (.int .i64 n)) (h2 : w.cell? ⟨b, o + 2, none⟩ = some (.int .i64 m)) (h3 : w.cell? ⟨b, o + 3, none⟩ = some (.slice A l.length c)) (HR : Hid (Kd.C (Kd.int .i64) w A l.length l)) (h0 : w.cell? ⟨b, o, none⟩ = some (.int .i64 k)) :
    Calls Tryd.prog 37 #[.pointer (some ⟨b, o, none⟩)] w fun e w' => e = .returned (.bool (vStep4 k n m l)) ∧ Below w.heap.size w w' := by
  have HTold : Hid (∀ (W : World) (g0 g1 : Nat), WordsAt W g0 g1 → W.cell? ⟨g1, k.toNat, none⟩ = some (.int .i64 (-1))) := by
    intro W g0 g1 hW
    exact hW.told _ _ (by subst hk; rfl)
  subst hk
  rcases dec_eq0 m with rfl | ⟨HM, hm⟩ <;> rcases dec_eq0 n with rfl | ⟨HN, hn⟩
  · cases hp : inB l.length 1 8
    all_goals
      have HP := Lib.hid hp
      clear hp
      have H0 := Lib.hid h0
      have H1 := Lib.hid h1
      have H2 := Lib.hid h2
      have H3 := Lib.hid h3
      go_enter Tryd.func37, Tryd.ntmps37
      go_wp2_with fail
      refine (l00In_any _ _ _ _).mono ?_
      rintro e w' ⟨he, rfl⟩
      rw [show inB _ 1 13 = true from rfl] at he
      subst he
      go_wp2_with fail
      refine (words_any _).mono ?_
      rintro e w1 ⟨g0, c0, g1, c1, rfl, hW, hb⟩
      have ht := HTold.out _ _ _ hW
      simp only [Int.reduceToNat] at ht
      have HB := Lib.hid hb
      have k0 := cell_below H0.out hb
      have k1 := cell_below H1.out hb
      have k2 := cell_below H2.out hb
      have k3 := cell_below H3.out hb
      clear hb hW h0 h1 h2 h3
      go_wp2_with fail
      refine (l00In_any _ _ _ _).mono ?_
      rintro e w' ⟨he, rfl⟩
      rw [HP.out] at he
      subst he
      go_wp2_with (go_at_call 64; refine (l07Parts_any _ _ _ _ (Lib.hid (Kd.C_below HR.out HB.out))).mono ?_; rintro e w' ⟨rfl, rfl⟩)
      go_ret
      exact ⟨ret_bool (by simp [vStep4, vNums, formN, formK, formT, HP.out, show inB (3 : Int) 1 13 = true from rfl]), HB.out⟩
  all_goals
    have H0 := Lib.hid h0
    have H1 := Lib.hid h1
    have H2 := Lib.hid h2
    have H3 := Lib.hid h3
    go_enter Tryd.func37, Tryd.ntmps37
    go_wp2_with fail
    refine (l00In_any _ _ _ _).mono ?_
    rintro e w' ⟨he, rfl⟩
    rw [show inB _ 1 13 = true from rfl] at he
    subst he
    go_wp2_with fail
    refine (words_any _).mono ?_
    rintro e w1 ⟨g0, c0, g1, c1, rfl, hW, hb⟩
    have ht := HTold.out _ _ _ hW
    simp only [Int.reduceToNat] at ht
    have HB := Lib.hid hb
    have k0 := cell_below H0.out hb
    have k1 := cell_below H1.out hb
    have k2 := cell_below H2.out hb
    have k3 := cell_below H3.out hb
    clear hb hW h0 h1 h2 h3
    go_wp2_with fail
    go_ret
    refine ⟨ret_bool ?_, HB.out⟩
    first
      | (simp [vStep4, formN, formK, formT, HM.out]; done)
      | (simp [vStep4, formN, formK, formT, HN.out]; done)

set_option maxHeartbeats 400000 in
theorem l07Step_any (k : Int) (b o : Nat) (n m : Int) (A : Option Addr) (c : Nat) (l : List Int) (w : World) (h1 : w.cell? ⟨b, o + 1, none⟩ = some (.int .i64 n)) (h2 : w.cell? ⟨b, o + 2, none⟩ = some (.int .i64 m)) (h3 : w.cell? ⟨b, o + 3, none⟩ = some (.slice A l.length c)) (h0 : w.cell? ⟨b, o, none⟩ = some (.int .i64 k)) (HR : Hid (Kd.C (Kd.int .i64) w A l.length l)) :
    Calls Tryd.prog 37 #[.pointer (some ⟨b, o, none⟩)] w fun e w' => e = .returned (.bool (vStep4 k n m l)) ∧ Below w.heap.size w w' := by
  cases hi : inB k 1 13
  · have HI := Lib.hid hi
    clear hi
    go_enter Tryd.func37, Tryd.ntmps37
    go_wp2_with fail
    refine (l00In_any _ _ _ _).mono ?_
    rintro e w' ⟨he, rfl⟩
    rw [HI.out] at he
    subst he
    go_wp2_with fail
    go_ret
    exact ⟨ret_bool (by simp [vStep4, HI.out]), Below.refl _ _⟩
  · have h := hi
    simp [inB] at h
    have hc : k = 1 ∨ k = 4 ∨ k = 3 ∨ (k = 2 ∨ k = 5 ∨ k = 6 ∨ k = 7 ∨ k = 8 ∨ k = 9 ∨ k = 10) ∨ (k = 11 ∨ k = 12 ∨ k = 13) := by omega
    rcases hc with hc | hc | hc | hc | hc
    · exact l07Step_1 k hc b o n m A c l w h1 h2 h3 h0
    · exact l07Step_4 k hc b o n m A c l w h1 h2 h3 h0
    · exact l07Step_3 k hc b o n m A c l w h1 h2 h3 HR h0
    · exact l07Step_n k hc b o n m A c l w h1 h2 h3 h0
    · exact l07Step_0 k hc b o n m A c l w h1 h2 h3 h0
end Go.Proofs.YtdleofaikjkndaaDoor
