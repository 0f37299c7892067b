/- The reference's small functions of steps. -/
import Derived.Test.YtdleofaikjkndaaDoorPlanVS
import Derived.Test.YtdleofaikjkndaaDoorPFnExactJoinPlansx1
namespace Go.Proofs.YtdleofaikjkndaaDoor
open Go.RowKit Go.Proofs.YtdleofaikjkndaaDoorW.PrintWords Go.Proofs.YtdleofaikjkndaaDoor.PFnExactJoinPlans

set_option maxHeartbeats 400000 in
theorem l00In_any (x a b : Int) (w : World) :
    Calls Tryd.prog 62 #[.int .i64 x, .int .i64 a, .int .i64 b] w fun e w' => e = .returned (.bool (inB x a b)) ∧ w = w' := by
  go_enter Tryd.func62, Tryd.ntmps62
  go_wp2
  all_goals (go_ret; exact ⟨ret_bool (by simp [inB]; omega), rfl⟩)

set_option maxHeartbeats 400000 in
theorem turnCode_any (n k : Int) (w : World) :
    Calls Tryd.prog 65 #[.int .i64 n, .int .i64 k] w fun e w' => e = .returned (.int .i64 (if (inB n 1 1024 && inB k 0 (n - 1)) = true then 0 else 2)) ∧ w = w' := by
  cases h1 : inB n 1 1024 with
  | true =>
    have hb : 1 ≤ n ∧ n ≤ 1024 := by simpa [inB] using h1
    have hb1 := hb.1
    have hb2 := hb.2
    have H1 := Lib.hid h1
    clear h1 hb
    cases h2 : inB k 0 (n - 1)
    all_goals
      have H2 := Lib.hid h2
      clear h2
      go_enter Tryd.func65, Tryd.ntmps65
      go_wp2_with fail
      refine (l00In_any _ _ _ _).mono ?_
      rintro e w' ⟨he, rfl⟩
      rw [H1.out] at he
      subst he
      go_wp2_with fail
      refine (l00In_any _ _ _ _).mono ?_
      rintro e w' ⟨he, rfl⟩
      rw [H2.out] at he
      subst he
      go_wp2_with fail
      go_ret
      exact ⟨rfl, rfl⟩
  | false =>
    have H1 := Lib.hid h1
    clear h1
    go_enter Tryd.func65, Tryd.ntmps65
    go_wp2_with fail
    refine (l00In_any _ _ _ _).mono ?_
    rintro e w' ⟨he, rfl⟩
    rw [H1.out] at he
    subst he
    go_wp2_with fail
    go_ret
    exact ⟨rfl, rfl⟩

set_option maxHeartbeats 1000000 in
theorem l07Parts_any (A : Option Addr) (c : Nat) (l : List Int) (w : World) (HR : Hid (Kd.C (Kd.int .i64) w A l.length l)) :
    Calls Tryd.prog 64 #[.slice A l.length c] w fun e w' => e = .returned (.bool (l.all pieceB)) ∧ w = w' := by
  have hmax : l.length ≤ 9223372036854775807 := Kd.C_max HR.out
  go_enter Tryd.func64, Tryd.ntmps64
  go_wp2_with fail
  go_loop [3] (fun i => ∃ k : Nat, k ≤ l.length ∧ i = .int .i64 k ∧ Hid ((l.take k).all pieceB = true)) (fun i => l.length - (intOf i).toNat)
  case atStart => exact ⟨0, by omega, rfl, by simp [Hid]⟩
  case round =>
    obtain ⟨k, hk, rfl, HJ⟩ := hrel
    by_cases hlt : k < l.length
    · obtain ⟨ad, rfl, hc⟩ := ints_at HR.out hlt
      cases hp : pieceB l[k] with
      | true =>
        have HP : Hid (inB l[k] (-256) 256 = true) := hp
        have HP2 := Lib.hid hp
        clear hp
        go_wp2_with fail
        refine (l00In_any _ _ _ _).mono ?_
        rintro e w' ⟨he1, rfl⟩
        rw [HP.out] at he1
        subst he1
        go_wp2_with fail
        go_round
        case rel =>
          refine ⟨k + 1, by omega, by go_num, ?_⟩
          unfold Hid
          rw [List.take_succ_eq_append_getElem hlt, List.all_append, HJ.out]
          simp [HP2.out]
        case measure => simp [intOf]; omega
      | false =>
        have HP : Hid (inB l[k] (-256) 256 = false) := hp
        have hfin : l.all pieceB = false := by
          rw [List.all_eq_false]
          exact ⟨l[k], List.getElem_mem _, by rw [hp]; simp⟩
        have HF := Lib.hid hfin
        clear hfin hp
        go_wp2_with fail
        refine (l00In_any _ _ _ _).mono ?_
        rintro e w' ⟨he1, rfl⟩
        rw [HP.out] at he1
        subst he1
        go_wp2_with fail
        go_ret
        exact ⟨ret_bool HF.out.symm, rfl⟩
    · obtain rfl : k = l.length := by omega
      go_wp2_with fail
      go_ret
      refine ⟨ret_bool ?_, rfl⟩
      have := HJ.out
      rw [List.take_length] at this
      rw [this]

/-- How many numbers a kind mentions, -1 for taps; and its word. -/
def toldL : List Int := [0, 2, 1, -1, 2, 1, 1, 1, 1, 1, 1, 0, 0, 0]
def wordL : List ByteArray := [(⟨#[]⟩ : ByteArray), (⟨#[103, 97, 105, 110]⟩ : ByteArray), (⟨#[100, 101, 108, 97, 121]⟩ : ByteArray), (⟨#[102, 105, 108, 116, 101, 114]⟩ : ByteArray), (⟨#[116, 117, 114, 110]⟩ : ByteArray), (⟨#[107, 101, 101, 112]⟩ : ByteArray), (⟨#[115, 116, 117, 102, 102]⟩ : ByteArray), (⟨#[98, 108, 111, 99, 107]⟩ : ByteArray), (⟨#[98, 97, 99, 107]⟩ : ByteArray), (⟨#[102, 108, 105, 112]⟩ : ByteArray), (⟨#[115, 117, 109]⟩ : ByteArray), (⟨#[110, 97, 114, 114, 111, 119]⟩ : ByteArray), (⟨#[109, 105, 114, 114, 111, 114]⟩ : ByteArray), (⟨#[115, 113, 117, 97, 114, 101]⟩ : ByteArray)]
structure WordsAt (w : World) (g0 g1 : Nat) : Prop where
  word : ∀ (k : Nat) s, wordL[k]? = some s → w.cell? ⟨g0, k, none⟩ = some (.string s)
  told : ∀ (k : Nat) n, toldL[k]? = some n → w.cell? ⟨g1, k, none⟩ = some (.int .i64 n)
def WordsPost (w : World) (e : Ending) (w' : World) : Prop := ∃ g0 c0 g1 c1, e = .returned (.tuple #[.slice (some ⟨g0, 0, none⟩) 14 c0, .slice (some ⟨g1, 0, none⟩) 14 c1]) ∧ WordsAt w' g0 g1 ∧ Below w.heap.size w w'
theorem WordsAt.below {w w1 : World} {g0 g1 : Nat} (h : WordsAt w g0 g1) (hb : Below w.heap.size w w1) : WordsAt w1 g0 g1 :=
  ⟨fun k s hs => cell_below (h.word k s hs) hb, fun k n hn => cell_below (h.told k n hn) hb⟩

theorem words_any (w : World) : Calls Tryd.prog 63 #[] w (WordsPost w) := by
  refine (spec_l07Words.calls wordL toldL w rfl).mono ?_
  rintro e w' ⟨v0, v1, rfl, h0, h1, hb⟩
  obtain ⟨g0, c0, rfl, _⟩ := Kd.R_form h0 (by decide)
  obtain ⟨g1, c1, rfl, _⟩ := Kd.R_form h1 (by decide)
  refine ⟨g0, c0, g1, c1, rfl, ⟨fun k s hs => ?_, fun k n hn => ?_⟩, hb⟩
  · obtain ⟨hk, e⟩ := List.getElem?_eq_some_iff.1 hs
    have := (Kd.R_celln (ByteArray.empty) h0 (k : Int) (by omega) (by omega)).1
    simp only [Int.toNat_natCast] at this
    rw [this]
    simp [rdOf, List.getD_eq_getElem?_getD, hs]
  · obtain ⟨hk, e⟩ := List.getElem?_eq_some_iff.1 hn
    have := (Kd.R_celln (0 : Int) h1 (k : Int) (by omega) (by omega)).1
    simp only [Int.toNat_natCast] at this
    rw [this]
    simp [rdOf, List.getD_eq_getElem?_getD, hn]
end Go.Proofs.YtdleofaikjkndaaDoor
